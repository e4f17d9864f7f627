/- Part of a proof, packed. -/
import Derived.Test.YtcocagkbfpgmiaaGreatDoorC1
open Go.Proofs.Tryz
set_option maxRecDepth 100000
set_option maxHeartbeats 3200000
namespace Go.Proofs.YtcocagkbfpgmiaaGreatDoor.Pv
open Go
def PCalls(P:Program)(f:FuncId)(args:List PV)(S:Store)(Q:PV->Store->Prop):Prop :=
 ∀(C:Ctx) (w:World) (vs:Array Value),Sim C S w->args.length=vs.size->(∀(i:Nat) (c:PV) (v:Value),args[i]?=some c->vs[i]?=some v->Rel C S w c v) ->
  Calls P f vs w λe w'=>∃p v S' C',e=.returned v/\Q p S'/\Rel C' S' w' p v/\Sim C' S' w'/\Step C S w C' S' w'
theorem PCalls.mono{P:Program}{f:FuncId}{args:List PV}{S:Store}{Q Q':PV->Store->Prop}(h:PCalls P f args S Q)(hq:∀p S',Q p S'->Q' p S'):PCalls P f args S Q':=by
 intro C w vs h1 h2 h3;refine(h C w vs h1 h2 h3).mono ?_
 grind
def PCallsV(P:Program)(V:Ctx->Store->World->Prop)(f:FuncId)(args:List PV)(S:Store)(Q:PV->Store->Prop):Prop :=
 ∀(C:Ctx) (w:World) (vs:Array Value),Sim C S w->V C S w->args.length=vs.size->(∀(i:Nat) (c:PV) (v:Value),args[i]?=some c->vs[i]?=some v->Rel C S w c v) ->
  Calls P f vs w λe w'=>∃p v S' C',e=.returned v/\Q p S'/\Rel C' S' w' p v/\Sim C' S' w'/\Step C S w C' S' w'
theorem PCalls.v{P:Program}{V:Ctx->Store->World->Prop}{f:FuncId}{args:List PV}{S:Store}{Q:PV->Store->Prop}(h:PCalls P f args S Q):PCallsV P V f args S Q:=λC w vs hS _=>h C w vs hS
theorem PCallsV.mono{P:Program}{V:Ctx->Store->World->Prop}{f:FuncId}{args:List PV}{S:Store}{Q Q':PV->Store->Prop}(h:PCallsV P V f args S Q)(hq:∀p S',Q p S'->Q' p S'):PCallsV P V f args S Q':=by
 intro C w vs h1 h2 h3 h4;refine(h C w vs h1 h2 h3 h4).mono ?_
 grind
def qg(P:Program)(f:FuncId):Prop:=∀(args:Array Value) (w:World),(callFunc f args).run P w=.ok (.enter f args) w
section
variable {P:Program} {r:Rd} {n N:Nat} {Q:Exit->(Nat->PV)->Store->Prop} {F:Nat->PV} {S:Store}
theorem Zap{f:FuncId}{args:Array Value}{w:World}{R:Ending->World->Prop}(h:Calls P f args w R):CallsIn (Fe r) n P f args w R:=by
 exact(callsIn_wide (n:=n)).2 h
theorem Zdr{o:Oper}{c:Call}{x:Operand}{k:FuncId}{fs cs:List PV}{K:PV->Store->Prop}{R:PV->Store->Prop}(ho:o.op=.call c)(hc:c.callee=.value x)(hx:ev F x=.fn (.func k) fs cs)(hE:qg P k)
  (h:PCallsV P r.V k (fs++c.args.toList.map (ev F)++cs) S R) (hK:∀p S',R p S'->K p S'):PO P r n o F S K:=by
 intro G hG C w a N st next Q' hnext;have hxo:x∈o.op.operands:=by simp[ho,Op.operands,Call.operands,hc]
 have hxG:ev G x=.fn (.func k) fs cs:=(hG x hxo).trans hx;have harg:∀y∈c.args.toList,ev G y=ev F y:=λy hy=>hG y (by simp_all[Op.operands,Call.operands])
 have hmap:c.args.toList.map (ev F)=c.args.toList.map (ev G):=Bd λy hy=>(harg y hy).symm
 rw[hmap]at h;have hrel:=st.ev x;rw[hxG]at hrel;generalize hv:a.eval x=v at hrel;cases hrel with
 | fn hf hc' h1 h2 =>
  rename_i fv cv;have hrun:(execOp a.eval o).run P w=.ok (.enter k ((fv++c.args.map a.eval)++cv)) w:=by
   unfold execOp;simp only[ho,resolve,hc,hv,Deferred.ofValue,Sem.run_bind,Sem.run_pure,Aj,invoke];exact hE _ w
  refine qf (x:=.enter k ((fv++c.args.map a.eval)++cv)) (w':=w) DJ hrun ?_;rw[Oper.uponIn_enter];refine⟨λhd=>?_,?_⟩
  ·cases hd
  ·have hlist:=Xb (l:=c.args.toList) st.ev;simp only[Array.toArray_toList]at hlist;have key:=h C w ((fv++c.args.map a.eval)++cv) st.sim st.v (by simp[hf,hc']) (by
    intro i p v hp hv
    by_cases q1:i<fs.length
    ·rw[List.append_assoc,An q1]at hp;rw[Array.append_assoc,Bl DB]at hv;exact h1 i p v hp hv
    ·by_cases q2:i<fs.length+(c.args.toList.map (ev G)).length
     ·rw[List.append_assoc,Ai DB,An DB]at hp;rw[Array.append_assoc,BI DB,Bl (by simp at q2 ⊢;omega)]at hv;rw[<-hf]at hv;exact hlist.2 _ p v hp hv
     ·rw[Ai (by simp at q2 ⊢;omega),Aq]at hp;rw[BI (by simp at q2 ⊢;omega),Ch]at hv;have e:fs.length+(c.args.toList.map (ev G)).length=fv.size+(c.args.map a.eval).size:=by simp[hf]
      rw[<-e]at hv;exact h2 _ p v hp hv)
   refine(Zap key).mono ?_
   grind
theorem Qt{o:Oper}{c:Call}{x:Operand}{k:FuncId}{fs cs:List PV}{K:PV->Store->Prop}{R:PV->Store->Prop}(ho:o.op=.call c)(hc:c.callee=.value x)(hx:ev F x=.fn (.func k) fs cs)(hE:qg P k)
  (h:PCalls P k (fs++c.args.toList.map (ev F)++cs) S R) (hK:∀p S',R p S'->K p S'):PO P r n o F S K :=
 Zdr ho hc hx hE h.v hK
def ud(args:List PV):Nat->PV:=λi=>args.getD i (.sc undef)
def xW(P:Program)(F:Nat->PV)(S:Store):List ResultVar->Option (List PV)
 | []=>some []
 | .tmp t :: rs=>(xW P F S rs).map (F t :: ·)
 | .cell a t :: rs =>
  match uU P t S (F a) with
  | some p=>(xW P F S rs).map (p :: ·)
  | none=>none
def zq:List PV->PV
 | [p]=>p
 | ps=>.tup ps
def uV(P:Program)(rs:List ResultVar)(Q:PV->Store->Prop):Exit->(Nat->PV)->Store->Prop
 | .normal,F,S=>∃ps S',xW P F S rs=some ps/\Q (zq ps) S'/\∀o,S' o=S o\/S' o=.dead
 | .ret,F,S=>∃ps S',xW P F S rs=some ps/\Q (zq ps) S'/\∀o,S' o=S o\/S' o=.dead
 | _,_,_=>False
def Xh(a:Act)(x:ResultVar):Sem Value :=
 match x with
 | .tmp t=>pure (a.tmps.getD t undef)
 | .cell x t=>do loadVar t (<-asAddr (a.tmps.getD x undef))
theorem ZiN{C:Ctx}{w:World}{a:Act}(st:St r C S w N F a):∀(rs:List ResultVar) (ps:List PV),xW P F S rs=some ps ->
  ∃vs:List Value,(rs.mapM (Xh a)).run P w=.ok vs w/\ps.length=vs.length /\
   ∀(i:Nat) (p:PV) (v:Value),ps[i]?=some p->vs[i]?=some v->Rel C S w p v:=by
 intro rs
 induction rs with
 | nil=>intro ps h;cases h;simp
 | cons x rs ih =>
  intro ps h;cases x with
  | tmp t =>
   simp only[xW]at h;obtain⟨qs,hq,rfl⟩:=Am.1 h;obtain⟨vs,h1,h2,h3⟩:=ih qs hq;refine⟨a.tmps.getD t undef :: vs,?_,by simp[h2],?_⟩
   ·simp_all[Xh]
   ·intro i p v hp hv;cases i with
    | zero=>simp only[A3,Option.some.injEq]at hp hv;subst hp;subst hv;exact st.fr t
    | succ i=>grind
  | cell y t =>
   simp only[xW]at h;split at h
   ·rename_i p0 hp0;obtain⟨qs,hq,rfl⟩:=Am.1 h;obtain⟨vs,h1,h2,h3⟩:=ih qs hq;obtain⟨u,hu,hrel⟩:=Zdi hp0 st.sim (st.fr y);have haddr:∃ad,a.tmps.getD y undef=.pointer (some ad):=by
     have hy:=st.fr y;generalize a.tmps.getD y undef=u0 at hy;unfold uU at hp0;split at hp0
     ·rename_i e;rw[e]at hy;cases hy with | ptr hh=>exact hh
     ·rename_i e;rw[e]at hy;cases hy with | ip=>exact⟨_,rfl⟩
     ·cases hp0
    obtain⟨ad,had⟩:=haddr;rw[had]at hu;refine⟨u :: vs,?_,by simp[h2],?_⟩<;>grind[Instr.loadAt,Instr.sureAddr,Sem.run_bind,Sem.run_pure,Result.andThen_ok,Xh,asAddr]
   ·cases h
theorem ZiO{C:Ctx}{w:World}{a:Act}(st:St r C S w N F a){fn:Func}{rs:List ResultVar}(hrs:fn.results.toList=rs){ps:List PV}(h:xW P F S rs=some ps):
  ∃v,(results fn a.tmps).run P w=.ok v w/\Rel C S w (zq ps) v:=by
 obtain⟨vs,h1,h2,h3⟩:=ZiN (P:=P) st rs ps h;have hm:(fn.results.mapM (Xh a)).run P w=.ok vs.toArray w:=by
  rw[<-Array.toArray_toList (xs:=fn.results),List.mapM_toArray,hrs];simp only[Sem.run_map,h1,Aj]
 have e:∀g:ResultVar->Sem Value,g=Xh a->(fn.results.mapM g).run P w=.ok vs.toArray w:=by rintro g rfl;exact hm
 unfold results;rw[Sem.run_bind,e _ (by funext x;cases x<;>rfl)];simp only[Aj,Sem.run_pure];refine⟨_,rfl,?_⟩
 match vs,ps,h2 with
 | [v],[p],_=>exact h3 0 p v rfl rfl
 | [],[],_=>exact .tup rfl DC
 | v :: v' :: vs,p :: p' :: ps,h2 =>
  simp only[BG,Au];rw[dif_neg DB];exact .tup DB (λi c v hc hv=>h3 i c v hc (by simpa using hv))
theorem Zds{w:World}{D:Nat}(hD:w.heap[D]?=some (.deferred (some [])))(b:Nat)(o:Obj)(hb:w.heap[b]?=some o)(ho:∀x,o≠.deferred x):(w.putObj D (.deferred none)).heap[b]?=some o:=by grind[World.putObj_heap_other]
theorem Zdt{C:Ctx}{w:World}{D:Nat}(hD:w.heap[D]?=some (.deferred (some []))){p:PV}{v:Value}(hr:Rel C S w p v):Rel C S (w.putObj D (.deferred none)) p v:=by
 have hne:=Zds hD
 induction hr with
 | junk v=>exact .junk v
 | sc v=>exact .sc v
 | agg hl h1 _ ih=>exact .agg hl h1 ih
 | tup hl _ ih=>exact .tup hl ih
 | lst0=>exact .lst0
 | lst1 hn hm hb hM' hs h1 _ ih=>exact .lst1 hn hm (hne _ _ hb DC) hM' hs h1 ih
 | ip hb hM' hs h1 _ ih=>exact .ip (hne _ _ hb DC) hM' hs h1 ih
 | nl0=>exact .nl0
 | nl hn hb hM' hl h1 _ ih=>exact .nl hn (hne _ _ hb DC) hM' hl h1 ih
 | ptr h1 ho h=>exact .ptr h1 ho h
 | sl h1 ho h=>exact .sl h1 ho h
 | fn hf hc _ _ ih ih'=>exact .fn hf hc ih ih'
 | ifc _ ih=>exact .ifc ih
 | mp h1 ho h=>exact .mp h1 ho h
theorem Sim.take{C:Ctx}{S:Store}{w:World}(h:Sim C S w){D:Nat}(hD:w.heap[D]?=some (.deferred (some [])))(hM:¬C.M S D):Sim C S (w.putObj D (.deferred none)):=by
 have hne:=Zds hD;have hrel:∀{p v},Rel C S w p v->Rel C S (w.putObj D (.deferred none)) p v:=λhr=>Zdt hD hr
 refine⟨h.lt,h.clk,h.dist,?_,?_⟩
 ·intro o ver e cs hs;rcases h.cells o ver e cs hs with hn | ⟨b,k,c,h1,h2,h3,h4,h5,h6⟩<;>grind
 ·intro o ver es hs;obtain⟨b,k,ms,cl,h1,h2,h3,h4⟩:=h.maps o ver es hs
  grind
theorem Marks.take{n0:Nat}{C:Ctx}{S:Store}{w:World}{D:Nat}:∀{ds:List Deferred},(∀d∈ds,d≠{ target:=.collected D,args:=#[] })->Marks n0 C S w ds->Marks n0 C S (w.putObj D (.deferred none)) ds
 | [],_,_=>trivial
 | d :: ds,hne,⟨⟨D',h1,h2,h3,h4,h5⟩,h⟩=>by
  refine⟨⟨D',h1,h2,?_,h4,h5⟩,Marks.take (λd' hd'=>hne d' (by simp[hd'])) h⟩
  simp_all[Bm]
theorem ZiP{C0:Ctx}{S0:Store}{w0:World}{fn:Func}{tmps:Array Value}{rs:List ResultVar}{Q:PV->Store->Prop}{S1:Store}{ps:List PV}(hrs:fn.results.toList=rs)(h1:xW P F S rs=some ps)(hQ:Q (zq ps) S1)(hk:∀o,S1 o=S o\/S1 o=.dead):
  ∀(ds:List Deferred) (C:Ctx) (w:World),Marks w0.heap.size C S w ds->St wU C S w N F { tmps:=tmps,defers:=[] }->Step C0 S0 w0 C S w ->
   LeavesInM (Fe wU) 0 P fn tmps (λe w'=>∃p v S' C',e=.returned v/\Q p S'/\Rel C' S' w' p v/\Sim C' S' w'/\Step C0 S0 w0 C' S' w') ds .returning w:=by
 intro ds
 induction ds with
 | nil =>
  intro C w _ st step;obtain⟨v,hv,hrel⟩:=ZiO (a:={ tmps:=tmps,defers:=[] }) st hrs h1;obtain⟨k1,k2⟩:=st.sim.kill hk;exact⟨v,hv,_,v,S1,C,rfl,hQ,hrel.mono k2,k1,step.trans k2⟩
 | cons d ds ih =>
  intro C w ⟨⟨D,q1,q2,q3,q4,q5⟩,hm⟩ st step;refine⟨by simp,.inl ⟨D,w.putObj D (.deferred none),by rw[q2],run_takeDeferred q3,?_⟩⟩;have hDlt:=qn q3;have sim':=st.sim.take q3 q4;refine ih C _ (Marks.take (λd' hd'=>q2 ▸ q5 d' hd') hm) ⟨sim',st.size,λi=>?_,trivial⟩ ?_
  ·have hr:=st.fr i
   simp_all[Zdt]
  ·refine⟨step.os,step.tape,step.output,by simpa using step.size,step.next,step.clock,λb hb hM=>?_,step.vers⟩;obtain⟨k1,k2⟩:=step.blocks b hb hM
   grind[World.putObj_heap_other]
theorem Zaq{V:Ctx->Store->World->Prop}{keep:∀{C C':Ctx} {S S':Store} {w w':World},Step C S w C' S' w'->V C S w->V C' S' w'}{f:FuncId}{fn:Func}{c:Code}{rs:List ResultVar}{args:List PV}{Q:PV->Store->Prop}(hf:P.funcs[f]?=some fn)(hb:fn.body=some c)(hN:fn.ntmps=N)(hrs:fn.results.toList=rs)(hargs:args.length<=N)
  (h:PW P ⟨none,V,keep⟩ 0 N c (uV P rs Q) (ud args) S):PCallsV P V f args S Q:=by
 intro C w vs hS hV hl hr;refine(callsIn_wide (n:=0)).1 (callsIn_of_wp_marks hf hb trivial ?_ rfl);have st:St ⟨none,V,keep⟩ C S w N (ud args) { tmps:=vs++Array.replicate (fn.ntmps-vs.size) undef,defers:=[] }:=by
  refine⟨hS,by simp[hN];omega,λi=>?_,hV⟩;unfold ud;simp only[AV,Aa]
  by_cases hi:i<args.length
  ·grind
  ·rw[Ak DB,BI DB,Da];split<;>exact .sc _
 refine wpIn_mono (h C w _ st) ?_;rintro e a' w' ⟨F',S',C',hq,hst,⟨ms,hd,hm⟩,hstep⟩;have main:(∃ps S'',xW P F' S' rs=some ps/\Q (zq ps) S''/\∀o,S'' o=S' o\/S'' o=.dead) ->
   LeavesInM (Fe wU) 0 P fn a'.tmps (λe w'=>∃p v S' C',e=.returned v/\Q p S'/\Rel C' S' w' p v/\Sim C' S' w'/\Step C S w C' S' w') a'.defers .returning w':=by
  rintro⟨ps,S'',h1,h2,h3⟩;rw[hd,AF];exact ZiP hrs h1 h2 h3 ms C' w' hm ⟨hst.sim,hst.size,hst.fr,trivial⟩ hstep
 cases e with
 | normal=>exact main hq
 | ret=>exact main hq
 | _=>exact hq.elim
theorem wW{f:FuncId}{fn:Func}{c:Code}{rs:List ResultVar}{args:List PV}{Q:PV->Store->Prop}(hf:P.funcs[f]?=some fn)(hb:fn.body=some c)(hN:fn.ntmps=N)(hrs:fn.results.toList=rs)(hargs:args.length<=N)
  (h:PW P wU 0 N c (uV P rs Q) (ud args) S):PCalls P f args S Q :=
 λC w vs hS hl hr=>Zaq hf hb hN hrs hargs h C w vs hS trivial hl hr
theorem Z8{c:Code}{F':Nat->PV}{S':Store}(hg:∀C w a,St r C S w N F a->∃C',St r C' S' w N F' a/\Step C S w C' S' w)(h:PW P r n N c Q F' S'):PW P r n N c Q F S:=by
 intro C w a st;obtain⟨C',st',hstep⟩:=hg C w a st;refine wpIn_mono (h C' w a st') ?_;rintro e a' w' ⟨F2,S2,C2,h1,h2,h3,h4⟩;exact⟨F2,S2,C2,h1,h2,h3,hstep.trans h4⟩
theorem ZiQ{c:Code}{F':Nat->PV}(hF:∀i,F' i=F i\/F' i=.junk)(h:PW P r n N c Q F' S):PW P r n N c Q F S :=
 Z8 (λC w a st=>⟨C,⟨st.sim,st.size,λi=>by rcases hF i with e | e<;>rw[e];exact st.fr i;exact .junk _,st.v⟩,.refl _ _ _⟩) h
def Jg(P:Program)(ops:Array Oper):List Oper->(Nat->PV)->Option (Nat->PV)
 | [],F=>some F
 | o :: os,F =>
  match gd ops F o with
  | none=>none
  | some false=>Jg P ops os (z6 F o.dst (.sc undef))
  | some true =>
   match wT P F o with
   | some p=>Jg P ops os (z6 F o.dst p)
   | none=>none
theorem Zar{ops:Array Oper}{K:(Nat->PV)->Store->Prop}:∀(l:List Oper) (F F':Nat->PV),Jg P ops l F=some F'->K F' S->vZ P r n [] ops l F S K
 | [],F,F',h,hK=>by cases h;exact hK
 | o :: os,F,F',h,hK=>by
  have hb:WA [] o=false:=by unfold WA;split<;>rfl
  simp only[Jg]at h;simp only[vZ];split at h
  ·cases h
  ·rename_i hg;simp only[hg];exact Zar os _ _ h hK
  ·rename_i hg;simp only[hg,hb,AP,if_false];split at h
   ·rename_i p hp;simp only[hp];exact Zar os _ _ h hK
   ·cases h
theorem qx{id:Nat}{ops:Array Oper}{F':Nat->PV}(hN:wy N ops=true)(h:Jg P ops ops.toList F=some F')(hQ:Q .normal F' S):PW P r n N (.region id ops false) Q F S :=
 Zdj [] hN (Zar _ _ _ h hQ)
theorem yP{id:Nat}{ops:Array Oper}(H:List Nat)(hN:wy N ops=true)(h:∀K:(Nat->PV)->Store->Prop,(∀F' S',Q .normal F' S'->K F' S')->vZ P r n H ops ops.toList F S K):PW P r n N (.region id ops false) Q F S :=
 Zdj H hN (h _ λ_ _ h=>h)
def Qu(P:Program)(ops:Array Oper)(S:Store):List Oper->(Nat->PV)->Option (Nat->PV)
 | [],F=>some F
 | o :: os,F =>
  match gd ops F o with
  | none=>none
  | some false=>Qu P ops S os (z6 F o.dst (.sc undef))
  | some true =>
   match wT P F o with
   | some p=>Qu P ops S os (z6 F o.dst p)
   | none =>
    match Qr P none S F o with
    | some p=>Qu P ops S os (z6 F o.dst p)
    | none=>none
theorem ZiR{id:Nat}{ops:Array Oper}{F':Nat->PV}(hm:P.follows .mixedOrders=true)(hN:wy N ops=true)(hR:Qp ops=true)(hrow:xz ops [] [] (Row.pures (List.range ops.size) .done)=true)
  (h:Qu P ops S ops.toList F=some F') (hQ:Q .normal F' S):PW P r n N (.region id ops true) Q F S:=by
 refine WH none (Row.pures (List.range ops.size) .done) hm hN hR hrow ?_;have key:∀(m k:Nat) (G:Nat->PV),ops.size-k=m->Qu P ops S (ops.toList.drop k) G=some F'->PX P r n ops none S (Row.pures ((List.range ops.size).drop k) .done) G S (Q .normal):=by
  intro m
  induction m with
  | zero =>
   intro k G hk hrun;rw[BN DF]at hrun ⊢;cases hrun;exact hQ
  | succ m ih =>
   intro k G hk hrun;have hlt:k<ops.size:=DB
   rw[Zal k _ hlt];have e2:ops.toList.drop k=ops[k] :: ops.toList.drop (k+1):=by
    rw[AJ (by simpa using hlt)];simp
   grind[Qu,Row.pures,PX]
 exact key ops.size 0 F rfl (by simpa using h)
theorem Qv{id:Nat}{ops:Array Oper}(ids:Option (List Nat))(row:Row)(hm:P.follows .mixedOrders=true)(hN:wy N ops=true)(hR:Qp ops=true)(hrow:xz ops [] [] row=true)
  (h:∀K:(Nat->PV)->Store->Prop,(∀F' S',Q .normal F' S'->K F' S')->PX P r n ops ids S row F S K):PW P r n N (.region id ops true) Q F S :=
 WH ids row hm hN hR hrow (h _ λ_ _ h=>h)
end
open Go
section
variable {P:Program} {r:Rd} {n N:Nat} {Q:Exit->(Nat->PV)->Store->Prop} {F:Nat->PV} {S:Store}
theorem Zas{C:Ctx}{w:World}{cs:List PV}{vs:Array Value}(h:RelL C S w cs vs):cs.length<=vs.size/\(∀(i:Nat) (v:Value),i<cs.length->vs[i]?=some v->v.oneCell'=true) /\
  ∀(i:Nat) (p:PV) (v:Value),cs[i]?=some p->vs[i]?=some v->Rel C S w p v :=
 ⟨by rw[h.1];omega,λi v _ hv=>h.2.1 i v hv,h.2.2⟩
theorem Zdu(C:Ctx)(S:Store)(w w':World)(o ver k:Nat)(x:Ob)(hx:x.ver=some ver):Rel (C.put o ver (some (w.heap.size,k))) (S.set o x) w' (.ptr o ver 0) (.pointer (some ⟨w.heap.size,0,none⟩)):=by
 refine .ptr ⟨_,rfl⟩ (by simp only[Ctx.put];omega) λv0 hv0=>?_
 simp_all[q11,Ctx.put]
theorem Fresh.clock(C:Ctx){S:Store}{j:Nat}(h:S j=.dead):Fresh C S j C.clock:=⟨h,.inr (Af _)⟩
theorem Zdv{o:Oper}{t:TypeId}{z:Value}{K:PV->Store->Prop}(ho:o.op=.alloc t)(hz:Program.zeroOf P t=some z)(h1:z.cells.all (·.oneCell')=true)
  (hK:∀C:Ctx,S C.next=.dead->∃id v,Fresh C S id v/\K (.ptr id v 0) (S.set id (.cells v t (qZ z)))):PO P r n o F S K:=by
 intro G _ C w a N st next Q' hnext;have hr:=Zas (Zdc (C:=C) (S:=S) (w:=w) h1);obtain⟨id,ver,hfr,hK⟩:=hK C st.sim.free;obtain⟨k1,k2⟩:=st.sim.object' hfr t z.cells (qZ z) hr.1 hr.2.1 hr.2.2;refine qf (x:=.value (.pointer (some ⟨w.heap.size,0,none⟩))) (w':=w.alloc (.cells z.cells t)) (by intro c hc;rw[ho]at hc;cases hc) ?_ (hnext _ _ _ _ _ hK (Zdu C S w _ _ _ _ _ rfl) k1 k2);unfold execOp
 simp_all[Instr.alloc,Qn,newVar,newRow]
theorem ZiS{o:Oper}{t:TypeId}{x:Operand}{K:PV->Store->Prop}(ho:o.op=.box t x)(hf:(ev F x).fit=true)
  (hK:∀C:Ctx,S C.next=.dead->∃id v,Fresh C S id v/\K (.ptr id v 0) (S.set id (.cells v t (ev F x).cells))):PO P r n o F S K:=by
 intro G hG C w a N st next Q' hnext;have e:ev G x=ev F x:=hG x (by simp[ho,Op.operands]);rw[<-e]at hf;simp only[<-e]at hK;have hr:=Zas ((st.ev x).cells' hf);obtain⟨id,ver,hfr,hK⟩:=hK C st.sim.free;obtain⟨k1,k2⟩:=st.sim.object' hfr t (a.eval x).cells (ev G x).cells hr.1 hr.2.1 hr.2.2;refine qf (x:=.value (.pointer (some ⟨w.heap.size,0,none⟩))) (w':=w.alloc (.cells (a.eval x).cells t)) (by intro c hc;rw[ho]at hc;cases hc) ?_ (hnext _ _ _ _ _ hK (Zdu C S w _ _ _ _ _ rfl) k1 k2)
 simp_all[execOp,Instr.box,newVar,newRow]
theorem Xi(C:Ctx)(S:Store)(w w':World)(o ver k sz m cap:Nat)(x:Ob)(hx:x.ver=some ver)(hm:m<=cap)(hM:m<=jT)(hc:cap<=maxLen)(hk:cap*sz=k):
  Rel (C.put o ver (some (w.heap.size,k))) (S.set o x) w' (.sl o ver sz 0 m) (.slice (some ⟨w.heap.size,0,none⟩) m cap):=by
 refine .sl ⟨_,_,rfl,hm,hM,hc,λ_=>⟨_,_,rfl⟩⟩ (by simp only[Ctx.put];omega) λv0 hv0=>?_
 grind[q11,Ctx.put]
def Program.bytesOf'(P:Program)(t:TypeId):Option Nat:=(P.info? t).map (·.bytes)
theorem Zat{t:TypeId}{b:Nat}(h:Program.bytesOf' P t=some b)(w:World):∃i,(typeInfo t).run P w=.ok i w/\i.bytes=b:=by
 unfold Program.bytesOf' at h;obtain⟨i,hi,rfl⟩:=Am.1 h
 simp_all[typeInfo]
theorem ZiT{o:Oper}{t e:TypeId}{l c:Operand}{z:Value}{kl kc:IntKind}{a b by_:Nat}{K:PV->Store->Prop}(ho:o.op=.makeSlice t l c)(ht:P.underlying t=some (.slice e))(hl:ev F l=.sc (.int kl (a:Int)))(hc:ev F c=.sc (.int kc (b:Int)))
  (hz:Program.zeroOf P e=some z) (h1:z.cells.all (·.oneCell')=true) (hsz:z.cells.size=P.cellsOf e) (h0:P.cellsOf e≠0) (hby:Program.bytesOf' P e=some by_) (hab:a<=b) (hb:b<=140737488355328) (hbb:b*by_<=281474976710656)
  (hK:∀C:Ctx,S C.next=.dead->∃id v,Fresh C S id v/\K (.sl id v (P.cellsOf e) 0 a) (S.set id (.cells v e (yR b z)))):PO P r n o F S K:=by
 intro G hG C w act N st next Q' hnext;have e1:ev G l=_:=(hG l (by simp_all[Op.operands])).trans hl;have e2:ev G c=_:=(hG c (by simp_all[Op.operands])).trans hc;have r1:=st.ev l;have r2:=st.ev c;rw[e1]at r1;rw[e2]at r2;generalize hv1:act.eval l=v1 at r1;generalize hv2:act.eval c=v2 at r2;cases r1;cases r2;have hr:=Zas (Zde (C:=C) (S:=S) (w:=w) h1 b);obtain⟨id,ver,hfr,hK⟩:=hK C st.sim.free;obtain⟨k1,k2⟩:=st.sim.object' hfr e ((Array.range (b*z.cells.size)).map (z.cells[· % z.cells.size]!)) (yR b z) hr.1 hr.2.1 hr.2.2;obtain⟨i,hi,hib⟩:=Zat hby w;have wrapb:IntKind.i64.wrap (b:Int)=b:=IntWalk.i64_in _ ⟨by omega,by omega⟩;have wrapa:IntKind.i64.wrap (a:Int)=a:=IntWalk.i64_in _ ⟨by omega,by omega⟩;refine qf (x:=.value (.slice (some ⟨w.heap.size,0,none⟩) a b)) (w':=w.alloc (.cells ((Array.range (b*z.cells.size)).map (z.cells[· % z.cells.size]!)) e)) DI ?_
  (hnext _ _ _ _ _ hK (Xi C S w _ _ _ _ _ _ _ _ rfl hab (by unfold jT;omega) (by unfold maxLen;omega) DI) k1 k2)
 unfold execOp;simp only[ho,hv1,hv2,Instr.makeSlice,Sem.run_bind,run_underlying ht,Aj,asInt,asIntOf,Sem.run_pure,hi,hib,wrapa,wrapb];have hcast:(by_:Int)*(b:Int)<=281474976710656:=by
  obtain⟨q,hq⟩:∃q,b*by_=q:=⟨_,rfl⟩;have e:(by_:Int)*(b:Int)=(q:Int):=by rw[<-hq,Int.natCast_mul,Int.mul_comm]
  rw[e];rw[hq]at hbb;omega
 have p48:(2:Int) ^ 48=281474976710656:=rfl;have q1:decide ((b:Int)<0)=false:=decide_eq_false DB;have q2:decide ((by_:Int)*(b:Int) > 2 ^ 48)=false:=decide_eq_false DB;have q3:decide ((a:Int)<0)=false:=decide_eq_false DB;have q4:decide ((a:Int) > (b:Int))=false:=decide_eq_false DB;rw[if_neg (by rw[q1,q2,q3,q4];decide)];simp only[Sem.run_bind,run_askRoom,Aj,AL,wS h0]
 by_cases hb0:b=0
 ·subst hb0;simp only[CI,if_true,Sem.run_pure,Aj,Sem.run_bind,newRow,run_newObj,C7,Dp,Dt]
 ·have hne:b*P.cellsOf e≠0:=Nat.mul_ne_zero hb0 h0;rw[if_neg hne];simp only[Sem.run_bind,Qn hz,Aj,Sem.run_pure,newRow,run_newObj,Dt,hsz]
theorem ZiU{S:Store}{X:Nat->Nat->Prop}(h:∀id,S id=.dead->X id 0):∀C:Ctx,S C.next=.dead->∃id v,Fresh C S id v/\X id v:=λC hd=>⟨C.next,0,⟨hd,.inl (Af _)⟩,h _ hd⟩
theorem Zp{S:Store}{X:Nat->Nat->Prop}(j:Nat)(hj:S j=.dead)(h:∀v,X j v):∀C:Ctx,S C.next=.dead->∃id v,Fresh C S id v/\X id v:=λC _=>⟨j,C.clock,.clock C hj,h _⟩
theorem Qw{o:Oper}{t:TypeId}{z:Value}{K:PV->Store->Prop}(ho:o.op=.alloc t)(hz:Program.zeroOf P t=some z)(h1:z.cells.all (·.oneCell')=true)
  (hK:∀id,S id=.dead->K (.ptr id 0 0) (S.set id (.cells 0 t (qZ z)))):PO P r n o F S K :=
 Zdv ho hz h1 (ZiU (X:=λid v=>K (.ptr id v 0) (S.set id (.cells v t (qZ z)))) hK)
structure SrcOk (P:Program) (w:World) (sz:Nat) (x:Value) (m:Nat) (news:List Value):Prop where
 len:(Builtin.lenOf x).run P w=.ok m w
 cells:(Builtin.firstCells sz m x).run P w=.ok news.toArray w
 cells':(Builtin.firstCells sz m x).run P w.drew=.ok news.toArray w.drew
 size:news.length=m*sz
 one:∀v∈news,v.oneCell'=true
theorem Zau{t ty e:TypeId}{x:Value}{b:Option Addr}{k cap:Nat}(ht:P.underlying t=some (.slice e))(h0:P.cellsOf e≠0){w:World}(hs:SrcOk P w (P.cellsOf e) x 0 [])(hk:k<=cap):
  (Builtin.append_ #[t,t] ty #[.slice b k cap,x]).run P w=.ok (.slice b k cap) w:=by
 have hsz:=wS h0 w;unfold Builtin.append_;simp only[AA,A3,Ba,Sem.run_bind,run_underlying ht,Aj,hsz,Sem.run_pure,AP,if_false,hs.len,Bs];rw[if_pos hk];simp only[C4,if_true,Sem.run_bind,hs.cells,Aj];cases b<;>simp_all[storeCells]
theorem ZiV{t ty e:TypeId}{x:Value}{g k cap m:Nat}{news:List Value}{cur:Array Value}(ht:P.underlying t=some (.slice e))(h0:P.cellsOf e≠0){w:World}(hs:SrcOk P w (P.cellsOf e) x m news)
  (hg:w.heap[g]?=some (.cells cur e (0,0))) (hk:k+m<=cap) (hc:cur.size=cap*P.cellsOf e) :
  (Builtin.append_ #[t,t] ty #[.slice (some ⟨g,0,none⟩) k cap,x]).run P w =
   .ok (.slice (some ⟨g,0,none⟩) (k+m) cap) (w.setRow g (cur.toList.take (k*P.cellsOf e)++news++cur.toList.drop (k*P.cellsOf e+news.length)).toArray):=by
 have hsz:=wS h0 w;have hfit:k*P.cellsOf e+0+news.length<=cur.size:=by
  rw[hs.size,hc,Bs,<-Nat.add_mul];exact Cc _ hk
 have hst:=run_storeCells_at P g (k*P.cellsOf e) e news 0 cur w hg hfit hs.one;simp only[Bs]at hst;unfold Builtin.append_;simp only[AA,A3,Ba,Sem.run_bind,run_underlying ht,Aj,hsz,Sem.run_pure,AP,if_false,hs.len];rw[if_pos hk];simp only[C4,if_true,Sem.run_bind,hs.cells,Aj,Addr.add_plain,AQ,hst,Sem.run_pure]
theorem WI{t ty e:TypeId}{x:Value}{b:Option Addr}{k cap m by_:Nat}{z:Value}{olds news:List Value}(ht:P.underlying t=some (.slice e))(h0:P.cellsOf e≠0)(hz:Program.zeroOf P e=some z)(hby:Program.bytesOf' P e=some by_)
  {w:World} (hs:SrcOk P w (P.cellsOf e) x m news) (hold:(Builtin.firstCells (P.cellsOf e) k (.slice b k cap)).run P w.drew=.ok olds.toArray w.drew) (hk:cap<k+m) (hbytes:(k+m)*by_<=140737488355328) (hbp:by_≠0) :
  (Builtin.append_ #[t,t] ty #[.slice b k cap,x]).run P w =
   .ok (.slice (some ⟨w.heap.size,0,none⟩) (k+m) (grownCap w (k+m) cap e)) (w.drew.alloc (.cells (olds.toArray++news.toArray++Builtin.zeroCells z.cells (grownCap w (k+m) cap e-(k+m))) e)):=by
 have hsz:=wS h0 w;obtain⟨i,hi,hib⟩:=Zat hby w;obtain⟨i2,hi2,hib2⟩:=Zat hby w.drew;have hfit:Builtin.nextslicecap (k+m) cap*by_<=281474976710656:=growslice_fits hk hbytes;unfold Builtin.append_;simp only[AA,A3,Ba,Sem.run_bind,run_underlying ht,Aj,hsz,Sem.run_pure,AP,if_false,hs.len];rw[if_neg DB];simp only[Sem.run_bind,hi,Aj,hib];rw[if_neg DJ];simp only[Sem.run_bind,hi,Aj,hib];rw[if_neg DB];simp only[Sem.run_bind,run_choose,Question.forced,AP,if_false,Aj,World.drew_eq];rw[show (Question.appendCap (k+m) cap e).cut (w.tape w.drawn (.appendCap (k+m) cap e))=grownCap w (k+m) cap e from rfl];simp only[hi2,Aj,run_askRoom,hold,C4,if_true,hs.cells',Qn hz,newRow,Sem.run_bind,run_newObj,Sem.run_pure,Dt,World.size_drew]
theorem Zav{w:World}{b k cap sz:Nat}{c:Array Value}{e:TypeId}{fz:Nat × Nat}(hb:w.heap[b]?=some (.cells c e fz))(o:Nat)(hl:o+k*sz<=c.size):
  (Builtin.firstCells sz k (.slice (some ⟨b,o,none⟩) k cap)).run P w=.ok (c.extract o (o+k*sz)) w:=by
 unfold Builtin.firstCells loadCells;have:=Zc9 (P:=P) (o:=o) hb (k*sz) 0 #[] DB;simpa using this
def Zq(S:Store)(sz:Nat)(x:PV):Option (Nat × List PV) :=
 match x with
 | .lst m ds=>if ds.length=m*sz then some (m,ds) else none
 | .sl o ver sz' off m =>
  match S o with
  | .cells v _ cs=>if v=ver/\sz'=sz/\off+m*sz<=cs.length then some (m,(cs.drop off).take (m*sz)) else none
  | _=>none
 | .sc (.slice none 0 0)=>some (0,[])
 | .sc (.string s)=>if sz=1/\s.size<=9223372036854775807 then some (s.size,s.data.toList.map λb=>.sc (.int .u8 (b.toNat:Int))) else none
 | _=>none
theorem WJ{C:Ctx}{w:World}{sz m:Nat}{x:PV}{ds:List PV}{u:Value}(hS:Sim C S w)(h:Zq S sz x=some (m,ds))(hu:Rel C S w x u):
  ∃news:List Value,SrcOk P w sz u m news/\RelL C S w ds news.toArray/\m<=jT:=by
 have fromBlock:∀(b o cap:Nat) (c:Array Value) (e:TypeId) (fz:Nat × Nat) (ds:List PV),w.heap[b]?=some (.cells c e fz)->ds.length=m*sz->(ds≠[]->o+ds.length<=c.size) ->
   (∀(i:Nat) (v:Value),i<ds.length->c[o+i]?=some v->v.oneCell'=true)->(∀(i:Nat) (p:PV) (v:Value),ds[i]?=some p->c[o+i]?=some v->Rel C S w p v) ->
   ∃news:List Value,SrcOk P w sz (.slice (some ⟨b,o,none⟩) m cap) m news/\RelL C S w ds news.toArray:=by
  intro b o cap c e fz ds hb hl hs h1 hr
  by_cases hd:ds=[]
  ·subst hd;have hz:m*sz=0:=by simpa using hl.symm
   refine⟨[],⟨rfl,?_,?_,by simp[hz],by simp⟩,by simp[RelL]⟩<;>simp_all[Builtin.firstCells,loadCells,loadCellsFrom]
  ·have hle:=hs hd;rw[hl]at hle;have hb':w.drew.heap[b]?=some (.cells c e fz):=hb;refine⟨(c.extract o (o+m*sz)).toList,⟨rfl,by rw[Array.toArray_toList];grind[Zav],by rw[Array.toArray_toList];grind[Zav],by simp;omega,?_⟩,?_⟩
   ·grind[List.getElem?_of_mem,Array.getElem?_extract]
   ·rw[Array.toArray_toList];refine⟨by simp;omega,λi v hv=>?_,λi p v hp hv=>?_⟩<;>grind[Array.getElem?_extract]
 unfold Zq at h;split at h
 ·rename_i m' ds';split at h
  ·rename_i hl;cases h;cases hu with
   | lst0 =>
    rename_i cap a;refine⟨[],⟨rfl,?_,?_,by simp,by simp⟩,by simp[RelL],by omega⟩
    ·cases a<;>simp[Builtin.firstCells,loadCells,loadCellsFrom]
    ·cases a<;>simp[Builtin.firstCells,loadCells,loadCellsFrom]
   | lst1 hn hm hb hM hs h1 hr =>
    obtain⟨news,k1,k2⟩:=fromBlock _ _ _ _ _ _ ds hb hl hs h1 hr;exact⟨news,k1,k2,hm⟩
  ·cases h
 ·rename_i o ver sz' off m';split at h
  ·rename_i v e cs hs;split at h
   ·rename_i hc;obtain⟨rfl,rfl,hle⟩:=hc;cases h;cases hu with
    | sl h1 h2 h3 =>
     obtain⟨a,cap,rfl,q1,q2,q3,q4⟩:=h1;rcases hS.cells o v e cs hs with ⟨hn,hnil⟩ | ⟨b,k,c,g1,g2,g3,g4,g5,g6⟩
     ·have hm0:(cs.drop off).take (m*sz')=[]:=by rw[hnil];simp
      rw[hm0];have hz:m*sz'=0:=by rw[hnil]at hle;simp at hle;omega
      refine⟨[],⟨rfl,?_,?_,by simp[hz],by simp⟩,by simp[RelL],q2⟩
      ·cases a<;>simp[Builtin.firstCells,loadCells,hz,loadCellsFrom]
      ·cases a<;>simp[Builtin.firstCells,loadCells,hz,loadCellsFrom]
     ·by_cases hm0:m=0
      ·subst hm0;refine⟨[],⟨rfl,?_,?_,by simp,by simp⟩,by simp[RelL],q2⟩
       ·cases a<;>simp[Builtin.firstCells,loadCells,loadCellsFrom]
       ·cases a<;>simp[Builtin.firstCells,loadCells,loadCellsFrom]
      ·have hloc:a=some ⟨b,off,none⟩:=by
        rcases (h3 v (by rw[hs];rfl)).2 rfl with ⟨z1,z2,_⟩ | ⟨b',k',a',cap',z1,z2,z3,z4⟩
        ·exact absurd z2 hm0
        ·rw[g1]at z1;cases z1;cases z2;exact z4 hm0
       subst hloc;have hsub:∀(i:Nat) (p:PV),((cs.drop off).take (m*sz'))[i]?=some p->cs[off+i]?=some p:=by
        intro i p hp
        by_cases hi:i<m*sz'
        ·rw[AI hi,AK]at hp;exact hp
        ·rw[Ak DF]at hp;cases hp
       obtain⟨news,k1,k2⟩:=fromBlock b off cap c e (0,0) ((cs.drop off).take (m*sz')) g2 DF (λ_=>by simp;omega) (λi v hi hv=>g5 (off+i) v (by simp at hi;omega) hv) (λi p v hp hv=>g6 (off+i) p v (hsub i p hp) hv)
       grind
   ·cases h
  ·cases h
 ·cases h;cases hu;exact⟨[],⟨rfl,by simp[Builtin.firstCells],by simp[Builtin.firstCells],by simp,by simp⟩,by simp[RelL],by omega⟩
 ·rename_i s;split at h
  ·rename_i hc;obtain⟨rfl,hc⟩:=hc;cases h;cases hu;have hf:∀W:World,(Builtin.firstCells 1 s.size (.string s)).run P W=.ok (s.data.toList.map λb=>Value.int .u8 (b.toNat:Int)).toArray W:=by
    intro W;simp[Builtin.firstCells];apply Array.ext';simp
   refine⟨_,⟨rfl,hf w,hf w.drew,by simp,λv hv=>by
    obtain⟨b,_,rfl⟩:=Ar.1 hv;rfl⟩,⟨by simp,λi v hv=>?_,λi c v hc hv=>?_⟩,by unfold jT;omega⟩
   ·rw[AA,Ah,Am]at hv;obtain⟨b,_,rfl⟩:=hv;rfl
   ·rw[Ah,Am]at hc;rw[AA,Ah,Am]at hv;obtain⟨b,hb1,rfl⟩:=hc;obtain⟨b',hb2,rfl⟩:=hv;rw[hb1]at hb2;cases hb2;exact .sc _
  ·cases h
 ·cases h
theorem Xj{C:Ctx}{w:World}{cs ds:List PV}{vs us:List Value}(h:RelL C S w cs vs.toArray)(k:RelL C S w ds us.toArray)(rest:List Value):
  (cs++ds).length<=(vs++us++rest).length/\(∀(i:Nat) (v:Value),i<(cs++ds).length->(vs++us++rest)[i]?=some v->v.oneCell'=true) /\
  ∀(i:Nat) (p:PV) (v:Value),(cs++ds)[i]?=some p->(vs++us++rest)[i]?=some v->Rel C S w p v:=by
 obtain⟨h1,h2,h3⟩:=h;obtain⟨k1,k2,k3⟩:=k;simp only[BG,AA]at h1 h2 h3 k1 k2 k3
 grind
end
open Go
theorem Sim.nilObject'{C:Ctx}{S:Store}{w:World}(h:Sim C S w){o ver:Nat}(hf:Fresh C S o ver)(e:TypeId):
  Sim (C.put o ver none) (S.set o (.cells ver e [])) w/\Step C S w (C.put o ver none) (S.set o (.cells ver e [])) w:=by
 have hloc:∀i,i≠o->(C.put o ver none).loc i=C.loc i:=λi hi=>by simp_all[Ctx.put]
 have hlocn:(C.put o ver none).loc o=none:=by simp[Ctx.put]
 have st:Step C S w (C.put o ver none) (S.set o (.cells ver e [])) w :=
  Sim.step_new hf rfl _ rfl ⟨rfl,Af _⟩ rfl (Af _) (λ_ _=>rfl) (λb k hq=>nomatch hq)
 refine⟨⟨?_,?_,?_,?_,?_⟩,st⟩
 ·intro i ho
  by_cases hc:i=o
  ·grind[Ctx.put]
  ·rw[q10 _ _ _ _ hc]at ho;have:=h.lt i ho
   grind[Ctx.put]
 ·intro i v hv
  by_cases hc:i=o
  ·subst hc;rw[q11]at hv;cases hv;grind[Ctx.put]
  ·rw[q10 _ _ _ _ hc]at hv;have:=h.clk i v hv
   grind[Ctx.put]
 ·intro i o' b k k' ho ho' hl hl'
  by_cases hc:i=o
  ·simp_all
  ·by_cases hc':o'=o
   ·simp_all
   ·rw[hloc i hc]at hl;rw[hloc o' hc']at hl';rw[q10 _ _ _ _ hc]at ho;rw[q10 _ _ _ _ hc']at ho';exact h.dist i o' b k k' ho ho' hl hl'
 ·intro i ver e' cs' hs
  by_cases hc:i=o
  ·simp_all[q11]
  ·rw[q10 _ _ _ _ hc]at hs;rcases h.cells i ver e' cs' hs with hn | ⟨b,k,c',g1,g2,g3,g4,g5,g6⟩
   ·simp_all
   ·exact .inr ⟨b,k,c',(hloc i hc).trans g1,g2,g3,g4,g5,λi p v hp hv=>(g6 i p v hp hv).mono st⟩
 ·intro i ver es hs
  by_cases hc:i=o
  ·simp_all[q11]
  ·rw[q10 _ _ _ _ hc]at hs;obtain⟨b,k,ms,cl,g1,g2,g3,g4⟩:=h.maps i ver es hs;exact⟨b,k,ms,cl,(hloc i hc).trans g1,g2,g3,λi x m he hm=>⟨(g4 i x m he hm).1,(g4 i x m he hm).2.mono st⟩⟩
section
variable {P:Program} {r:Rd} {n N:Nat} {Q:Exit->(Nat->PV)->Store->Prop} {F:Nat->PV} {S:Store}
structure ElemOk (P:Program) (t e:TypeId) (z:Value) (by_:Nat):Prop where
 ty:P.underlying t=some (.slice e)
 pos:P.cellsOf e≠0
 zero:Program.zeroOf P e=some z
 zsize:z.cells.size=P.cellsOf e
 bytes:Program.bytesOf' P e=some by_
 bpos:by_≠0
def Z9(P:Program)(t u:TypeId):Bool:=u == t || (match P.underlying u with | some .string=>true | _=>false)
theorem ZiW{t u ty e:TypeId}(ht:P.underlying t=some (.slice e))(hu:Z9 P t u=true)(s x:Value)(w:World):(Builtin.append_ #[t,u] ty #[s,x]).run P w=(Builtin.append_ #[t,t] ty #[s,x]).run P w:=by
 unfold Z9 at hu;rw[Dq]at hu;rcases hu with hu | hu
 ·rw[eq_of_beq hu]
 ·have hs:P.underlying u=some .string:=by
   split at hu
   ·omega
   ·cases hu
  unfold Builtin.append_;simp only[AA,A3,Ba,Sem.run_bind,run_underlying ht,Aj];cases s with
  | slice base n cap=>simp only[Sem.run_bind,run_underlying ht,run_underlying hs,Aj,Sem.run_pure]
  | _=>rfl
theorem Jh{o:Oper}{s x:Operand}{t u e:TypeId}{a:Act}{w w':World}{v:Value}(ho:o.op=.call { callee:=.builtin .append,args:=#[s,x],argTypes:=#[t,u] })(ht:P.underlying t=some (.slice e))(hu:Z9 P t u=true)
  (h:(Builtin.append_ #[t,t] o.type #[a.eval s,a.eval x]).run P w=.ok v w'):(execOp a.eval o).run P w=.ok (.value v) w':=by
 rw[<-ZiW ht hu]at h;unfold execOp
 grind[resolve,invoke,builtin,Sem.run_bind,Sem.run_pure,Result.andThen_ok]
theorem Zaw{o:Oper}{s x:Operand}{t u e:TypeId}{z:Value}{by_ id ver k m:Nat}{cs ds:List PV}{K:PV->Store->Prop}(ho:o.op=.call { callee:=.builtin .append,args:=#[s,x],argTypes:=#[t,u] })(hu:Z9 P t u=true)
  (hE:ElemOk P t e z by_) (hs:ev F s=.sl id ver (P.cellsOf e) 0 k) (hid:S id=.cells ver e cs) (hk:k*P.cellsOf e<=cs.length) (hx:Zq S (P.cellsOf e) (ev F x)=some (m,ds)) (hb:(k+m)*by_<=140737488355328) (hm:k+m<=140737488355328)
  (hK:K (.sl id (ver+1) (P.cellsOf e) 0 (k+m)) (S.set id (.cells (ver+1) e (cs.take (k*P.cellsOf e)++ds)))):PO P r n o F S K:=by
 intro G hG C w a N st next Q' hnext;have e1:ev G s=_:=(hG s (by simp_all[Op.operands,Call.operands])).trans hs;have e2:ev G x=ev F x:=hG x (by simp_all[Op.operands,Call.operands]);rw[<-e2]at hx;have r1:=st.ev s;rw[e1]at r1;obtain⟨news,hsrc,hrel,_⟩:=WJ (P:=P) st.sim hx (st.ev x);have hnd:∀c,o.op≠.defer c:=by intro c hc;rw[ho]at hc;cases hc
 have hmN:k+m<=jT:=AB hm (by simp[jT]);generalize hv:a.eval s=v at r1;cases r1 with
 | sl h1 h2 h3 =>
  obtain⟨ad,cap,rfl,q1,q2,q3,q4⟩:=h1;have hloc:=(h3 ver (by rw[hid];rfl)).2 rfl;have hcontent:=st.sim.cells id ver e cs hid;have newsl:∀(C':Ctx) (w':World) (ad':Option Addr) (cap' b':Nat),(C.next<=C'.next/\ver+1<C'.clock)->C'.loc id=some (b',cap'*P.cellsOf e)->ad'=some ⟨b',0,none⟩->k+m<=cap'->cap'<=maxLen ->
    Rel C' (S.set id (.cells (ver+1) e (cs.take (k*P.cellsOf e)++ds))) w' (.sl id (ver+1) (P.cellsOf e) 0 (k+m)) (.slice ad' (k+m) cap'):=by
   intro C' w' ad' cap' b' hn hl had hkm hcl;refine .sl ⟨_,_,rfl,hkm,hmN,hcl,λ_=>⟨_,_,had⟩⟩ ⟨Bq h2.1 hn.1,hn.2⟩ λv0 hv0=>?_
   rw[q11]at hv0;cases hv0;exact⟨Af _,λ_=>.inr ⟨b',_,_,_,hl,rfl,λ_=>⟨had,rfl⟩,λ_=>had⟩⟩
  rcases hcontent with ⟨hn,hnil⟩ | ⟨b,kk,c,g1,g2,g3,g4,g5,g6⟩
  ·-- nothing yet
   have hz:k*P.cellsOf e=0:=by rw[hnil]at hk;simpa using hk
   have hk0:k=0:=by
    rcases Nat.mul_eq_zero.1 hz with h | h
    ·exact h
    ·exact absurd h hE.pos
   rcases hloc with ⟨_,_,_,hsl⟩ | ⟨b',k',_,_,z1,_⟩
   ·cases hsl;subst hnil;simp only[CI,Dd,AM,AQ]at hK hb hm hmN newsl
    by_cases hm0:m=0
    ·subst hm0;have hne:news=[]:=Ap (by rw[hsrc.size];simp);have hde:ds=[]:=Ap (by rw[hrel.1,hne];rfl);subst hne;subst hde;have hrun:=Jh (P:=P) (a:=a) (w:=w) ho hE.ty hu (by rw[hv];exact Zau (ty:=o.type) hE.ty hE.pos hsrc (Ca 0));obtain⟨t1,t2⟩:=st.sim.turn (l:=C.loc id) (ver':=ver+1) (cs':=[]) hid DB (λh=>absurd h DB) (w':=w) ⟨⟨rfl,rfl,rfl,Af _,λ_ _ _=>rfl⟩,Af _⟩ (.inl ⟨hn,rfl⟩);refine qf hnd hrun (hnext _ _ _ _ _ hK ?_ t1 t2);refine .sl ⟨_,_,rfl,Af _,by omega,by omega,λh=>absurd rfl h⟩ ⟨h2.1,by simp only[Ctx.at];omega⟩ λv0 hv0=>?_
     rw[q11]at hv0;cases hv0;exact⟨Af _,λ_=>.inl ⟨by simp[Ctx.at,hn],rfl,rfl,rfl⟩⟩
    ·have hrun:=Jh (P:=P) (a:=a) (w:=w) ho hE.ty hu (by
      rw[hv];exact WI (ty:=o.type) (olds:=[]) hE.ty hE.pos hE.zero hE.bytes hsrc (by simp[Builtin.firstCells]) DB (by simpa using hb) hE.bpos)
     have hgc:m<=grownCap w m 0 e:=by have:=grownCap_ge w m 0 e;exact this
     have hgm:grownCap w m 0 e<=maxLen:=grownCap_le_maxLen w m 0 e (by unfold maxLen;omega);simp only[AQ]at hrun;have hsz:(#[]++news.toArray++Builtin.zeroCells z.cells (grownCap w m 0 e-m):Array Value).size=grownCap w m 0 e*P.cellsOf e:=by
      simp only[Ch,BG,A6,AQ,size_zeroCells,hE.zsize,hsrc.size];rw[<-Nat.add_mul];congr 1;omega
     have hra:=Xj (cs:=[]) (vs:=[]) (by simp[RelL]) hrel (Builtin.zeroCells z.cells (grownCap w m 0 e-m)).toList;simp only[AM]at hra;have hget:∀i:Nat,(#[]++news.toArray++Builtin.zeroCells z.cells (grownCap w m 0 e-m):Array Value)[i]?=(news++(Builtin.zeroCells z.cells (grownCap w m 0 e-m)).toList)[i]?:=by
      intro i;rw[<-Array.getElem?_toList];simp
     obtain⟨t1,t2⟩:=st.sim.turn (l:=some (w.heap.size,grownCap w m 0 e*P.cellsOf e)) (ver':=ver+1) (cs':=ds) hid DB (λh=>absurd h DB)
      (w':=w.drew.alloc (.cells (#[]++news.toArray++Builtin.zeroCells z.cells (grownCap w m 0 e-m)) e)) ⟨⟨rfl,rfl,rfl,by simp,λj hj _=>uA w.drew _ j hj⟩,CD _⟩
      (.inr ⟨w.heap.size,_,_,rfl,.inl (Af _),Z3 w.drew _,hsz,by rw[<-hsz];have:=hra.1;simp at this ⊢;omega,λi v hi hv=>hra.2.1 i v hi (by rw[<-hget];exact hv),λi p v hp hv=>hra.2.2 i p v hp (by rw[<-hget];exact hv)⟩)
     refine qf hnd hrun (hnext _ _ _ _ _ hK ?_ t1 t2);have:=newsl (C.at id (ver+1) (some (w.heap.size,grownCap w m 0 e*P.cellsOf e))) (w.drew.alloc (.cells (#[]++news.toArray++Builtin.zeroCells z.cells (grownCap w m 0 e-m)) e)) (some ⟨w.heap.size,0,none⟩) (grownCap w m 0 e) w.heap.size ⟨Af _,by simp only[Ctx.at];omega⟩ (by simp[Ctx.at]) rfl hgc hgm;omega
   ·rw[hn]at z1;cases z1
  ·-- it lies in block b
   rcases hloc with ⟨z1,_⟩ | ⟨b',k',ad',cap',z1,z2,z3,z4⟩
   ·rw[g1]at z1;cases z1
   ·rw[g1]at z1;cases z1;cases z2;obtain⟨rfl,hcap⟩:=z3 rfl;have hcsz:c.size=cap*P.cellsOf e:=g3.trans hcap.symm
    by_cases hroom:k+m<=cap
    ·have hrun:=Jh (P:=P) (a:=a) (w:=w) ho hE.ty hu (by rw[hv];exact ZiV (ty:=o.type) hE.ty hE.pos hsrc g2 hroom hcsz);have hkc:k*P.cellsOf e<=c.size:=by rw[hcsz];exact Cc _ q1
     have hfit:k*P.cellsOf e+news.length<=c.size:=by rw[hsrc.size,hcsz,<-Nat.add_mul];exact Cc _ hroom
     have hold:RelL C S w (cs.take (k*P.cellsOf e)) (c.toList.take (k*P.cellsOf e)).toArray:=by
      refine⟨by simp;omega,λi v hv=>?_,λi p v hp hv=>?_⟩
      ·rw[AA]at hv;have hi:=(Ac.1 hv).1;simp only[As]at hi;rw[AI DB,Array.getElem?_toList]at hv;exact g5 i v DB hv
      ·have hi:=(Ac.1 hp).1;simp only[As]at hi;rw[AI DB]at hp;rw[AA,AI DB,Array.getElem?_toList]at hv;exact g6 i p v hp hv
     have hra:=Xj hold hrel (c.toList.drop (k*P.cellsOf e+news.length));obtain⟨t1,t2⟩:=st.sim.turn (l:=C.loc id) (ver':=ver+1) (cs':=cs.take (k*P.cellsOf e)++ds) hid DB (λh=>absurd h DB)
      (w':=w.setRow b (c.toList.take (k*P.cellsOf e)++news++c.toList.drop (k*P.cellsOf e+news.length)).toArray)
      (by rw[g1];exact⟨⟨rfl,rfl,rfl,by simp,λj hj hne=>setRow_other w b j _ (λe=>hne (by rw[e];rfl))⟩,Af _⟩)
      (.inr ⟨b,cap*P.cellsOf e,_,by rw[g1,hcap],.inr (by rw[g1];rfl),setRow_heap w b c _ e _ g2,by simp;omega,by have:=hra.1;simp at this ⊢;omega,λi v hi hv=>hra.2.1 i v hi (by rw[AA]at hv;exact hv),λi p v hp hv=>hra.2.2 i p v hp (by rw[AA]at hv;exact hv)⟩)
     refine qf hnd hrun (hnext _ _ _ _ _ hK ?_ t1 t2);exact newsl _ _ _ cap b ⟨Af _,by simp only[Ctx.at];omega⟩ (by simp[Ctx.at,g1,hcap]) rfl hroom q3
    ·have hfirst:=Zav (P:=P) (w:=w.drew) (b:=b) (k:=k) (cap:=cap) (sz:=P.cellsOf e) (c:=c) (e:=e) (fz:=(0,0)) g2 0 DB;rw[AQ]at hfirst;have hrun:=Jh (P:=P) (a:=a) (w:=w) ho hE.ty hu (by
      rw[hv];exact WI (ty:=o.type) (olds:=(c.extract 0 (k*P.cellsOf e)).toList) hE.ty hE.pos hE.zero hE.bytes hsrc DB DB hb hE.bpos)
     have hgc:=grownCap_ge w (k+m) cap e;have hgm:grownCap w (k+m) cap e<=maxLen:=grownCap_le_maxLen w (k+m) cap e (by unfold maxLen;omega);have hkc:k*P.cellsOf e<=c.size:=by rw[hcsz];exact Cc _ q1
     rw[Array.toArray_toList]at hrun;have hsz:(c.extract 0 (k*P.cellsOf e)++news.toArray++Builtin.zeroCells z.cells (grownCap w (k+m) cap e-(k+m)):Array Value).size=grownCap w (k+m) cap e*P.cellsOf e:=by
      simp only[Ch,BG,size_zeroCells,hE.zsize,hsrc.size,Array.size_extract,Dy,A9 hkc,<-Nat.add_mul];congr 1;omega
     have hold:RelL C S w (cs.take (k*P.cellsOf e)) (c.extract 0 (k*P.cellsOf e)).toList.toArray:=by
      rw[Array.toArray_toList];refine⟨by simp;omega,λi v hv=>?_,λi p v hp hv=>?_⟩
      ·rw[BO]at hv;split at hv
       ·rw[AQ]at hv;exact g5 i v DB hv
       ·cases hv
      ·have hi:=(Ac.1 hp).1;simp only[As]at hi;rw[AI DB]at hp;rw[BO]at hv;split at hv
       ·rw[AQ]at hv;exact g6 i p v hp hv
       omega
     have hra:=Xj hold hrel (Builtin.zeroCells z.cells (grownCap w (k+m) cap e-(k+m))).toList;have hget:∀i:Nat,(c.extract 0 (k*P.cellsOf e)++news.toArray++Builtin.zeroCells z.cells (grownCap w (k+m) cap e-(k+m)):Array Value)[i]? =
       ((c.extract 0 (k*P.cellsOf e)).toList++news++(Builtin.zeroCells z.cells (grownCap w (k+m) cap e-(k+m))).toList)[i]?:=by
      intro i;rw[<-Array.getElem?_toList];simp
     obtain⟨t1,t2⟩:=st.sim.turn (l:=some (w.heap.size,grownCap w (k+m) cap e*P.cellsOf e)) (ver':=ver+1) (cs':=cs.take (k*P.cellsOf e)++ds) hid DB (λh=>absurd h DB)
      (w':=w.drew.alloc (.cells (c.extract 0 (k*P.cellsOf e)++news.toArray++Builtin.zeroCells z.cells (grownCap w (k+m) cap e-(k+m))) e)) ⟨⟨rfl,rfl,rfl,by simp,λj hj _=>uA w.drew _ j hj⟩,CD _⟩
      (.inr ⟨w.heap.size,_,_,rfl,.inl (Af _),Z3 w.drew _,hsz,by rw[<-hsz];have:=hra.1;simp at this ⊢;omega,λi v hi hv=>hra.2.1 i v hi (by rw[<-hget];exact hv),λi p v hp hv=>hra.2.2 i p v hp (by rw[<-hget];exact hv)⟩)
     refine qf hnd hrun (hnext _ _ _ _ _ hK ?_ t1 t2);exact newsl _ _ _ (grownCap w (k+m) cap e) w.heap.size ⟨Af _,by simp only[Ctx.at];omega⟩ (by simp[Ctx.at]) rfl hgc hgm
theorem ZiX{o:Oper}{s x:Operand}{t e:TypeId}{z:Value}{by_ id ver k m:Nat}{cs ds:List PV}{K:PV->Store->Prop}(ho:o.op=.call { callee:=.builtin .append,args:=#[s,x],argTypes:=#[t,t] })
  (hE:ElemOk P t e z by_) (hs:ev F s=.sl id ver (P.cellsOf e) 0 k) (hid:S id=.cells ver e cs) (hk:k*P.cellsOf e<=cs.length) (hx:Zq S (P.cellsOf e) (ev F x)=some (m,ds)) (hb:(k+m)*by_<=140737488355328) (hm:k+m<=140737488355328)
  (hK:K (.sl id (ver+1) (P.cellsOf e) 0 (k+m)) (S.set id (.cells (ver+1) e (cs.take (k*P.cellsOf e)++ds)))):PO P r n o F S K :=
 Zaw ho (by simp[Z9]) hE hs hid hk hx hb hm hK
theorem ZiY{c:Code}(d e sz:Nat)(hF:F d=.sc (.slice none 0 0))(h:∀C:Ctx,S C.next=.dead->∃id v,Fresh C S id v/\PW P r n N c Q (xV F d (.sl id v sz 0 0)) (S.set id (.cells v e []))):PW P r n N c Q F S:=by
 intro C w a st;obtain⟨id,ver,hfr,h⟩:=h C st.sim.free;obtain⟨k1,k2⟩:=st.sim.nilObject' hfr e;have st':St r (C.put id ver none) (S.set id (.cells ver e [])) w N (xV F d (.sl id ver sz 0 0)) a:=by
  refine⟨k1,st.size,λi=>?_,r.keep k2 st.v⟩
  by_cases hi:i=d
  ·subst hi;rw[Zc5];have:=st.fr i;rw[hF]at this;generalize a.tmps.getD i undef=v at this;cases this;refine .sl ⟨_,_,rfl,Af _,by unfold jT;omega,by unfold maxLen;omega,λh=>absurd rfl h⟩ (by simp only[Ctx.put];omega) λv0 hv0=>?_
   rw[q11]at hv0;cases hv0;simp[Ctx.put]
  ·rw[Zc6 _ _ _ _ hi];exact(st.fr i).mono k2
 refine wpIn_mono (h _ w a st') ?_;rintro e a' w' ⟨F2,S2,C2,h1,h2,h3,h4⟩;exact⟨F2,S2,C2,h1,h2,h3,k2.trans h4⟩
end
open Go
attribute [simp] Jg Qu vZ PX Row.pures Qr yH gd wT qN Ww Wr ev YH z6 xV Wj Wh Ws Zai Qm Wl uU uB Jd Wv Wu Wt Je Z6 jx PV.cells PV.one PV.fit Value.oneCell' zq xW WA xG Wp Value.cells qZ Wo Z5 Zag Zaf Z4 Jf Zq ud
@[simp] theorem Ztm(a b:Int):(a == b)=decide (a=b):=rfl
theorem YJ(n:Nat)(z:Value):yR (n+1) z=qZ z++yR n z:=by
 unfold yR qZ;generalize z.cells=c;rw[Nat.succ_mul,Nat.add_comm,C5,List.map_append,Cu];congr 1
 ·apply AX;intro i
  by_cases h:i<c.size
  ·simp[h,Nat.mod_eq_of_lt h]
  ·simp[h]
 simp
@[simp] theorem Ztn(z:Value):yR 0 z=[]:=by simp[yR]
@[simp] theorem Zto(z:Value):yR 1 z=qZ z:=by rw[YJ 0 z];simp
@[simp] theorem Ztp(z:Value):yR 2 z=qZ z++qZ z:=by rw[YJ 1 z];simp
@[simp] theorem Ztq(z:Value):yR 3 z=qZ z++(qZ z++qZ z):=by rw[YJ 2 z];simp
@[simp] theorem Ztr(z:Value):yR 4 z=qZ z++(qZ z++(qZ z++qZ z)):=by rw[YJ 3 z];simp
@[simp] theorem Zts(cs:List PV)(off:Nat):yd cs off []=cs:=by simp[yd]
@[simp] theorem Ztt(c d:PV)(cs ds:List PV):yd (c :: cs) 0 (d :: ds)=d :: yd cs 0 ds:=by simp[yd]
@[simp] theorem Ztu(c d:PV)(cs ds:List PV)(k:Nat):yd (c :: cs) (k+1) (d :: ds)=c :: yd cs k (d :: ds):=by simp[yd,Nat.add_right_comm k 1]
@[simp] theorem Ztv(cs ds:List PV)(off:Nat)(h:off+ds.length<=cs.length):(yd cs off ds).length=cs.length:=by simp[yd];omega
@[simp] theorem Zax(S:Store)(o:Nat)(x:Ob):S.set o x o=x:=q11 S o x
theorem q9(S:Store)(o i:Nat)(x:Ob)(h:i≠o):S.set o x i=S i:=q10 S o i x h
@[simp] theorem Ztw(S:Store)(o:Nat)(x y:Ob):(S.set o x).set o y=S.set o y:=Store.set_set S o x y
theorem Zr(x:Int)(h1:-9223372036854775808<=x)(h2:x<=9223372036854775807):IntKind.i64.wrap x=x:=IntWalk.i64_in x ⟨h1,h2⟩
def zW(x:Int):Prop:=-9223372036854775808<=x/\x<=9223372036854775807
def zZ(x:Int):PV:=.sc (.int .i64 x)
def wA(b:Bool):PV:=.sc (.bool b)
theorem Ji{α:Type}(enc:α->List PV)(k:Nat)(hk:∀x,(enc x).length=k):∀(l:List α) (i:Nat),(l.flatMap enc).drop (i*k)=(l.drop i).flatMap enc
 | l,0=>by simp
 | [],i+1=>by simp
 | x :: xs,i+1=>by
  rw[Av,List.drop_succ_cons,<-Ji enc k hk xs i,Cs,hk,Nat.add_mul,Dw]
  simp_all
theorem Zdw{α:Type}(enc:α->List PV)(k:Nat)(hk:∀x,(enc x).length=k)(l:List α)(i:Nat)(hi:i<l.length):(l.flatMap enc).drop (i*k)=enc l[i]++(l.drop (i+1)).flatMap enc:=by grind[Ji,List.drop_eq_getElem_cons]
theorem Jj{α:Type}(enc:α->List PV)(k:Nat)(hk:∀x,(enc x).length=k):∀(l:List α),(l.flatMap enc).length=l.length*k
 | []=>by simp
 | x :: xs=>by rw[Av,Aq,hk,Jj enc k hk xs,Au,Nat.add_mul];omega
theorem Qx{α:Type}(enc:α->List PV)(k:Nat)(hk:∀x,(enc x).length=k):∀(l:List α) (i:Nat),(l.flatMap enc).take (i*k)=(l.take i).flatMap enc
 | l,0=>by simp
 | [],i+1=>by simp
 | x :: xs,i+1=>by
  rw[Av,CV,Av,<-Qx enc k hk xs i,List.take_append,hk,Nat.add_mul,Dw]
  grind
open Go
theorem Sim.turnMap{C:Ctx}{S:Store}{w w':World}(h:Sim C S w){o ver b k:Nat}{es es':List (Value × PV)}(hs:S o=.map ver es)(hl:C.loc o=some (b,k))(hg:w.grownBy w' (some b)/\w.drawn<=w'.drawn){ms:Array MapEntry}{cl:Nat}
  (hb:w'.heap[b]?=some (.map ms cl)) (hlen:es'.length=ms.size) (hr:∀(i:Nat) (e:Value × PV) (m:MapEntry),es'[i]?=some e->ms[i]?=some m->m.key=e.1/\Rel C S w e.2 m.val) :
  Sim C (S.set o (.map ver es')) w'/\Step C S w C (S.set o (.map ver es')) w':=by
 have hne:S o≠.dead:=by rw[hs];simp
 have hfar:∀i b' k',i≠o->S i≠.dead->C.loc i=some (b',k')->some b'≠some b:=by
  intro i b' k' hi hd hb' he;cases he;exact hi (h.dist i o b k' k hd hne hb' hl)
 have hdead:∀i,S.set o (.map ver es') i≠.dead->S i≠.dead:=by
  intro i hi
  by_cases hc:i=o
  ·simp_all
  ·simp_all[q10]
 have st:Step C S w C (S.set o (.map ver es')) w':=by
  refine⟨hg.1.os,⟨hg.1.tape,hg.2⟩,hg.1.output,hg.1.size,Af _,Af _,λc hc hM=>⟨hg.1.block c hc ?_,?_⟩,?_⟩
  ·intro he;cases he;exact hM ⟨o,k,hne,hl⟩
  ·rintro⟨i,k',hd,hb'⟩;exact hM ⟨i,k',hdead i hd,hb'⟩
  ·intro i v1 hv
   by_cases hc:i=o
   ·subst hc;rw[q11]at hv;cases hv;exact .inr ⟨ver,by rw[hs];rfl,Af _,λ_=>rfl⟩
   simp_all[q10]
 refine⟨⟨λi hi=>h.lt i (hdead i hi),λi v hv=>(by
  by_cases hc:i=o
  ·subst hc;rw[q11]at hv;cases hv;exact h.clk i ver (by rw[hs];rfl)
  ·rw[q10 _ _ _ _ hc]at hv;exact h.clk i v hv),λi j b1 k1 k2 hi hj=>h.dist i j b1 k1 k2 (hdead i hi) (hdead j hj),?_,?_⟩,st⟩
 ·intro i v' e' ds hi
  by_cases hc:i=o
  ·simp_all
  ·rw[q10 _ _ _ _ hc]at hi;rcases h.cells i v' e' ds hi with hn | ⟨b1,k1,c',g1,g2,g3,g4,g5,g6⟩
   ·exact .inl hn
   ·exact .inr ⟨b1,k1,c',g1,(hg.1.block b1 (qn g2) (hfar i b1 k1 hc (by rw[hi];simp) g1)).trans g2,g3,g4,g5,λj p v hp hv=>(g6 j p v hp hv).mono st⟩
 ·intro i ver2 fs hi
  by_cases hc:i=o
  ·subst hc;rw[q11]at hi;cases hi;exact⟨b,k,ms,cl,hl,hb,hlen,λj e m he hm=>⟨(hr j e m he hm).1,(hr j e m he hm).2.mono st⟩⟩
  ·rw[q10 _ _ _ _ hc]at hi;obtain⟨b1,k1,ms1,cl1,g1,g2,g3,g4⟩:=h.maps i ver2 fs hi;exact⟨b1,k1,ms1,cl1,g1,(hg.1.block b1 (qn g2) (hfar i b1 k1 hc (by rw[hi];simp) g1)).trans g2,g3,λj x m he hm=>⟨(g4 j x m he hm).1,(g4 j x m he hm).2.mono st⟩⟩
theorem Sim.newMap'{C:Ctx}{S:Store}{w:World}(h:Sim C S w){o ver:Nat}(hf:Fresh C S o ver):
  Sim (C.put o ver (some (w.heap.size,0))) (S.set o (.map ver [])) (w.alloc (.map #[] 0))/\Step C S w (C.put o ver (some (w.heap.size,0))) (S.set o (.map ver [])) (w.alloc (.map #[] 0)):=by
 have hloc:∀i,i≠o->(C.put o ver (some (w.heap.size,0))).loc i=C.loc i:=λi hi=>by simp_all[Ctx.put]
 have hlocn:(C.put o ver (some (w.heap.size,0))).loc o=some (w.heap.size,0):=by simp[Ctx.put]
 have st:Step C S w (C.put o ver (some (w.heap.size,0))) (S.set o (.map ver [])) (w.alloc (.map #[] 0)) :=
  Sim.step_new hf rfl _ rfl ⟨rfl,Af _⟩ rfl DC (λb hb=>uA w _ b hb) (λb k hq=>by simp_all)
 refine⟨⟨?_,?_,?_,?_,?_⟩,st⟩
 ·intro i ho
  by_cases hc:i=o
  ·grind[Ctx.put]
  ·rw[q10 _ _ _ _ hc]at ho;have:=h.lt i ho
   grind[Ctx.put]
 ·intro i v hv
  by_cases hc:i=o
  ·subst hc;rw[q11]at hv;cases hv;grind[Ctx.put]
  ·rw[q10 _ _ _ _ hc]at hv;have:=h.clk i v hv
   grind[Ctx.put]
 ·intro i i' b k k' ho ho' hl hl'
  by_cases hc:i=o<;>by_cases hc':i'=o
  ·omega
  ·subst hc;rw[hlocn]at hl;rw[hloc i' hc']at hl';rw[q10 _ _ _ _ hc']at ho';have:=h.M_lt ⟨i',k',ho',hl'⟩
   simp_all
  ·subst hc';rw[hlocn]at hl';rw[hloc i hc]at hl;rw[q10 _ _ _ _ hc]at ho;have:=h.M_lt ⟨i,k,ho,hl⟩
   simp_all
  ·rw[hloc i hc]at hl;rw[hloc i' hc']at hl';rw[q10 _ _ _ _ hc]at ho;rw[q10 _ _ _ _ hc']at ho';exact h.dist i i' b k k' ho ho' hl hl'
 ·intro i ver' e' cs' hs
  by_cases hc:i=o
  ·simp_all
  ·rw[q10 _ _ _ _ hc]at hs;rcases h.cells i ver' e' cs' hs with hn | ⟨b,k,c',g1,g2,g3,g4,g5,g6⟩
   ·simp_all
   ·exact .inr ⟨b,k,c',(hloc i hc).trans g1,(uA w _ b (qn g2)).trans g2,g3,g4,g5,λi p v hp hv=>(g6 i p v hp hv).mono st⟩
 ·intro i ver' es hs
  by_cases hc:i=o
  ·grind[q11,Z3]
  ·rw[q10 _ _ _ _ hc]at hs;obtain⟨b,k,ms,cl,g1,g2,g3,g4⟩:=h.maps i ver' es hs;exact⟨b,k,ms,cl,(hloc i hc).trans g1,(uA w _ b (qn g2)).trans g2,g3,λi e m he hm=>⟨(g4 i e m he hm).1,(g4 i e m he hm).2.mono st⟩⟩
def qT(d:TypeDesc)(k:Value):List (Value × PV)->Nat->Option (Option (Nat × PV))
 | [],_=>some none
 | e :: es,i =>
  match Instr.sameNow d k e.1 with
  | some true=>some (some (i,e.2))
  | some false=>qT d k es (i+1)
  | none=>none
def Xk(d:TypeDesc):Bool :=
 match d with
 | .int _=>true
 | .string=>true
 | .bool=>true
 | _=>false
section
variable {P:Program} {r:Rd} {n N:Nat} {Q:Exit->(Nat->PV)->Store->Prop} {F:Nat->PV} {S:Store}
theorem WK{C:Ctx}{w:World}{d:TypeDesc}{k:Value}:∀(es:List (Value × PV)) (ms:List MapEntry) (i:Nat) (res:Option (Nat × PV)),es.length=ms.length ->
  (∀(j:Nat) (e:Value × PV) (m:MapEntry),es[j]?=some e->ms[j]?=some m->m.key=e.1/\Rel C S w e.2 m.val)->qT d k es i=some res ->
  (res=none/\Instr.findNow d k ms i=some none)\/∃j p v,res=some (j,p)/\Instr.findNow d k ms i=some (some (j,v))/\Rel C S w p v
 | [],[],i,res,_,_,h=>by cases h;exact .inl ⟨rfl,rfl⟩
 | e :: es,m :: ms,i,res,hl,hr,h=>by
  obtain⟨hk,hv⟩:=hr 0 e m rfl rfl;simp only[qT]at h;simp only[Instr.findNow,hk];split at h
  ·grind
  ·rename_i hs;simp only[hs];exact WK es ms (i+1) res (by simpa using hl) (λj e m he hm=>hr (j+1) e m (by simpa using he) (by simpa using hm)) h
  ·cases h
theorem Jk{t:TypeId}{d:TypeDesc}(ht:P.underlying t=some d)(hp:Xk d=true)(b:Bool)(k:Value)(w:World):(Instr.checkKey b 10000 t k).run P w=.ok () w:=by
 show (Instr.checkKey b (9999+1) t k).run P w=_
 unfold Instr.checkKey;simp only[Sem.run_bind,run_underlying ht,Aj];cases d<;>simp[Xk]at hp<;>rfl
def Zs(ok:Bool)(z:Value)(res:Option (Nat × PV)):PV :=
 match res with
 | some (_,p)=>if ok=true then .tup [p,.sc (.bool true)] else p
 | none=>if ok=true then .tup [YH z,.sc (.bool false)] else YH z
theorem uW{o:Oper}{t kt et id ver:Nat}{x i:Operand}{ok:Bool}{k:Value}{d:TypeDesc}{es:List (Value × PV)}{res:Option (Nat × PV)}{z:Value}{K:PV->Store->Prop}(ho:o.op=.lookup t x i ok)(ht:P.underlying t=some (.map kt et))
  (hk:P.underlying kt=some d) (hd:Xk d=true) (hx:ev F x=.mp id ver) (hi:ev F i=.sc k) (hs:S id=.map ver es) (hf:qT d k es 0=some res) (hz:Program.zeroOf P et=some z)
  (hK:K (Zs ok z res) S):PO P r n o F S K:=by
 intro G hG C w a N st next Q' hnext;have e1:=st.ev x;have e2:=st.ev i;rw[(hG x (by simp[ho,Op.operands])).trans hx]at e1;rw[(hG i (by simp[ho,Op.operands])).trans hi]at e2;generalize hv1:a.eval x=v1 at e1;generalize hv2:a.eval i=v2 at e2;cases e2;obtain⟨b,k0,ms,cl,g1,g2,g3,g4⟩:=st.sim.maps id ver es hs;cases e1 with
 | mp h1 h2 h3 =>
  obtain⟨b',rfl⟩:=h1;obtain⟨b2,k2,q1,q2⟩:=(h3 ver (by rw[hs];rfl)).2 rfl;rw[g1]at q1;cases q1;cases q2;have hnd:∀c,o.op≠.defer c:=by intro c hc;rw[ho]at hc;cases hc
  have hget:(getObj b).run P w=.ok (.map ms cl) w:=by
   simp only[getObj,Sem.run,g2]
  have hfind:=WK (C:=C) (w:=w) es ms.toList 0 res DB (λj e m he hm=>g4 j e m he DI) hf;rcases hfind with ⟨rfl,hn⟩ | ⟨j,p,v,rfl,hn,hrel⟩
  ·have hrun:(execOp a.eval o).run P w=.ok (.value (if ok then .tuple #[z,.bool false] else z)) w:=by
    unfold execOp;simp only[ho,hv1,hv2,Instr.lookup,Sem.run_bind,run_underlying ht,Aj,hget,Sem.run_pure,Jk hk hd,Instr.findKey,run_underlying hk,hn,Qn hz]
   refine qf hnd hrun (hnext _ _ _ _ _ hK ?_ st.sim (.refl _ _ _));cases ok
   ·exact Wg z
   ·exact .tup rfl (by
     intro i c v hc hv
     match i with
     | 0=>grind[Wg]
     | 1=>have hc:some (PV.sc (.bool false))=some c:=hc;have hv:some (Value.bool false)=some v:=hv;cases hc;cases hv;exact .sc _
     | i+2=>simp at hc)
  ·have hrun:(execOp a.eval o).run P w=.ok (.value (if ok then .tuple #[v,.bool true] else v)) w:=by
    unfold execOp;simp only[ho,hv1,hv2,Instr.lookup,Sem.run_bind,run_underlying ht,Aj,hget,Sem.run_pure,Jk hk hd,Instr.findKey,run_underlying hk,hn]
   refine qf hnd hrun (hnext _ _ _ _ _ hK ?_ st.sim (.refl _ _ _));cases ok
   ·exact hrel
   ·exact .tup rfl (by
     intro i c v hc hv
     match i with
     | 0=>simp at hc hv;subst hc;subst hv;omega
     | 1=>simp at hc hv;subst hc;subst hv;exact .sc _
     | i+2=>simp at hc)
theorem WL{d:TypeDesc}{k:Value}:∀(es:List (Value × PV)) (i j:Nat) (p:PV),qT d k es i=some (some (j,p))->i<=j/\j<i+es.length
 | [],_,_,_,h=>by cases h
 | e :: es,i,j,p,h=>by
  simp only[qT]at h;split at h
  ·cases h;simp
  ·have:=WL es (i+1) j p h;grind
  ·cases h
theorem Zdx{d:TypeDesc}{k:Value}:∀(es:List (Value × PV)) (i j:Nat) (p:PV),qT d k es i=some (some (j,p))->∃e,es[j-i]?=some e/\Instr.sameNow d k e.1=some true
 | [],_,_,_,h=>by cases h
 | e :: es,i,j,p,h=>by
  simp only[qT]at h;split at h
  ·simp_all
  ·obtain⟨e',h1,h2⟩:=Zdx es (i+1) j p h;have:=WL es (i+1) j p h
   grind
  ·cases h
theorem ZiZ(a b:ByteArray):(a == b)=true<->a=b:=by
 constructor
 ·intro h;cases a;cases b;have h':(ByteArray.mk _).beq (ByteArray.mk _)=true:=h
  grind[ByteArray.beq]
 ·rintro rfl;cases a
  show (ByteArray.mk _).beq (ByteArray.mk _)=true
  simp[ByteArray.beq]
theorem Zi0{d:TypeDesc}{k k':Value}(h:Instr.sameNow d k k'=some true):Instr.sameBits 10000 k' k=true/\k'=k:=by
 unfold Instr.sameNow at h
 grind[Instr.sameBits,ZiZ]
theorem WM{w:World}{b:Nat}{ms:Array MapEntry}{cl:Nat}(h:w.heap[b]?=some (.map ms cl)):(getObj b).run P w=.ok (.map ms cl) w:=by simp_all[getObj,Sem.run]
theorem WN{w:World}{b:Nat}{ms:Array MapEntry}{cl:Nat}(o:Obj)(h:w.heap[b]?=some (.map ms cl)):(setObj b o).run P w=.ok () (w.putObj b o):=by
 simp only[setObj,Sem.run,h];rfl
theorem WO{w:World}{b:Nat}{o':Obj}:w.grownBy (w.putObj b o') (some b)/\w.drawn<=(w.putObj b o').drawn :=
 ⟨⟨rfl,rfl,rfl,by simp,λj _ hne=>Bm (λe=>hne (by rw[e]))⟩,Af _⟩
def qK(k:Value)(p:PV)(es:List (Value × PV))(res:Option (Nat × PV)):List (Value × PV) :=
 match res with
 | some (j,_)=>es.set j (k,p)
 | none=>es++[(k,p)]
theorem Ya{o:Oper}{t kt et id ver:Nat}{x i y:Operand}{k:Value}{d:TypeDesc}{es:List (Value × PV)}{res:Option (Nat × PV)}{K:PV->Store->Prop}(ho:o.op=.mapUpdate t x i y\/o.op=.insert t x i y)(ht:P.underlying t=some (.map kt et))
  (hk:P.underlying kt=some d) (hd:Xk d=true) (hx:ev F x=.mp id ver) (hi:ev F i=.sc k) (hs:S id=.map ver es) (hf:qT d k es 0=some res)
  (hK:K (.sc undef) (S.set id (.map ver (qK k (ev F y) es res)))):PO P r n o F S K:=by
 intro G hG C w a N st next Q' hnext;have ops:x∈o.op.operands/\i∈o.op.operands/\y∈o.op.operands:=by rcases ho with ho | ho<;>simp[ho,Op.operands]
 have e1:=st.ev x;have e2:=st.ev i;have e3:=st.ev y;rw[(hG x ops.1).trans hx]at e1;rw[(hG i ops.2.1).trans hi]at e2;rw[hG y ops.2.2]at e3;generalize hv1:a.eval x=v1 at e1;generalize hv2:a.eval i=v2 at e2;cases e2;obtain⟨b,k0,ms,cl,g1,g2,g3,g4⟩:=st.sim.maps id ver es hs;cases e1 with
 | mp h1 h2 h3 =>
  obtain⟨b',rfl⟩:=h1;obtain⟨b2,k2,q1,q2⟩:=(h3 ver (by rw[hs];rfl)).2 rfl;rw[g1]at q1;cases q1;cases q2;have hnd:∀c,o.op≠.defer c:=by intro c hc;rcases ho with ho | ho<;>(rw[ho]at hc;cases hc)
  have hlt:b<w.heap.size:=qn g2;have hfind:=WK (C:=C) (w:=w) es ms.toList 0 res DB (λj e m he hm=>g4 j e m he DI) hf;have fin:∀(w':World),(Instr.mapUpdate t (.map (some b)) k (a.eval y)).run P w=.ok () w'->(execOp a.eval o).run P w=.ok .skip w':=by
   intro w' hw;unfold execOp;rcases ho with ho | ho<;>(simp only[ho,hv1,hv2,Sem.run_bind,hw,Aj];rfl)
  rcases hfind with ⟨rfl,hn⟩ | ⟨j,p,v,rfl,hn,hrel⟩
  ·have hrun:=fin (w.putObj b (.map (ms.push { key:=k,val:=a.eval y,born:=cl }) (cl+1))) (by
    simp only[Instr.mapUpdate,Sem.run_bind,run_underlying ht,Aj,WM g2,Jk hk hd,Instr.findKey,run_underlying hk,hn,Sem.run_pure,WN _ g2])
   obtain⟨t1,t2⟩:=st.sim.turnMap (es':=es++[(k,ev F y)]) (ms:=ms.push { key:=k,val:=a.eval y,born:=cl }) (cl:=cl+1) hs g1 WO (BP hlt) (by simp[g3]) DI;exact qf hnd hrun (hnext _ _ _ _ _ hK (.sc _) t1 t2)
  ·obtain⟨e0,he0,hsame⟩:=Zdx es 0 j p hf;rw[Dy]at he0;have hjl:=WL es 0 j p hf;have hmj:ms[j]?=some (ms[j]' DB):=DC
   have hkey:=(g4 j e0 _ he0 hmj).1;obtain⟨sb1,sb2⟩:=Zi0 hsame;have hrun:=fin (w.putObj b (.map (ms.modify j λe=>{ e with key:=k,val:=a.eval y }) cl)) (by
    simp only[Instr.mapUpdate,Sem.run_bind,run_underlying ht,Aj,WM g2,Jk hk hd,Instr.findKey,run_underlying hk,hn,Sem.run_pure,hmj,A5,Option.getD_some,hkey,Instr.keyThatStays,sb1,if_true,WN _ g2])
   obtain⟨t1,t2⟩:=st.sim.turnMap (es':=es.set j (k,ev F y)) (ms:=ms.modify j λe=>{ e with key:=k,val:=a.eval y }) (cl:=cl) hs g1 WO (BP hlt) (by simp[g3]) (by
    intro jj e m he hm;rw[Br]at hm;rw[Bz]at he
    by_cases hj:j=jj
    ·subst hj;rw[if_pos rfl]at hm he;rw[hmj]at hm;rw[if_pos DB]at he;cases he;cases hm;exact⟨rfl,e3⟩
    ·rw[if_neg hj]at hm he;exact g4 jj e m he hm)
   exact qf hnd hrun (hnext _ _ _ _ _ hK (.sc _) t1 t2)
def Xl(es:List (Value × PV))(res:Option (Nat × PV)):List (Value × PV) :=
 match res with
 | some (j,_)=>es.eraseIdx j
 | none=>es
theorem Zi1{o:Oper}{t kt et id ver:Nat}{x i:Operand}{k:Value}{d:TypeDesc}{es:List (Value × PV)}{res:Option (Nat × PV)}{ts:Array TypeId}{K:PV->Store->Prop}(ho:o.op=.call { callee:=.builtin .delete,args:=#[x,i],argTypes:=ts })(hts:ts[0]?=some t)(ht:P.underlying t=some (.map kt et))
  (hk:P.underlying kt=some d) (hd:Xk d=true) (hx:ev F x=.mp id ver) (hi:ev F i=.sc k) (hs:S id=.map ver es) (hf:qT d k es 0=some res)
  (hK:K (.tup []) (S.set id (.map ver (Xl es res)))):PO P r n o F S K:=by
 intro G hG C w a N st next Q' hnext;have ops:x∈o.op.operands/\i∈o.op.operands:=by simp[ho,Op.operands,Call.operands]
 have e1:=st.ev x;have e2:=st.ev i;rw[(hG x ops.1).trans hx]at e1;rw[(hG i ops.2).trans hi]at e2;generalize hv1:a.eval x=v1 at e1;generalize hv2:a.eval i=v2 at e2;cases e2;obtain⟨b,k0,ms,cl,g1,g2,g3,g4⟩:=st.sim.maps id ver es hs;cases e1 with
 | mp h1 h2 h3 =>
  obtain⟨b',rfl⟩:=h1;obtain⟨b2,k2,q1,q2⟩:=(h3 ver (by rw[hs];rfl)).2 rfl;rw[g1]at q1;cases q1;cases q2;have hnd:∀c,o.op≠.defer c:=by intro c hc;rw[ho]at hc;cases hc
  have hlt:b<w.heap.size:=qn g2;have hfind:=WK (C:=C) (w:=w) es ms.toList 0 res DB (λj e m he hm=>g4 j e m he DI) hf;have fin:∀(w':World),(Builtin.delete_ ts o.type #[.map (some b),k]).run P w=.ok (.tuple #[]) w'->(execOp a.eval o).run P w=.ok (.value (.tuple #[])) w':=by
   intro w' hw;unfold execOp;simp only[ho,hv1,hv2,resolve,invoke,builtin,Sem.run_bind,Sem.run_pure,Aj,Df,AD,Bk,hw]
  rcases hfind with ⟨rfl,hn⟩ | ⟨j,p,v,rfl,hn,hrel⟩
  ·have hrun:=fin (w.putObj b (.map ms cl)) (by
    simp only[Builtin.delete_,hts,AA,A3,Ba,Sem.run_bind,run_underlying ht,Aj,WM g2,Jk hk hd,Instr.findKey,run_underlying hk,hn,Sem.run_pure,WN _ g2])
   obtain⟨t1,t2⟩:=st.sim.turnMap (es':=es) (ms:=ms) (cl:=cl) hs g1 WO (BP hlt) g3 g4;exact qf hnd hrun (hnext _ _ _ _ _ hK (.tup rfl DC) t1 t2)
  ·have hjl:=WL es 0 j p hf;have hrun:=fin (w.putObj b (.map (ms.eraseIdxIfInBounds j) cl)) (by
    simp only[Builtin.delete_,hts,AA,A3,Ba,Sem.run_bind,run_underlying ht,Aj,WM g2,Jk hk hd,Instr.findKey,run_underlying hk,hn,Sem.run_pure,WN _ g2])
   have hms:(ms.eraseIdxIfInBounds j).toList=ms.toList.eraseIdx j:=by
    unfold Array.eraseIdxIfInBounds;rw[dif_pos DB];simp
   have hlen:(es.eraseIdx j).length=(ms.eraseIdxIfInBounds j).size:=by
    have g3':es.length=ms.toList.length:=by simpa using g3
    have:(es.eraseIdx j).length=(ms.eraseIdxIfInBounds j).toList.length:=by rw[hms,List.length_eraseIdx,List.length_eraseIdx,g3']
    exact this.trans Array.length_toList
   obtain⟨t1,t2⟩:=st.sim.turnMap (es':=es.eraseIdx j) (ms:=ms.eraseIdxIfInBounds j) (cl:=cl) hs g1 WO (BP hlt) hlen (by
    intro jj e m he hm;rw[<-Array.getElem?_toList,hms,Dj]at hm;rw[Dj]at he;split at he
    ·rename_i hj;rw[if_pos hj]at hm;exact g4 jj e m he (by rw[<-Array.getElem?_toList];exact hm)
    ·rename_i hj;rw[if_neg hj]at hm;exact g4 (jj+1) e m he (by rw[<-Array.getElem?_toList];exact hm))
   exact qf hnd hrun (hnext _ _ _ _ _ hK (.tup rfl DC) t1 t2)
theorem Zi2{o:Oper}{t:TypeId}{K:PV->Store->Prop}(ho:o.op=.makeMap t none)(hK:∀C:Ctx,S C.next=.dead->∃id v,Fresh C S id v/\K (.mp id v) (S.set id (.map v []))):PO P r n o F S K:=by
 intro G _ C w a N st next Q' hnext;obtain⟨id,ver,hfr,hK⟩:=hK C st.sim.free;obtain⟨k1,k2⟩:=st.sim.newMap' hfr;refine qf (x:=.value (.map (some w.heap.size))) (w':=w.alloc (.map #[] 0)) DJ ?_ (hnext _ _ _ _ (.mp id ver) hK ?_ k1 k2)
 ·simp_all[execOp,Instr.makeMap]
 ·refine .mp ⟨_,rfl⟩ (by simp only[Ctx.put];omega) λv0 hv0=>?_
  rw[q11]at hv0;cases hv0;simp[Ctx.put]
def Jl(P:Program)(t:TypeId)(name:String)(k:FuncId):Prop:=∀(v:Value) (w:World),(method (P.types.size+Made.depth) t v name).run P w=.ok (k,v) w
theorem Zt{o:Oper}{c:Call}{x:Operand}{name:String}{t:TypeId}{q:PV}{k:FuncId}{K:PV->Store->Prop}{R:PV->Store->Prop}(ho:o.op=.call c)(hc:c.callee=.invoke x name)(hx:ev F x=.ifc t q)(hM:Jl P t name k)(hE:qg P k)
  (h:PCalls P k (q :: c.args.toList.map (ev F)) S R) (hK:∀p S',R p S'->K p S'):PO P r n o F S K:=by
 intro G hG C w a N st next Q' hnext;have hxo:x∈o.op.operands:=by simp[ho,Op.operands,Call.operands,hc]
 have hxG:ev G x=.ifc t q:=(hG x hxo).trans hx;have harg:∀y∈c.args.toList,ev G y=ev F y:=λy hy=>hG y (by grind[Op.operands,Call.operands])
 have hmap:c.args.toList.map (ev F)=c.args.toList.map (ev G):=Bd λy hy=>(harg y hy).symm
 rw[hmap]at h;have hrel:=st.ev x;rw[hxG]at hrel;generalize hv:a.eval x=v at hrel;cases hrel with
 | ifc hq =>
  rename_i u;have hrun:(execOp a.eval o).run P w=.ok (.enter k (#[u]++c.args.map a.eval)) w:=by
   unfold execOp;have hex:(#[Value.iface t u]++c.args.map a.eval).extract 1 (#[Value.iface t u]++c.args.map a.eval).size=c.args.map a.eval:=by
    apply Array.ext
    ·simp
    ·simp
   have hget:(#[Value.iface t u]++c.args.map a.eval)[0]?=some (.iface t u):=by rw[Bl DC];rfl
   simp only[ho,resolve,hc,hv,Sem.run_bind,Sem.run_pure,Aj,invoke,Array.append_empty,hget,hex,callMethod,run_program,hM u w];exact hE _ w
  refine qf (x:=.enter k (#[u]++c.args.map a.eval)) (w':=w) DI hrun ?_;rw[Oper.uponIn_enter];refine⟨λhd=>?_,?_⟩
  ·cases hd
  ·have hlist:=Xb (l:=c.args.toList) st.ev;simp only[Array.toArray_toList]at hlist;have key:=h C w (#[u]++c.args.map a.eval) st.sim DF (by
    intro i p v hp hv;cases i with
    | zero =>
     rw[Bl DC]at hv;have hp:some q=some p:=hp;have hv:some u=some v:=hv;cases hp;cases hv;exact hq
    | succ i =>
     rw[Ba]at hp;rw[BI DC]at hv;exact hlist.2 i p v hp (by simpa using hv))
   refine(Zap key).mono ?_
   grind
end
open Go
section
variable {P:Program} {r:Rd} {n N:Nat} {Q:Exit->(Nat->PV)->Store->Prop} {F:Nat->PV} {S:Store}
theorem Zdy(C:Ctx)(S:Store)(w:World)(o ver sz e:Nat):Rel (C.put o ver none) (S.set o (.cells ver e [])) w (.sl o ver sz 0 0) (.slice none 0 0):=by
 refine .sl ⟨_,_,rfl,Af _,by unfold jT;omega,by unfold maxLen;omega,λh=>absurd rfl h⟩ (by simp only[Ctx.put];omega) λv0 hv0=>?_
 rw[q11]at hv0;cases hv0;simp[Ctx.put]
theorem qb {f : FuncId} {fn : Func} {c : Code} (hf : P.funcs[f]? = some fn) (hname : (fn.name == "runtime.NumGoroutine") = false) (hb : fn.body = some c) : qg P f := by
 intro args w;have h1 : fn.name ≠ "runtime.NumGoroutine" := by simpa using hname
 simp[callFunc,hf,h1,hb,mark]
def Zay(x:PV)(t:TypeId)(z:Value):Option PV :=
 match x with
 | .ifc t' p=>if t'=t then some (.tup [p,.sc (.bool true)]) else some (.tup [YH z,.sc (.bool false)])
 | _=>none
theorem Zi3{o:Oper}{x:Operand}{xt t:TypeId}{d:TypeDesc}{z:Value}{p:PV}{K:PV->Store->Prop}(ho:o.op=.typeAssert x xt t true)(ht:P.underlying t=some d)(hd:∀ms,d≠.interface ms)(hz:Program.zeroOf P t=some z)
  (hp:Zay (ev F x) t z=some p) (hK:K p S):PO P r n o F S K:=by
 intro G hG C w a N st next Q' hnext;have hr:=st.ev x;rw[hG x (by simp[ho,Op.operands])]at hr;have hnd:∀c,o.op≠.defer c:=by intro c hc;rw[ho]at hc;cases hc
 unfold Zay at hp;split at hp
 ·rename_i t' q he;rw[he]at hr;generalize hv:a.eval x=v at hr;cases hr with
  | ifc hq =>
   rename_i u
   by_cases ht':t'=t
   ·rw[if_pos ht']at hp;cases hp;refine qf (x:=.value (.tuple #[u,.bool true])) (w':=w) hnd ?_ (hnext _ _ _ _ _ hK (.tup rfl ?_) st.sim (.refl _ _ _))
    ·unfold execOp;simp only[ho,hv,Instr.typeAssert,Sem.run_bind,run_underlying ht,Aj]
     simp_all
    ·intro i c v hc hv
     match i with
     | 0=>grind
     | 1=>have hc:some (PV.sc (.bool true))=some c:=hc;have hv:some (Value.bool true)=some v:=hv;cases hc;cases hv;exact .sc _
     | i+2=>simp at hc
   ·rw[if_neg ht']at hp;cases hp;refine qf (x:=.value (.tuple #[z,.bool false])) (w':=w) hnd ?_ (hnext _ _ _ _ _ hK (.tup rfl ?_) st.sim (.refl _ _ _))
    ·unfold execOp;simp only[ho,hv,Instr.typeAssert,Sem.run_bind,run_underlying ht,Aj];cases d<;>first | exact absurd rfl (hd _) | (simp only[ht',if_false,if_true,Sem.run_bind,Qn hz,Aj];rfl)
    ·intro i c v hc hv
     match i with
     | 0=>grind[Wg]
     | 1=>have hc:some (PV.sc (.bool false))=some c:=hc;have hv:some (Value.bool false)=some v:=hv;cases hc;cases hv;exact .sc _
     | i+2=>simp at hc
 ·cases hp
theorem Zi4{o:Oper}{s x:Operand}{t u e:TypeId}{z:Value}{by_ m:Nat}{ds:List PV}{K:PV->Store->Prop}(ho:o.op=.call { callee:=.builtin .append,args:=#[s,x],argTypes:=#[t,u] })(hu:Z9 P t u=true)
  (hE:ElemOk P t e z by_) (hs:ev F s=.sc (.slice none 0 0)) (hx:Zq S (P.cellsOf e) (ev F x)=some (m,ds)) (hb:m*by_<=140737488355328) (hm:m<=140737488355328)
  (hK:∀C:Ctx,S C.next=.dead->∃id v,Fresh C S id v/\K (.sl id v (P.cellsOf e) 0 m) (S.set id (.cells v e ds))):PO P r n o F S K:=by
 intro G hG C w a N st next Q' hnext;have e1:ev G s=_:=(hG s (by grind[Op.operands,Call.operands])).trans hs;have e2:ev G x=ev F x:=hG x (by simp[ho,Op.operands,Call.operands]);rw[<-e2]at hx;have r1:=st.ev s;rw[e1]at r1;obtain⟨news,hsrc,hrel,_⟩:=WJ (P:=P) st.sim hx (st.ev x);have hnd:∀c,o.op≠.defer c:=by intro c hc;rw[ho]at hc;cases hc
 generalize hv:a.eval s=v at r1;cases r1;obtain⟨id,ver,hfr,hK⟩:=hK C st.sim.free
 by_cases hm0:m=0
 ·subst hm0;have hne:news=[]:=Ap (by rw[hsrc.size];simp);have hde:ds=[]:=Ap (by rw[hrel.1,hne];rfl);subst hne;subst hde;have hrun:=Jh (P:=P) (a:=a) (w:=w) ho hE.ty hu (by rw[hv];exact Zau (ty:=o.type) hE.ty hE.pos hsrc (Ca 0));obtain⟨t1,t2⟩:=st.sim.nilObject' hfr e;exact qf hnd hrun (hnext _ _ _ _ _ hK (Zdy C S w _ _ _ e) t1 t2)
 ·have hrun:=Jh (P:=P) (a:=a) (w:=w) ho hE.ty hu (by
   rw[hv];exact WI (ty:=o.type) (olds:=[]) hE.ty hE.pos hE.zero hE.bytes hsrc (by simp[Builtin.firstCells]) DB (by simpa using hb) hE.bpos)
  have hgc:m<=grownCap w m 0 e:=by have:=grownCap_ge w m 0 e;exact this
  have hgm:grownCap w m 0 e<=maxLen:=grownCap_le_maxLen w m 0 e (by unfold maxLen;omega);simp only[AQ]at hrun;have hsz:(#[]++news.toArray++Builtin.zeroCells z.cells (grownCap w m 0 e-m):Array Value).size=grownCap w m 0 e*P.cellsOf e:=by
   simp only[Ch,BG,A6,AQ,size_zeroCells,hE.zsize,hsrc.size];rw[<-Nat.add_mul];congr 1;omega
  have hra:=Xj (cs:=[]) (vs:=[]) (by simp[RelL]) hrel (Builtin.zeroCells z.cells (grownCap w m 0 e-m)).toList;simp only[AM]at hra;have hget:∀i:Nat,(#[]++news.toArray++Builtin.zeroCells z.cells (grownCap w m 0 e-m):Array Value)[i]?=(news++(Builtin.zeroCells z.cells (grownCap w m 0 e-m)).toList)[i]?:=by
   intro i;rw[<-Array.getElem?_toList];simp
  obtain⟨d1,d2⟩:=st.sim.drew;obtain⟨t1,t2⟩:=d1.object' hfr e (#[]++news.toArray++Builtin.zeroCells z.cells (grownCap w m 0 e-m)) ds DI (λi v hi hv=>hra.2.1 i v hi (by rw[<-hget];exact hv)) (λi p v hp hv=>(hra.2.2 i p v hp (by rw[<-hget];exact hv)).mono d2);exact qf hnd hrun (hnext _ _ _ _ _ hK (Xi C S w _ _ _ _ _ _ _ _ rfl hgc (AB hm (by simp[jT])) hgm hsz.symm) t1 (d2.trans t2))
theorem Sim.relabel{C:Ctx}{S:Store}{w:World}(h:Sim C S w){o ver e:Nat}{cs cs':List PV}(hs:S o=.cells ver e cs)(hl:cs'.length=cs.length)
  (hr:∀(i:Nat) (p':PV),cs'[i]?=some p'->cs[i]?=some p'\/∃p,cs[i]?=some p/\∀v,Rel C S w p v->Rel C S w p' v) :
  Sim C (S.set o (.cells ver e cs')) w/\Step C S w C (S.set o (.cells ver e cs')) w:=by
 have hl0:C.at o ver (C.loc o)=C:=by
  have hck:=h.clk o ver (by rw[hs];rfl);cases C;simp only[Ctx.at,Ctx.mk.injEq,true_and]at hck ⊢;refine⟨?_,by omega⟩;funext i;split
  ·rename_i e;rw[e]
  ·rfl
 have:=h.turn (w':=w) (ver':=ver) (cs':=cs') (l:=C.loc o) hs (Af _) (λ_=>rfl) ⟨⟨rfl,rfl,rfl,Af _,λ_ _ _=>rfl⟩,Af _⟩ (by
  rcases h.cells o ver e cs hs with ⟨h1,h2⟩ | ⟨b,k,c,g1,g2,g3,g4,g5,g6⟩
  ·exact .inl ⟨h1,Ap (by rw[hl,h2];rfl)⟩
  ·refine .inr ⟨b,k,c,g1,.inr (by rw[g1];rfl),g2,g3,by omega,λi v hi hv=>g5 i v DB hv,λi p v hp hv=>?_⟩;rcases hr i p hp with q | ⟨p0,q1,q2⟩
   ·exact g6 i p v q hv
   ·exact q2 v (g6 i p0 v q1 hv))
 simp_all
theorem Zaz{c:Code}{o ver e0:Nat}{cs:List PV}(i e sz:Nat)(hs:S o=.cells ver e0 cs)(hi:cs[i]?=some (.sc (.slice none 0 0)))
  (h:∀C:Ctx,S C.next=.dead->∃id v,Fresh C S id v/\PW P r n N c Q F ((S.set id (.cells v e [])).set o (.cells ver e0 (cs.set i (.sl id v sz 0 0))))):PW P r n N c Q F S:=by
 intro C w a st;obtain⟨id,vv,hfr,h⟩:=h C st.sim.free;obtain⟨k1,k2⟩:=st.sim.nilObject' hfr e;have hne:o≠id:=by
  intro e;have:=hfr.dead;rw[<-e,hs]at this;cases this
 obtain⟨j1,j2⟩:=k1.relabel (o:=o) (cs':=cs.set i (.sl id vv sz 0 0)) (by rw[q10 _ _ _ _ hne];exact hs) DC (by
  intro j p' hp';rw[Bz]at hp';split at hp'
  ·rename_i hij;subst hij;split at hp'
   ·cases hp';refine .inr ⟨_,hi,λv hv=>?_⟩;cases hv;simp[Zdy]
   ·cases hp'
  ·exact .inl hp')
 refine wpIn_mono (h _ w a ⟨j1,st.size,λi=>((st.fr i).mono k2).mono j2,r.keep j2 (r.keep k2 st.v)⟩) ?_;rintro e a' w' ⟨F2,S2,C2,h1,h2,h3,h4⟩;exact⟨F2,S2,C2,h1,h2,h3,(k2.trans j2).trans h4⟩
end
open Go
def ext(S:Store)(nx:Nat)(obs:List Ob):Store:=λi=>if i<nx then S i else obs.getD (i-nx) .dead
def zX(nx:Nat)(S:Store):Prop:=∀i,nx<=i->S i=.dead
section
variable {S:Store} {nx:Nat} {obs:List Ob}
theorem zE{i:Nat}(h:i<nx):ext S nx obs i=S i:=by simp[ext,h]
@[simp] theorem z7(k:Nat):ext S nx obs (nx+k)=obs.getD k .dead:=by
 simp only[ext];rw[if_neg DB,AE]
@[simp] theorem Zu:ext S nx obs nx=obs.getD 0 .dead:=by simp[ext]
theorem qy(h:zX nx S):ext S nx []=S:=by
 funext i;simp only[ext];split
 ·rfl
 ·rw[h i DB];rfl
theorem yh{id:Nat}(x:Ob)(h:nx<=id)(hl:id-nx<obs.length):(ext S nx obs).set id x=ext S nx (obs.set (id-nx) x):=by
 funext i;simp only[ext,Store.set]
 grind
theorem qU(x:Ob):(ext S nx obs).set (nx+obs.length) x=ext S nx (obs++[x]):=by
 funext i;simp only[ext,Store.set]
 grind
theorem yZ{i:Nat}(x:Ob)(h:i<nx):(ext S nx obs).set i x=ext (S.set i x) nx obs:=by
 funext j;simp only[ext,Store.set]
 grind
theorem uC:ext S nx obs (nx+obs.length)=.dead:=DC
theorem ZaA(more:List Ob)(o:Nat):ext S nx obs o=ext S nx (obs++more) o\/ext S nx obs o=.dead:=by
 simp only[ext]
 grind
theorem zU(h:zX nx S)(o:Nat):S o=ext S nx obs o\/S o=.dead:=by
 simp only[ext]
 by_cases h2:o<nx
 ·simp_all
 ·exact .inr (h o DB)
theorem jU:zX (nx+obs.length) (ext S nx obs):=by
 intro i hi;simp only[ext]
 grind
end
def Spec(P:Program)(f:FuncId)(args:List PV)(S:Store)(Q:PV->Store->Prop):Prop:=qg P f/\PCalls P f args S Q
def SpecV(P:Program)(V:Ctx->Store->World->Prop)(f:FuncId)(args:List PV)(S:Store)(Q:PV->Store->Prop):Prop:=qg P f/\PCallsV P V f args S Q
theorem Spec.v{P:Program}{V:Ctx->Store->World->Prop}{f:FuncId}{args:List PV}{S:Store}{Q:PV->Store->Prop}(h:Spec P f args S Q):SpecV P V f args S Q:=⟨h.1,h.2.v⟩
theorem SpecV.mono{P:Program}{V:Ctx->Store->World->Prop}{f:FuncId}{args:List PV}{S:Store}{Q Q':PV->Store->Prop}(h:SpecV P V f args S Q)(hq:∀p S',Q p S'->Q' p S'):SpecV P V f args S Q':=⟨h.1,h.2.mono hq⟩
theorem Spec.mono{P:Program}{f:FuncId}{args:List PV}{S:Store}{Q Q':PV->Store->Prop}(h:Spec P f args S Q)(hq:∀p S',Q p S'->Q' p S'):Spec P f args S Q':=⟨h.1,h.2.mono hq⟩
def Pure(P:Program)(f:FuncId)(args:List PV)(p:PV):Prop:=∀S,Spec P f args S (λq S'=>q=p/\S'=S)
section
variable (P:Program) (r:Rd) (n nx:Nat)
def Xm(t:TypeId):Option (TypeId × Nat × Nat) :=
 match P.underlying t with
 | some (.slice e) =>
  match Program.zeroOf P e with
  | some z =>
   match Program.bytesOf' P e with
   | some b=>if P.cellsOf e≠0/\z.cells.size=P.cellsOf e/\b≠0 then some (e,P.cellsOf e,b) else none
   | none=>none
  | none=>none
 | _=>none
def YK(S:Store)(obs:List Ob)(F:Nat->PV)(o:Oper):Option (Prop × PV × Store × List Ob) :=
 match o.op with
 | .load t x=>match uU P t (ext S nx obs) (ev F x) with | some p=>some (True,p,S,obs) | none=>none
 | .store t x y =>
  match ev F x with
  | .ptr id ver off =>
   match ext S nx obs id with
   | .cells v e cs =>
    if v=ver/\(ev F y).cells.length=P.cellsOf t/\P.cellsOf t≠0/\(ev F y).fit=true then
     (if nx<=id then some (off+(ev F y).cells.length<=cs.length,.sc undef,S,obs.set (id-nx) (.cells v e (yd cs off (ev F y).cells)))
      else some (off+(ev F y).cells.length<=cs.length,.sc undef,S.set id (.cells v e (yd cs off (ev F y).cells)),obs))
    else none
   | _=>none
  | _=>none
 | .call c =>
  match c.callee with
  | .builtin .append =>
   match c.args.toList,c.argTypes.toList with
   | [s,x],[t,t'] =>
    match ev F s with
    | .sl id ver sz 0 k =>
     match ext S nx obs id with
     | .cells v e cs =>
      match Xm P t with
      | some (e',sz',by_) =>
       match Zq (ext S nx obs) sz (ev F x) with
       | some (m,ds) =>
        if v=ver/\e'=e/\sz'=sz/\Z9 P t t'=true then
         (if nx<=id then some (k*sz<=cs.length/\(k+m)*by_<=140737488355328,.sl id (ver+1) sz 0 (k+m),S,obs.set (id-nx) (.cells (ver+1) e (cs.take (k*sz)++ds)))
          else some (k*sz<=cs.length/\(k+m)*by_<=140737488355328,.sl id (ver+1) sz 0 (k+m),S.set id (.cells (ver+1) e (cs.take (k*sz)++ds)),obs))
        else none
       | none=>none
      | none=>none
     | _=>none
    | _=>none
   | _,_=>none
  | _=>none
 | _=>none
def YL(S:Store)(obs:List Ob)(F:Nat->PV)(o:Oper):Option (Prop × (Nat->PV) × (Nat->Ob)) :=
 match o.op with
 | .alloc t =>
  match Program.zeroOf P t with
  | some z=>if z.cells.all (·.oneCell')=true then some (True,λv=>.ptr (nx+obs.length) v 0,λv=>.cells v t (qZ z)) else none
  | none=>none
 | .box t x=>if (ev F x).fit=true then some (True,λv=>.ptr (nx+obs.length) v 0,λv=>.cells v t (ev F x).cells) else none
 | .makeSlice t l c =>
  match ev F l,ev F c with
  | .sc (.int _ a),.sc (.int _ b) =>
   match P.underlying t with
   | some (.slice e) =>
    match Program.zeroOf P e with
    | some z =>
     match Program.bytesOf' P e with
     | some by_=>if z.cells.all (·.oneCell')=true/\z.cells.size=P.cellsOf e/\P.cellsOf e≠0 then
       some (0<=a/\a<=b/\b<=140737488355328/\b.toNat * by_<=281474976710656,λv=>.sl (nx+obs.length) v (P.cellsOf e) 0 a.toNat,λv=>.cells v e (yR b.toNat z)) else none
     | none=>none
    | none=>none
   | _=>none
  | _,_=>none
 | .makeMap _ none=>some (True,λv=>.mp (nx+obs.length) v,λv=>.map v [])
 | .call c =>
  match c.callee with
  | .builtin .append =>
   match c.args.toList,c.argTypes.toList with
   | [s,x],[t,t'] =>
    match ev F s with
    | .sc (.slice none 0 0) =>
     match Xm P t with
     | some (e,sz,by_) =>
      match Zq (ext S nx obs) sz (ev F x) with
      | some (m,ds)=>if Z9 P t t'=true then some (m*by_<=140737488355328,λv=>.sl (nx+obs.length) v sz 0 m,λv=>.cells v e ds) else none
      | none=>none
     | none=>none
    | _=>none
   | _,_=>none
  | _=>none
 | _=>none
def Yb(F:Nat->PV)(o:Oper):Option (FuncId × List PV) :=
 match o.op with
 | .call c =>
  match c.callee with
  | .value x=>match ev F x with | .fn (.func k) fs cs=>some (k,fs++c.args.toList.map (ev F)++cs) | _=>none
  | _=>none
 | _=>none
def XS(ops:Array Oper)(K:(Nat->PV)->Store->List Ob->Prop):List Oper->(Nat->PV)->Store->List Ob->Prop
 | [],F,S,obs=>K F S obs
 | o :: os,F,S,obs =>
  match gd ops F o with
  | none=>False
  | some false=>XS ops K os (z6 F o.dst (.sc undef)) S obs
  | some true=>PO P r n o F (ext S nx obs) (λp S'=>∃S1 obs1,S'=ext S1 nx obs1/\XS ops K os (z6 F o.dst p) S1 obs1)
def WP:List (Nat × Nat)->Nat->Option Nat
 | [],_=>none
 | (a,p) :: l,i=>if i=a then some p else WP l i
def WQ(D:List (Nat × Nat))(F:Nat->PV)(o:Oper):Option Bool :=
 match o.guard with
 | none=>some true
 | some (j,want) =>
  match WP D j with
  | none=>some false
  | some d=>match F d with
   | .sc v=>match v with
    | .bool b=>some (b == want)
    | _=>some false
   | _=>none
def ue(ops:Array Oper)(D:List (Nat × Nat)):Bool :=
 ops.toList.all λo=>match o.guard with
 | none=>true
 | some (j,_)=>decide ((ops[j]?).bind (·.dst)=WP D j)
def Jm(D:List (Nat × Nat))(Gc:List Oper->(Nat->PV)->Store->List Ob->Option Nat->FuncId->List PV->Prop)(Gh:List Oper->(Nat->PV)->Store->List Ob->Oper->Prop)(X:(Nat->PV)->Store->List Ob->Prop)
  (o:Oper) (os:List Oper) (F:Nat->PV) (S:Store) (obs:List Ob):Prop :=
 match WQ D F o with
 | none=>False
 | some false=>X (z6 F o.dst (.sc undef)) S obs
 | some true =>
  match wT P F o with
  | some p=>X (z6 F o.dst p) S obs
  | none =>
   match YK P nx S obs F o with
   | some (A,p,S',obs')=>A/\X (z6 F o.dst p) S' obs'
   | none =>
    match YL P nx S obs F o with
    | some (A,pf,of)=>A/\∀v,X (z6 F o.dst (pf v)) S (obs++[of v])
    | none =>
     match Yb F o with
     | some (f,args)=>Gc os F S obs o.dst f args
     | none=>Gh os F S obs o
def XR(D:List (Nat × Nat))(K:(Nat->PV)->Store->List Ob->Prop)(Gc:List Oper->(Nat->PV)->Store->List Ob->Option Nat->FuncId->List PV->Prop)(Gh:List Oper->(Nat->PV)->Store->List Ob->Oper->Prop):
  List Oper->(Nat->PV)->Store->List Ob->Prop
 | [],F,S,obs=>K F S obs
 | o :: os,F,S,obs=>Jm P nx D Gc Gh (XR D K Gc Gh os) o os F S obs
end
section
variable {P:Program} {r:Rd} {n nx N:Nat} {Q:Exit->(Nat->PV)->Store->Prop} {F:Nat->PV} {S:Store} {obs:List Ob}
theorem ZaB{t e:TypeId}{sz by_:Nat}(h:Xm P t=some (e,sz,by_)):∃z,ElemOk P t e z by_/\sz=P.cellsOf e:=by
 unfold Xm at h;split at h
 ·rename_i e0 ht;split at h
  ·rename_i z hz;split at h
   ·rename_i b hb;split at h
    ·rename_i hc;cases h;exact⟨z,⟨ht,hc.1,hz,hc.2.1,hb,hc.2.2⟩,rfl⟩
    ·cases h
   ·cases h
  ·cases h
 ·cases h
theorem Zi5{o:Oper}{K K':PV->Store->Prop}(h:PO P r n o F S K)(hk:∀p S',K p S'->K' p S'):PO P r n o F S K' :=
 λG hG C w a N st next Q' hn=>h G hG C w a N st next Q' λv w' C' S' p hp=>hn v w' C' S' p (hk p S' hp)
theorem ZaC{c:Call}{s x:Operand}{t t':TypeId}(hc:c.callee=.builtin .append)(h1:c.args.toList=[s,x])(h2:c.argTypes.toList=[t,t']):c={ callee:=.builtin .append,args:=#[s,x],argTypes:=#[t,t'] }:=by
 have e1:c.args=#[s,x]:=by apply BC.1;simpa using h1
 have e2:c.argTypes=#[t,t']:=by apply BC.1;simpa using h2
 cases c;simp_all
theorem Zdz{o:Oper}{A:Prop}{p:PV}{S':Store}{obs':List Ob}{K:PV->Store->Prop}(h:YK P nx S obs F o=some (A,p,S',obs'))(hA:A)(hK:K p (ext S' nx obs')):PO P r n o F (ext S nx obs) K:=by
 unfold YK at h;split at h
 ·rename_i t x ho;split at h
  ·rename_i q hq;cases h;exact Xc (p:=p) (S':=ext S nx obs) (by grind[qN]) hK
  ·cases h
 ·rename_i t x y ho;split at h
  ·rename_i id ver off hx;split at h
   ·rename_i v e cs hs;split at h
    ·rename_i hc;obtain⟨c1,c2,c3,c4⟩:=hc;have main:∀T,(off+(ev F y).cells.length<=cs.length)->(ext S nx obs).set id (.cells v e (yd cs off (ev F y).cells))=T->K (.sc undef) T->PO P r n o F (ext S nx obs) K:=by
      intro T hT e1 hK;refine Xc (p:=.sc undef) (S':=T) ?_ hK;unfold qN;rw[ho];simp only[Jf,hx,hs];rw[if_pos ⟨c1,c2,c3,hT,c4⟩,e1];rfl
     split at h
     ·rename_i hid;cases h;refine main _ hA (yh _ hid ?_) hK;rcases Be (id-nx) obs.length with q | q
      ·exact q
      ·exfalso;simp only[ext]at hs;rw[if_neg DB,Aa,Ak q]at hs;cases hs
     grind[yZ]
    ·cases h
   ·cases h
  ·cases h
 ·rename_i c ho;split at h
  ·rename_i hcal;split at h
   ·rename_i s x t t' h1 h2;split at h
    ·rename_i id ver sz k hsl;split at h
     ·rename_i v e cs hs;split at h
      ·rename_i e' sz' by_ hel;split at h
       ·rename_i m ds hsrc;split at h
        ·rename_i hc;obtain⟨rfl,rfl,rfl,hu⟩:=hc;split at h
         ·rename_i hid;cases h;obtain⟨z,hE,rfl⟩:=ZaB hel;obtain⟨a1,a2⟩:=hA;have hlt:id-nx<obs.length:=by
           rcases Be (id-nx) obs.length with q | q
           ·exact q
           ·exfalso;simp only[ext]at hs;rw[if_neg DB,Aa,Ak q]at hs;cases hs
          have ha:k+m<=140737488355328:=AB (Cw _ (BU hE.bpos)) a2;rw[ZaC hcal h1 h2]at ho
          grind[Zaw,yh]
         ·rename_i hid;cases h;obtain⟨z,hE,rfl⟩:=ZaB hel;obtain⟨a1,a2⟩:=hA;have ha:k+m<=140737488355328:=AB (Cw _ (BU hE.bpos)) a2;rw[ZaC hcal h1 h2]at ho
          grind[Zaw,yZ]
        ·cases h
       ·cases h
      ·cases h
     ·cases h
    ·cases h
   ·cases h
  ·cases h
 ·cases h
theorem ZdA{o:Oper}{A:Prop}{pf:Nat->PV}{of:Nat->Ob}{K:PV->Store->Prop}(h:YL P nx S obs F o=some (A,pf,of))(hA:A)(hK:∀v,K (pf v) (ext S nx (obs++[of v]))):PO P r n o F (ext S nx obs) K:=by
 unfold YL at h;split at h
 ·rename_i t ho;split at h
  ·rename_i z hz;split at h
   ·rename_i h1;cases h;exact Zdv ho hz h1 (Zp (X:=λid v=>K (.ptr id v 0) ((ext S nx obs).set id (.cells v t (qZ z)))) _ uC λv=>by simp_all[qU])
   ·cases h
  ·cases h
 ·rename_i t x ho;split at h
  ·rename_i h1;cases h;exact ZiS ho h1 (Zp (X:=λid v=>K (.ptr id v 0) ((ext S nx obs).set id (.cells v t (ev F x).cells))) _ uC λv=>by grind[qU])
  ·cases h
 ·rename_i t l c ho;split at h
  ·rename_i k1 a k2 b hl hc;split at h
   ·rename_i e ht;split at h
    ·rename_i z hz;split at h
     ·rename_i by_ hby
      split at h
      ·rename_i hcond;obtain⟨c1,c2,c3⟩:=hcond;cases h;obtain⟨a1,a2,a3,a4⟩:=hA;obtain⟨a',rfl⟩:=AN a1;obtain⟨b',rfl⟩:=AN (Int.le_trans a1 a2);simp only[AL]at hK a4;exact ZiT ho ht hl hc hz c1 c2 c3 hby DB DB a4 (Zp (X:=λid v=>K (.sl id v (P.cellsOf e) 0 a') ((ext S nx obs).set id (.cells v e (yR b' z)))) _ uC λv=>by grind[qU])
      ·cases h
     ·cases h
    ·cases h
   ·cases h
  ·cases h
 ·rename_i t ho;cases h;exact Zi2 ho (Zp (X:=λid v=>K (.mp id v) ((ext S nx obs).set id (.map v []))) _ uC λv=>by simp_all[qU])
 ·rename_i c ho;split at h
  ·rename_i hcal;split at h
   ·rename_i s x t t' h1 h2;split at h
    ·rename_i hsl;split at h
     ·rename_i e sz by_ hel;split at h
      ·rename_i m ds hsrc;split at h
       ·rename_i hc;cases h;obtain⟨z,hE,rfl⟩:=ZaB hel;have ha:m<=140737488355328:=AB (Cw _ (BU hE.bpos)) hA;rw[ZaC hcal h1 h2]at ho;exact Zi4 ho hc hE hsl hsrc hA ha (Zp (X:=λid v=>K (.sl id v (P.cellsOf e) 0 m) ((ext S nx obs).set id (.cells v e ds))) _ uC λv=>by grind[qU])
       ·cases h
      ·cases h
     ·cases h
    ·cases h
   ·cases h
  ·cases h
 ·cases h
theorem ZaD{o:Oper}{f:FuncId}{args:List PV}{K:PV->Store->Prop}(h:Yb F o=some (f,args))(hp:SpecV P r.V f args S K):PO P r n o F S K:=by
 unfold Yb at h;split at h
 ·rename_i c ho;split at h
  ·rename_i x hcal;split at h
   ·rename_i k fs cs hx;cases h;exact Zdr ho hcal hx hp.1 hp.2 λ_ _ h=>h
   ·cases h
  ·cases h
 ·cases h
theorem Zi6{ops:Array Oper}{D:List (Nat × Nat)}(h:ue ops D=true){o:Oper}(ho:o∈ops.toList)(F:Nat->PV):gd ops F o=WQ D F o:=by
 unfold ue at h;rw[Az]at h;have:=h o ho
 grind[gd,WQ]
theorem Jn{D:List (Nat × Nat)}{ops:Array Oper}(hD:ue ops D=true){K:(Nat->PV)->Store->List Ob->Prop}{Gc:List Oper->(Nat->PV)->Store->List Ob->Option Nat->FuncId->List PV->Prop}{Gh:List Oper->(Nat->PV)->Store->List Ob->Oper->Prop}
  (hc:∀os F S obs d f args,Gc os F S obs d f args->os <:+ ops.toList->SpecV P r.V f args (ext S nx obs) (λp S'=>∃S1 obs1,S'=ext S1 nx obs1/\XS P r n nx ops K os (z6 F d p) S1 obs1))
  (hh:∀os F S obs o,Gh os F S obs o->os <:+ ops.toList->PO P r n o F (ext S nx obs) (λp S'=>∃S1 obs1,S'=ext S1 nx obs1/\XS P r n nx ops K os (z6 F o.dst p) S1 obs1)) :
  ∀(l:List Oper) (F:Nat->PV) (S:Store) (obs:List Ob),l <:+ ops.toList->XR P nx D K Gc Gh l F S obs->XS P r n nx ops K l F S obs
 | [],F,S,obs,_,h=>h
 | o :: os,F,S,obs,hs,h=>by
  have hs':os <:+ ops.toList:=(List.suffix_cons o os).trans hs;unfold XR Jm at h;rw[<-Zi6 hD (hs.subset DC) F]at h;unfold XS;split at h
  ·omega
  ·exact Jn hD hc hh os _ _ _ hs' h
  ·split at h
   ·rename_i p hp;exact Zak hp ⟨S,obs,rfl,Jn hD hc hh os _ _ _ hs' h⟩
   ·split at h
    ·rename_i A p S' obs' hm;exact Zdz hm h.1 ⟨S',obs',rfl,Jn hD hc hh os _ _ _ hs' h.2⟩
    ·split at h
     ·rename_i A pf of hm;exact ZdA hm h.1 λv=>⟨S,_,rfl,Jn hD hc hh os _ _ _ hs' (h.2 v)⟩
     ·split at h
      ·rename_i f args hf;exact ZaD hf (hc _ _ _ _ _ _ _ h hs')
      ·exact hh _ _ _ _ _ h hs'
theorem xH{ops:Array Oper}{K:(Nat->PV)->Store->List Ob->Prop}{l:List Oper}{D:List (Nat × Nat)}(hs:l <:+ ops.toList)(hD:ue ops D=true)
  (h:∀(Gc:List Oper->(Nat->PV)->Store->List Ob->Option Nat->FuncId->List PV->Prop) (Gh:List Oper->(Nat->PV)->Store->List Ob->Oper->Prop),
   (∀os F S obs d f args,(os <:+ ops.toList->SpecV P r.V f args (ext S nx obs) (λp S'=>∃S1 obs1,S'=ext S1 nx obs1/\XS P r n nx ops K os (z6 F d p) S1 obs1))->Gc os F S obs d f args) ->
   (∀os F S obs o,(os <:+ ops.toList->PO P r n o F (ext S nx obs) (λp S'=>∃S1 obs1,S'=ext S1 nx obs1/\XS P r n nx ops K os (z6 F o.dst p) S1 obs1))->Gh os F S obs o) ->
   ∀X:List Oper->(Nat->PV)->Store->List Ob->Prop,(∀F S obs,X [] F S obs=K F S obs)->(∀o os F S obs,X (o :: os) F S obs=Jm P nx D Gc Gh (X os) o os F S obs)->X l F S obs):XS P r n nx ops K l F S obs :=
 Jn hD (λ_ _ _ _ _ _ _ h=>h) (λ_ _ _ _ _ h=>h) l F S obs hs (h _ _ (λ_ _ _ _ _ _ _ h=>h) (λ_ _ _ _ _ h=>h) _ (λ_ _ _=>rfl) (λ_ _ _ _ _=>rfl))
theorem ZdB{ops:Array Oper}{Q':Exit->Act->World->Prop}(hN:∀o∈ops,∀d,o.dst=some d->d<N){K:(Nat->PV)->Store->List Ob->Prop}{C0:Ctx}{S0:Store}{w0:World}{ds:List Deferred}
  (hQ:∀F' S' obs' C' w' a',K F' S' obs'->St r C' (ext S' nx obs') w' N F' a'->a'.defers=ds->Step C0 S0 w0 C' (ext S' nx obs') w'->Q' .normal a' w') :
  ∀(m k:Nat) (F:Nat->PV) (S:Store) (obs:List Ob) (C:Ctx) (w:World) (a:Act),ops.size-k=m->XS P r n nx ops K (ops.toList.drop k) F S obs->St r C (ext S nx obs) w N F a->a.defers=ds->Step C0 S0 w0 C (ext S nx obs) w ->
   wpOpsIn (Fe r) n P ops Q' ((List.range ops.size).drop k) a w:=by
 intro m
 induction m with
 | zero =>
  intro k F S obs C w a hm h st hd step;have e1:(List.range ops.size).drop k=[]:=BN DF;have e2:ops.toList.drop k=[]:=BN DF;rw[e1];rw[e2]at h;exact hQ F S obs C w a h st hd step
 | succ m ih =>
  intro k F S obs C w a hm h st hd step;have hk:k<ops.size:=DB
  rw[Zal k _ hk];have e2:ops.toList.drop k=ops[k] :: ops.toList.drop (k+1):=by
   rw[AJ DB];simp
  rw[e2]at h;have hget:ops[k]?=some ops[k]:=DC
  have hdst:∀x,ops[k].dst=some x->x<N:=hN _ (C8 hk);rw[wpOpsIn_cons];unfold wpOpIn;rw[hget];dsimp only;unfold XS at h;split at h
  ·exact h.elim
  ·rename_i hg;rw[YI st hg];simp only[AP,if_false];exact⟨λ_ _=>trivial,ih (k+1) _ _ _ C w _ DB h (st.put (.refl _ _ _) st.sim hdst (.sc _)) (by simp_all[Xd]) step⟩
  ·rename_i hg;rw[YI st hg];simp only[if_true];refine h F (λ_ _=>rfl) C w a N st _ _ ?_;rintro v w' C' S' p ⟨S1,obs1,rfl,hp⟩ hrel hs hstep;exact ih (k+1) _ _ _ C' w' _ DB hp (st.put hstep hs hdst hrel) (by simp_all[Xd]) (step.trans hstep)
theorem Zi7{id:Nat}{ops:Array Oper}(hN:wy N ops=true)(h:∀K:(Nat->PV)->Store->List Ob->Prop,(∀F' S' obs',Q .normal F' (ext S' nx obs')->K F' S' obs')->XS P r n nx ops K ops.toList F S obs):PW P r n N (.region id ops false) Q F (ext S nx obs):=by
 intro C w a st;refine wpIn_region ?_;have:=ZdB (Q':=λe a' w'=>∃F' S' C',Q e F' S'/\St r C' S' w' N F' a'/\Defs w.heap.size a.defers C' S' w' a'.defers/\Step C (ext S nx obs) w C' S' w') (WB hN)
  (λF' S' obs' C' w' a' hk hst hd hstep=>⟨F',_,C',hk,hst,.of_eq hd,hstep⟩) ops.size 0 F S obs C w a rfl (K:=λF' S' obs'=>Q .normal F' (ext S' nx obs')) (by simpa using h _ λ_ _ _ h=>h) st rfl (.refl _ _ _)
 simpa using this
theorem xk{id:Nat}{ops:Array Oper}(D:List (Nat × Nat))(hN:wy N ops=true)(hD:ue ops D=true)
  (h:∀(K:(Nat->PV)->Store->List Ob->Prop) (Gc:List Oper->(Nat->PV)->Store->List Ob->Option Nat->FuncId->List PV->Prop) (Gh:List Oper->(Nat->PV)->Store->List Ob->Oper->Prop),
   (∀F' S' obs',Q .normal F' (ext S' nx obs')->K F' S' obs') ->
   (∀os F S obs d f args,(os <:+ ops.toList->SpecV P r.V f args (ext S nx obs) (λp S'=>∃S1 obs1,S'=ext S1 nx obs1/\XS P r n nx ops K os (z6 F d p) S1 obs1))->Gc os F S obs d f args) ->
   (∀os F S obs o,(os <:+ ops.toList->PO P r n o F (ext S nx obs) (λp S'=>∃S1 obs1,S'=ext S1 nx obs1/\XS P r n nx ops K os (z6 F o.dst p) S1 obs1))->Gh os F S obs o) ->
   ∀X:List Oper->(Nat->PV)->Store->List Ob->Prop,(∀F S obs,X [] F S obs=K F S obs)->(∀o os F S obs,X (o :: os) F S obs=Jm P nx D Gc Gh (X os) o os F S obs)->X ops.toList F S obs):PW P r n N (.region id ops false) Q F (ext S nx obs) :=
 Zi7 hN λK hK=>xH (Dh _) hD λGc Gh hc hh X h0 hX=>h K Gc Gh hK hc hh X h0 hX
end
open Go
section
variable (P:Program) (nx:Nat)
def Jo(ops:Array Oper)(ids:Option (List Nat))(S0:Store)(Gp:Row->(Nat->PV)->Store->List Ob->Option Nat->FuncId->List PV->Prop)(X:(Nat->PV)->Store->List Ob->Prop)(i:Nat)(is:Row)(F:Nat->PV)(S:Store)(obs:List Ob):Prop :=
 match ops[i]? with
 | none=>False
 | some o =>
  match gd ops F o with
  | none=>False
  | some false=>X (z6 F o.dst (.sc undef)) S obs
  | some true =>
   match wT P F o with
   | some p=>X (z6 F o.dst p) S obs
   | none =>
    match Qr P ids S0 F o with
    | some p=>X (z6 F o.dst p) S obs
    | none =>
     match Yb F o with
     | some (f,args)=>Gp is F S obs o.dst f args
     | none=>False
def Jp(ops:Array Oper)(ids:Option (List Nat))(S0:Store)(Gc:Row->(Nat->PV)->Store->List Ob->Option Nat->FuncId->List PV->Prop)(Gh:Row->(Nat->PV)->Store->List Ob->Oper->Prop)(X:(Nat->PV)->Store->List Ob->Prop)(i:Nat)(is:Row)(F:Nat->PV)(S:Store)(obs:List Ob):Prop :=
 match ops[i]? with
 | none=>False
 | some o =>
  match gd ops F o with
  | none=>False
  | some false=>X (z6 F o.dst (.sc undef)) S obs
  | some true =>
   match YK P nx S obs F o with
   | some (A,p,S',obs')=>A/\yH ids S0 (ext S' nx obs')/\X (z6 F o.dst p) S' obs'
   | none =>
    match YL P nx S obs F o with
    | some (A,pf,of)=>A/\∀v,yH ids S0 (ext S nx (obs++[of v]))/\X (z6 F o.dst (pf v)) S (obs++[of v])
    | none =>
     match Yb F o with
     | some (f,args)=>Gc is F S obs o.dst f args
     | none=>Gh is F S obs o
def XD(ops:Array Oper)(ids:Option (List Nat))(S0:Store)(K:(Nat->PV)->Store->List Ob->Prop)(Gp Gc:Row->(Nat->PV)->Store->List Ob->Option Nat->FuncId->List PV->Prop)(Gh:Row->(Nat->PV)->Store->List Ob->Oper->Prop):
  Row->(Nat->PV)->Store->List Ob->Prop
 | .done,F,S,obs=>K F S obs
 | .stop,_,_,_=>True
 | .pure i is,F,S,obs=>Jo P ops ids S0 Gp (XD ops ids S0 K Gp Gc Gh is) i is F S obs
 | .alt i is more,F,S,obs=>Jp P nx ops ids S0 Gc Gh (XD ops ids S0 K Gp Gc Gh is) i is F S obs/\XD ops ids S0 K Gp Gc Gh more F S obs
end
def KX(nx:Nat)(K:(Nat->PV)->Store->List Ob->Prop)(F:Nat->PV)(T:Store):Prop:=∃S obs,T=ext S nx obs/\K F S obs
section
variable {P:Program} {r:Rd} {n nx N:Nat} {Q:Exit->(Nat->PV)->Store->Prop} {F:Nat->PV} {S:Store} {obs:List Ob}
theorem Zi8{o:Oper}{A:Prop}{p:PV}{S':Store}{obs':List Ob}(h:YK P nx S obs F o=some (A,p,S',obs'))(hA:A):
  qN P F (ext S nx obs) o=some (p,ext S' nx obs')\/qN P F (ext S nx obs) o=none:=by
 unfold YK at h;split at h
 ·rename_i t x ho;split at h
  ·rename_i q hq;cases h;left;unfold qN;rw[ho];simp only[hq,A5]
  ·cases h
 ·rename_i t x y ho;split at h
  ·rename_i id ver off hx;split at h
   ·rename_i v e cs hs;split at h
    ·rename_i hc;obtain⟨c1,c2,c3,c4⟩:=hc;have main:∀T,(off+(ev F y).cells.length<=cs.length)->(ext S nx obs).set id (.cells v e (yd cs off (ev F y).cells))=T->qN P F (ext S nx obs) o=some (.sc undef,T):=by
      intro T hT e1;unfold qN;rw[ho];simp only[Jf,hx,hs];rw[if_pos ⟨c1,c2,c3,hT,c4⟩,e1];rfl
     left;split at h
     ·rename_i hid;cases h;refine main _ hA (yh _ hid ?_);rcases Be (id-nx) obs.length with q | q
      ·exact q
      ·exfalso;simp only[ext]at hs;rw[if_neg DB,Aa,Ak q]at hs;cases hs
     ·rename_i hid;cases h;exact main _ hA (yZ _ DB)
    ·cases h
   ·cases h
  ·cases h
 ·rename_i c ho;right;unfold qN;rw[ho]
 simp
theorem Zi9{o:Oper}{x:Prop × (Nat->PV) × (Nat->Ob)}(h:YL P nx S obs F o=some x)(T:Store):qN P F T o=none:=by grind[YL,qN]
theorem Zja{o:Oper}{x:FuncId × List PV}(h:Yb F o=some x)(T:Store):qN P F T o=none:=by grind[Yb,qN]
theorem Yc{ops:Array Oper}{ids:Option (List Nat)}{S0:Store}{K:(Nat->PV)->Store->List Ob->Prop}{Gp Gc:Row->(Nat->PV)->Store->List Ob->Option Nat->FuncId->List PV->Prop}{Gh:Row->(Nat->PV)->Store->List Ob->Oper->Prop}
  (hp:∀is F S obs d f args,Gp is F S obs d f args->∃p,Pure P f args p/\PX P r n ops ids S0 is (z6 F d p) (ext S nx obs) (KX nx K))
  (hc:∀is F S obs d f args,Gc is F S obs d f args->SpecV P r.V f args (ext S nx obs) (λp S'=>yH ids S0 S'/\PX P r n ops ids S0 is (z6 F d p) S' (KX nx K)))
  (hh:∀is F S obs o,Gh is F S obs o->qN P F (ext S nx obs) o=none/\PO P r n o F (ext S nx obs) (λp S'=>yH ids S0 S'/\PX P r n ops ids S0 is (z6 F o.dst p) S' (KX nx K))) :
  ∀(row:Row) (F:Nat->PV) (S:Store) (obs:List Ob),XD P nx ops ids S0 K Gp Gc Gh row F S obs->PX P r n ops ids S0 row F (ext S nx obs) (KX nx K)
 | .done,F,S,obs,h=>⟨S,obs,rfl,h⟩
 | .stop,_,_,_,_=>trivial
 | .pure i is,F,S,obs,h=>by
  unfold XD Jo at h;unfold PX;cases ho:ops[i]? with
  | none=>simp only[ho]at h
  | some o =>
   simp only[ho]at h ⊢;cases hg:gd ops F o with
   | none=>simp only[hg]at h
   | some b =>
    cases b with
    | false=>simp only[hg]at h ⊢;exact Yc hp hc hh is _ _ _ h
    | true =>
     simp only[hg]at h ⊢;cases h1:wT P F o with
     | some p=>simp only[h1]at h ⊢;exact Yc hp hc hh is _ _ _ h
     | none =>
      simp only[h1]at h ⊢;cases h2:Qr P ids S0 F o with
      | some p=>simp only[h2]at h ⊢;exact Yc hp hc hh is _ _ _ h
      | none =>
       simp only[h2]at h ⊢;cases h3:Yb F o with
       | none=>simp only[h3]at h
       | some fa =>
        obtain⟨f,args⟩:=fa;simp only[h3]at h;obtain⟨p,q1,q2⟩:=hp _ _ _ _ _ _ _ h;exact⟨p,λS' _=>ZaD h3 (q1 S').v,q2⟩
 | .alt i is more,F,S,obs,h=>by
  unfold XD Jp at h;unfold PX;obtain⟨h,hmore⟩:=h;refine⟨?_,Yc hp hc hh more _ _ _ hmore⟩;cases ho:ops[i]? with
  | none=>simp only[ho]at h
  | some o =>
   simp only[ho]at h ⊢;cases hg:gd ops F o with
   | none=>simp only[hg]at h
   | some b =>
    cases b with
    | false=>simp only[hg]at h ⊢;exact Yc hp hc hh is _ _ _ h
    | true =>
     simp only[hg]at h ⊢;cases hm:YK P nx S obs F o with
     | some x =>
      obtain⟨A,p,S',obs'⟩:=x;simp only[hm]at h;obtain⟨hA,hag,h⟩:=h;have key:=Yc hp hc hh is _ _ _ h;rcases Zi8 hm hA with e | e<;>grind[Zdz]
     | none =>
      simp only[hm]at h;cases hw:YL P nx S obs F o with
      | some x =>
       obtain⟨A,pf,of⟩:=x;simp only[hw]at h;simp only[Zi9 hw];exact ZdA hw h.1 λv=>⟨(h.2 v).1,Yc hp hc hh is _ _ _ (h.2 v).2⟩
      | none =>
       grind[Zja,ZaD]
theorem ZdC{ops:Array Oper}{ids:Option (List Nat)}{S0:Store}{K:(Nat->PV)->Store->List Ob->Prop}{row:Row}
  (h:∀(Gp Gc:Row->(Nat->PV)->Store->List Ob->Option Nat->FuncId->List PV->Prop) (Gh:Row->(Nat->PV)->Store->List Ob->Oper->Prop),
   (∀is F S obs d f args p,Pure P f args p->PX P r n ops ids S0 is (z6 F d p) (ext S nx obs) (KX nx K)->Gp is F S obs d f args) ->
   (∀is F S obs d f args,SpecV P r.V f args (ext S nx obs) (λp S'=>yH ids S0 S'/\PX P r n ops ids S0 is (z6 F d p) S' (KX nx K))->Gc is F S obs d f args) ->
   (∀is F S obs o,qN P F (ext S nx obs) o=none->PO P r n o F (ext S nx obs) (λp S'=>yH ids S0 S'/\PX P r n ops ids S0 is (z6 F o.dst p) S' (KX nx K))->Gh is F S obs o) ->
   ∀X:Row->(Nat->PV)->Store->List Ob->Prop,(∀F S obs,X .done F S obs=K F S obs)->(∀F S obs,X .stop F S obs=True)->(∀i is F S obs,X (.pure i is) F S obs=Jo P ops ids S0 Gp (X is) i is F S obs) ->
   (∀i is more F S obs,X (.alt i is more) F S obs=(Jp P nx ops ids S0 Gc Gh (X is) i is F S obs/\X more F S obs))->X row F S obs):PX P r n ops ids S0 row F (ext S nx obs) (KX nx K) :=
 Yc (Gp:=λis F S obs d f args=>∃p,Pure P f args p/\PX P r n ops ids S0 is (z6 F d p) (ext S nx obs) (KX nx K)) (Gh:=λis F S obs o=>qN P F (ext S nx obs) o=none/\PO P r n o F (ext S nx obs) (λp S'=>yH ids S0 S'/\PX P r n ops ids S0 is (z6 F o.dst p) S' (KX nx K)))
  (λ_ _ _ _ _ _ _ h=>h) (λ_ _ _ _ _ _ _ h=>h) (λ_ _ _ _ _ h=>h) row F S obs
  (h _ _ _ (λ_ _ _ _ _ _ _ p h1 h2=>⟨p,h1,h2⟩) (λ_ _ _ _ _ _ _ h=>h) (λ_ _ _ _ _ h1 h2=>⟨h1,h2⟩) _ (λ_ _ _=>rfl) (λ_ _ _=>rfl) (λ_ _ _ _ _=>rfl) (λ_ _ _ _ _ _=>rfl))
theorem ZdD{ops:Array Oper}{ids:Option (List Nat)}{S0:Store}:∀(row:Row) (F:Nat->PV) (T:Store),PX P r n ops ids S0 row F T (KX nx λF' S' obs'=>Q .normal F' (ext S' nx obs'))->PX P r n ops ids S0 row F T (Q .normal):=by
 have e:(KX nx λF' S' obs'=>Q .normal F' (ext S' nx obs'))=λF' T=>(∃S' obs',T=ext S' nx obs')/\Q .normal F' T:=by
  funext F' T;apply propext;constructor
  ·rintro⟨S',obs',rfl,h⟩;grind
  ·rintro⟨⟨S',obs',rfl⟩,h⟩;exact⟨S',obs',rfl,h⟩
 intro row
 induction row with
 | done=>simp_all
 | stop=>simp
 | pure i is ih =>
  intro F T h;unfold PX at h ⊢;cases ho:ops[i]? with
  | none=>simp_all
  | some o =>
   simp only[ho]at h ⊢;cases hg:gd ops F o with
   | none=>simp only[hg]at h
   | some b =>
    cases b<;>grind
 | alt i is more ih1 ih2 =>
  intro F T h;unfold PX at h ⊢;refine⟨?_,ih2 _ _ h.2⟩;have h:=h.1;cases ho:ops[i]? with
  | none=>simp_all
  | some o =>
   simp only[ho]at h ⊢;cases hg:gd ops F o with
   | none=>simp only[hg]at h
   | some b =>
    cases b with
    | false=>grind
    | true =>
     simp only[hg]at h ⊢
     grind[Zi5]
theorem Zjb{id:Nat}{ops:Array Oper}(ids:Option (List Nat))(row:Row)(hm:P.follows .mixedOrders=true)(hN:wy N ops=true)(hR:Qp ops=true)(hrow:xz ops [] [] row=true)
  (h:∀(K:(Nat->PV)->Store->List Ob->Prop) (Gp Gc:Row->(Nat->PV)->Store->List Ob->Option Nat->FuncId->List PV->Prop) (Gh:Row->(Nat->PV)->Store->List Ob->Oper->Prop),
   (∀F' S' obs',Q .normal F' (ext S' nx obs')->K F' S' obs') ->
   (∀is F' S' obs' d f args p,Pure P f args p->PX P r n ops ids (ext S nx obs) is (z6 F' d p) (ext S' nx obs') (KX nx K)->Gp is F' S' obs' d f args) ->
   (∀is F' S' obs' d f args,SpecV P r.V f args (ext S' nx obs') (λp T=>yH ids (ext S nx obs) T/\PX P r n ops ids (ext S nx obs) is (z6 F' d p) T (KX nx K))->Gc is F' S' obs' d f args) ->
   (∀is F' S' obs' o,qN P F' (ext S' nx obs') o=none->PO P r n o F' (ext S' nx obs') (λp T=>yH ids (ext S nx obs) T/\PX P r n ops ids (ext S nx obs) is (z6 F' o.dst p) T (KX nx K))->Gh is F' S' obs' o) ->
   ∀X:Row->(Nat->PV)->Store->List Ob->Prop,(∀F S obs,X .done F S obs=K F S obs)->(∀F S obs,X .stop F S obs=True)->(∀i is F' S' obs',X (.pure i is) F' S' obs'=Jo P ops ids (ext S nx obs) Gp (X is) i is F' S' obs') ->
   (∀i is more F' S' obs',X (.alt i is more) F' S' obs'=(Jp P nx ops ids (ext S nx obs) Gc Gh (X is) i is F' S' obs'/\X more F' S' obs'))->X row F S obs):PW P r n N (.region id ops true) Q F (ext S nx obs):=by
 refine WH ids row hm hN hR hrow ?_;have:=ZdC (P:=P) (r:=r) (n:=n) (nx:=nx) (ops:=ops) (ids:=ids) (S0:=ext S nx obs) (K:=λF' S' obs'=>Q .normal F' (ext S' nx obs')) (row:=row) (F:=F) (S:=S) (obs:=obs) (λGp Gc Gh a b c X d e f g=>h _ Gp Gc Gh (λ_ _ _ h=>h) a b c X d e f g);exact ZdD row F _ this
def fr:List (Nat × PV)->Nat->PV
 | [],_=>.junk
 | (a,p) :: l,i=>if i=a then p else fr l i
theorem ZdE{l:List (Nat × PV)}(h:∀x∈l,F x.1=x.2)(i:Nat):fr l i=F i\/fr l i=.junk:=by induction l<;>grind[fr]
theorem Xn{c:Code}{T T':Store}(hk:∀o,T' o=T o\/T' o=.dead)(h:PW P r n N c Q F T'):PW P r n N c Q F T :=
 Z8 (λC w a st=>by
  obtain⟨k1,k2⟩:=st.sim.kill hk;exact⟨C,⟨k1,st.size,λi=>(st.fr i).mono k2,r.keep k2 st.v⟩,k2⟩) h
theorem ZdF{c:Code}(L:List (Nat × PV)){more:List Ob}(hL:∀x∈L,F x.1=x.2)(h:PW P r n N c Q (fr L) (ext S nx obs)):PW P r n N c Q F (ext S nx (obs++more)) :=
 ZiQ (F':=fr L) (ZdE hL) (Xn (ZaA more) h)
def At{σ:Type}(nx:Nat)(I:σ->Prop)(L:σ->List (Nat × PV))(B:σ->Store)(T:σ->List Ob)(F:Nat->PV)(S:Store):Prop :=
 ∃s more,I s/\(∀x∈L s,F x.1=x.2)/\S=ext (B s) nx (T s++more)
theorem zT{σ:Type}{I:σ->Prop}{L:σ->List (Nat × PV)}{B:σ->Store}{T:σ->List Ob}(s:σ)(more:List Ob)(hI:I s)(hL:∀x∈L s,F x.1=x.2)(hB:B s=S)(hT:T s++more=obs):At nx I L B T F (ext S nx obs) :=
 ⟨s,more,hI,hL,by rw[hB,hT]⟩
def ZaE{σ:Type}(nx:Nat)(I:σ->Prop)(L:σ->List (Nat × PV))(B:σ->Store)(T:σ->List Ob)(μ:σ->Nat)(m:Nat)(F:Nat->PV)(S:Store):Prop :=
 ∃s more,I s/\μ s<m/\(∀x∈L s,F x.1=x.2)/\S=ext (B s) nx (T s++more)
theorem zv{σ:Type}{I:σ->Prop}{L:σ->List (Nat × PV)}{B:σ->Store}{T:σ->List Ob}{μ:σ->Nat}{m:Nat}(s:σ)(more:List Ob)(hI:I s)(hm:μ s<m)(hL:∀x∈L s,F x.1=x.2)(hB:B s=S)(hT:T s++more=obs):
  ZaE nx I L B T μ m F (ext S nx obs):=⟨s,more,hI,hm,hL,by rw[hB,hT]⟩
theorem jo{σ:Type}(I:σ->Prop)(L:σ->List (Nat × PV))(B:σ->Store)(T:σ->List Ob)(μ:σ->Nat){c:Code}{S0:Store}(h0:At nx I L B T F S0)
  (round:∀s,I s->PW P r n N c (Z6 (ZaE nx I L B T μ (μ s)) Q) (fr (L s)) (ext (B s) nx (T s))):PW P r n N (.loop c) Q F S0:=by
 obtain⟨s0,more0,hI0,hL0,rfl⟩:=h0;refine Zam (λF' S' m=>∃s more,I s/\m=μ s/\(∀x∈L s,F' x.1=x.2)/\S'=ext (B s) nx (T s++more)) (μ s0) ⟨s0,more0,hI0,rfl,hL0,rfl⟩ ?_;rintro m F1 S1 ⟨s,more,hI,rfl,hL,rfl⟩;refine ZdF (L s) hL (Xe (round s hI) ?_);intro e F' S' hq;cases e with
 | normal =>
  obtain⟨s',more',h1,h2,h3,h4⟩:=hq;exact⟨μ s',⟨s',more',h1,rfl,h3,h4⟩,h2⟩
 | _=>exact hq
theorem zJ{σ:Type}(I:σ->Prop)(L:σ->List (Nat × PV))(T:σ->List Ob)(μ:σ->Nat)(s0:σ){c:Code}(more:List Ob)(hI:I s0)(hL:∀x∈L s0,F x.1=x.2)(hT:T s0++more=obs)
  (round:∀s,I s->PW P r n N c (Z6 (ZaE nx I L (λ_=>S) T μ (μ s)) Q) (fr (L s)) (ext S nx (T s))):PW P r n N (.loop c) Q F (ext S nx obs) :=
 jo I L (λ_=>S) T μ (zT s0 more hI hL rfl hT) round
theorem ZdG {f : FuncId} {fn : Func} {c : Code} {rs : List ResultVar} {args : List PV} {Q : PV → Store → Prop} (hf : P.funcs[f]? = some fn) (hname : (fn.name == "runtime.NumGoroutine") = false) (hb : fn.body = some c) (hN : fn.ntmps = N) (hrs : fn.results.toList = rs) (hargs : args.length ≤ N)
  (h:∀nx,zX nx S->PW P wU 0 N c (uV P rs Q) (ud args) (ext S nx [])):Spec P f args S Q:=by
 refine⟨qb hf hname hb,?_⟩;intro C w vs hS;have hd:zX C.next S:=λi hi=>by
  cases hs:S i with
  | dead=>rfl
  | cells v e cs=>have:=hS.lt i (by rw[hs];simp);omega
  | map v es=>have:=hS.lt i (by rw[hs];simp);omega
 have:=h C.next hd;rw[qy hd]at this;exact wW hf hb hN hrs hargs this C w vs hS
theorem Zjc {f : FuncId} {fn : Func} {c : Code} {rs : List ResultVar} {args : List PV} {Q : PV → Store → Prop} (hd : zX nx S) (hf : P.funcs[f]? = some fn) (hname : (fn.name == "runtime.NumGoroutine") = false) (hb : fn.body = some c) (hN : fn.ntmps = N) (hrs : fn.results.toList = rs) (hargs : args.length ≤ N)
  (h:PW P wU 0 N c (uV P rs Q) (ud args) (ext S nx [])):Spec P f args S Q:=by
 refine⟨qb hf hname hb,?_⟩
 simp_all[qy,wW]
theorem Zjd {f : FuncId} {fn : Func} {c : Code} {rs : List ResultVar} {args : List PV} {v : PV} (hf : P.funcs[f]? = some fn) (hname : (fn.name == "runtime.NumGoroutine") = false) (hb : fn.body = some c) (hN : fn.ntmps = N) (hrs : fn.results.toList = rs) (hargs : args.length ≤ N)
  (h:∀S nx,zX nx S->PW P wU 0 N c (uV P rs (λp S'=>p=v/\S'=S)) (ud args) (ext S nx [])):Pure P f args v :=
 λS=>ZdG hf hname hb hN hrs hargs (h S)
theorem zm{rs:List ResultVar}{v:PV}{ps:List PV}(hd:zX nx S)(h1:xW P F (ext S nx obs) rs=some ps)(h2:zq ps=v):
  ∃ps S',xW P F (ext S nx obs) rs=some ps/\(zq ps=v/\S'=S)/\∀o,S' o=ext S nx obs o\/S' o=.dead :=
 ⟨ps,S,h1,⟨h2,rfl⟩,zU hd⟩
theorem DL{r:Rd}{n N:Nat}{Q:Exit->(Nat->PV)->Store->Prop}{rs:List ResultVar}{v:PV}{ps:List PV}(hd:zX nx S)(hq:Q .ret F (ext S nx obs)=(∃ps S',xW P F (ext S nx obs) rs=some ps/\(zq ps=v/\S'=S)/\∀o,S' o=ext S nx obs o\/S' o=.dead):=by exact rfl)(h1:xW P F (ext S nx obs) rs=some ps:=by simp;rfl)(h2:zq ps=v:=by exact rfl):PW P r n N .ret Q F (ext S nx obs):=zj (hq▸zm hd h1 h2)
theorem Qy(hd:zX nx S){j:Nat}{x:Ob}(hj:obs[j]?=some x)(o:Nat):S.set (nx+j) x o=ext S nx obs o\/S.set (nx+j) x o=.dead:=by grind[q11,z7,q10,zU]
theorem qL{c:Code}(d e sz:Nat)(hF:F d=.sc (.slice none 0 0))(h:∀v,PW P r n N c Q (xV F d (.sl (nx+obs.length) v sz 0 0)) (ext S nx (obs++[.cells v e []]))):PW P r n N c Q F (ext S nx obs) :=
 ZiY d e sz hF (Zp (X:=λid v=>PW P r n N c Q (xV F d (.sl id v sz 0 0)) ((ext S nx obs).set id (.cells v e []))) _ uC λv=>by rw[qU];exact h v)
theorem jd{c:Code}{ver e0:Nat}{cs:List PV}(j i e sz:Nat)(hj:obs[j]?=some (.cells ver e0 cs))(hi:cs[i]?=some (.sc (.slice none 0 0)))
  (h:∀v,PW P r n N c Q F (ext S nx (obs.set j (.cells ver e0 (cs.set i (.sl (nx+obs.length) v sz 0 0)))++[.cells v e []]))):PW P r n N c Q F (ext S nx obs):=by
 have hjl:j<obs.length:=(Ac.1 hj).1;refine Zaz (o:=nx+j) i e sz DJ hi (Zp (X:=λid v=>PW P r n N c Q F (((ext S nx obs).set id (.cells v e [])).set (nx+j) (.cells ver e0 (cs.set i (.sl id v sz 0 0))))) _ uC λv=>?_);rw[qU,yh _ DB DF,AE,List.set_append_left _ _ hjl];exact h v
theorem Zv{c:Code}{T:Store}(d:Nat)(hF:F d=.sc (.slice none 0 0))(h:PW P r n N c Q (xV F d (.lst 0 [])) T):PW P r n N c Q F T :=
 Z8 (λC w a st=>⟨C,⟨st.sim,st.size,λi=>by
  by_cases hi:i=d
  ·subst hi;rw[Zc5];have:=st.fr i;rw[hF]at this;generalize a.tmps.getD i undef=v at this;cases this;exact .lst0
  ·rw[Zc6 _ _ _ _ hi];exact st.fr i,st.v⟩,.refl _ _ _⟩) h
def qp(id ver:Nat)(cs:List PV)(p:PV):PV :=
 match p with
 | .sl o v sz 0 k=>if o=id/\v=ver/\k*sz=cs.length then .lst k cs else .sl o v sz 0 k
 | p=>p
def xA(id ver:Nat)(cs:List PV)(x:Ob):Ob :=
 match x with
 | .cells v e ds=>.cells v e (ds.map (qp id ver cs))
 | x=>x
theorem ZdH(id ver:Nat)(cs:List PV)(x:Ob):(xA id ver cs x).ver=x.ver:=by cases x<;>rfl
theorem WR{C:Ctx}{S T:Store}{w:World}{id ver e:Nat}{cs:List PV}(hS:Sim C S w)(hid:S id=.cells ver e cs)(hT:T id=.dead)(hTS:∀o,T o≠.dead->S o≠.dead)(st:Step C S w C T w){p:PV}{u:Value}
  (h:Rel C S w p u):Rel C T w (qp id ver cs p) u:=by
 unfold qp;split
 ·rename_i o v sz k;split
  ·rename_i hc;obtain⟨rfl,rfl,hk⟩:=hc;cases h with
   | sl h1 h2 h3 =>
    obtain⟨ad,cap,rfl,q1,q2,q3,q4⟩:=h1;have hnM:∀b k',C.loc o=some (b,k')->¬C.M T b:=by
     rintro b k' hl ⟨i,k2,hi,hl2⟩
     by_cases hoi:i=o
     ·simp_all
     ·exact hoi (hS.dist i o b k2 k' (hTS i hi) (by rw[hid];simp) hl2 hl)
    rcases (h3 v (by rw[hid];rfl)).2 rfl with ⟨z1,z2,_,z4⟩ | ⟨b,k',ad',cap',z1,z2,z3,z4⟩
    ·subst z2;have:cs=[]:=Ap DB;subst this;cases z4;exact .lst0
    ·cases z2;rcases hS.cells o v e cs hid with ⟨hn,_⟩ | ⟨b2,kk,c,g1,g2,g3,g4,g5,g6⟩
     ·simp_all
     ·rw[g1]at z1;cases z1;obtain⟨rfl,_⟩:=z3 rfl;exact .lst1 q1 q2 g2 (hnM _ _ g1) (λ_=>by omega) (λj v hj hv=>g5 j v hj (by simpa using hv)) (λj p v hp hv=>(g6 j p v hp (by simpa using hv)).mono st)
  ·exact h.mono st
 ·exact h.mono st
theorem yb{c:Code}(j:Nat){ver e:Nat}{cs:List PV}(hj:obs[j]?=some (.cells ver e cs))(h:PW P r n N c Q (λi=>qp (nx+j) ver cs (F i)) (ext S nx ((obs.map (xA (nx+j) ver cs)).set j .dead))):PW P r n N c Q F (ext S nx obs):=by
 have hjl:j<obs.length:=(Ac.1 hj).1;refine Z8 (F':=λi=>qp (nx+j) ver cs (F i)) (S':=ext S nx ((obs.map (xA (nx+j) ver cs)).set j .dead)) (λC w a st=>?_) h;have hid:ext S nx obs (nx+j)=.cells ver e cs:=by rw[z7,Aa,hj];rfl
 have hT:ext S nx ((obs.map (xA (nx+j) ver cs)).set j .dead) (nx+j)=.dead:=by rw[z7,Aa,AS (by simpa using hjl)];rfl
 -- what stands under each number
 have hat:∀o,ext S nx ((obs.map (xA (nx+j) ver cs)).set j .dead) o=.dead\/(o<nx/\ext S nx ((obs.map (xA (nx+j) ver cs)).set j .dead) o=ext S nx obs o)\/(nx<=o/\ext S nx ((obs.map (xA (nx+j) ver cs)).set j .dead) o=xA (nx+j) ver cs (ext S nx obs o)):=by
  intro o
  by_cases ho:o<nx
  ·simp_all[zE]
  ·by_cases hoj:o=nx+j
   ·simp_all
   ·refine .inr (.inr ⟨by omega,?_⟩);simp only[ext];rw[if_neg ho,if_neg ho,Aa,Aa,AU DB,Ah];cases obs[o-nx]?<;>rfl
 generalize hTT:ext S nx ((obs.map (xA (nx+j) ver cs)).set j .dead)=T at *;generalize hSS:ext S nx obs=S1 at *;have hver:∀o v,(T o).ver=some v->(S1 o).ver=some v:=by
  intro o v hv;rcases hat o with q | ⟨_,q⟩ | ⟨_,q⟩
  ·rw[q]at hv;cases hv
  ·simp_all
  ·simp_all[ZdH]
 have hne:∀o,T o≠.dead->S1 o≠.dead:=by
  intro o ho hd;rcases hat o with q | ⟨_,q⟩ | ⟨_,q⟩
  ·exact ho q
  ·simp_all
  ·rw[hd]at q;exact ho q
 have hM:∀b,C.M T b->C.M S1 b:=λb ⟨o,k,ho,hl⟩=>⟨o,k,hne o ho,hl⟩
 have hstep:Step C S1 w C T w:=⟨rfl,⟨rfl,Af _⟩,rfl,Af _,Af _,Af _,λb _ hb=>⟨rfl,λh=>hb (hM b h)⟩,λo v1 hv=>.inr ⟨v1,hver o v1 hv,Af _,λ_=>rfl⟩⟩;have hrel:∀{p u},Rel C S1 w p u->Rel C T w (qp (nx+j) ver cs p) u:=λh=>WR st.sim hid hT hne hstep h
 refine⟨C,⟨⟨λo ho=>st.sim.lt o (hne o ho),λo v hv=>st.sim.clk o v (hver o v hv),λo o' b k k' ho ho'=>st.sim.dist o o' b k k' (hne o ho) (hne o' ho'),?_,?_⟩,st.size,λi=>hrel (st.fr i),r.keep hstep st.v⟩,hstep⟩
 ·intro o v e' ds ho;rcases hat o with q | ⟨_,q⟩ | ⟨_,q⟩
  ·simp_all
  ·rw[q]at ho;rcases st.sim.cells o v e' ds ho with hn | ⟨b,k,c,h1,h2,h3,h4,h5,h6⟩
   ·exact .inl hn
   ·exact .inr ⟨b,k,c,h1,h2,h3,h4,h5,λi p u hp hu=>(h6 i p u hp hu).mono hstep⟩
  ·rw[q]at ho;cases hs:S1 o with
   | dead=>simp_all
   | map v es=>rw[hs]at ho;cases ho
   | cells v2 e2 ds2 =>
    rw[hs]at ho;cases ho;rcases st.sim.cells o _ _ ds2 hs with ⟨h1,h2⟩ | ⟨b,k,c,h1,h2,h3,h4,h5,h6⟩<;>grind
 ·intro o v es ho;have hs:S1 o=.map v es:=by
   rcases hat o with q | ⟨_,q⟩ | ⟨_,q⟩
   ·simp_all
   ·simp_all
   ·rw[q]at ho;cases hs:S1 o with
    | dead=>simp_all
    | map v es=>rw[hs]at ho;exact ho
    | cells v2 e2 ds2=>rw[hs]at ho;cases ho
  obtain⟨b,k,ms,cl,h1,h2,h3,h4⟩:=st.sim.maps o v es hs;exact⟨b,k,ms,cl,h1,h2,h3,λi x m hx hm=>⟨(h4 i x m hx hm).1,(h4 i x m hx hm).2.mono hstep⟩⟩
end
open Go
attribute [simp] Wz Zo WP WQ Jm Jo Jp Z9 YK YL Yb Xm fr qp xA
abbrev I(x:Int):PV:=.sc (.int .i64 x)
abbrev B(b:Bool):PV:=.sc (.bool b)
def PV.nosl:PV->Bool
 | .sl _ _ _ _ _=>false
 | _=>true
class Enc (α:Type) where
 enc:α->List PV
 sz:Nat
 len:∀x,(enc x).length=sz
 nosl:∀x,(enc x).all PV.nosl=true
theorem Zje(id v:Nat)(cs:List PV)(p:PV)(h:p.nosl=true):qp id v cs p=p:=by
 cases p<;>first | rfl | cases h
@[simp] theorem Ztx{α:Type}[Enc α](id v:Nat)(cs:List PV)(l:List α):(l.flatMap Enc.enc).map (qp id v cs)=l.flatMap Enc.enc:=by
 rw[Bd (g:=λp=>p),List.map_id'];intro p hp;obtain⟨x,_,hx⟩:=BY.1 hp;exact Zje _ _ _ _ (Az.1 (Enc.nosl x) p hx)
abbrev L{α:Type}[Enc α](l:List α):PV:=.lst l.length (l.flatMap Enc.enc)
theorem qO{α:Type}[Enc α](l:List α):(l.flatMap Enc.enc).length=l.length*Enc.sz α:=Jj Enc.enc _ Enc.len l
theorem Yd{α:Type}[Enc α](l:List α):(l.flatMap Enc.enc).take (l.length*Enc.sz α)=l.flatMap Enc.enc:=by simp[Qx,Enc.len]
theorem ZaF{α:Type}[Enc α]{l:List α}{k:Nat}(h:k<l.length):(l.flatMap Enc.enc).drop (k*Enc.sz α)=Enc.enc l[k]++(l.drop (k+1)).flatMap Enc.enc:=Zdw Enc.enc _ Enc.len l k h
instance:Enc Int:=⟨λx=>[I x],1,λ_=>rfl,λ_=>rfl⟩
@[simp] theorem Zty(x:Int):Enc.enc x=[I x]:=rfl
@[simp high] theorem je(l:List Int):(l.flatMap Enc.enc).length=l.length:=(qO l).trans (B4 _)
@[simp high] theorem Zjf(l:List Int):(l.flatMap Enc.enc).take l.length=l.flatMap Enc.enc:=Ae (Co (je l))
theorem el{α:Type}[Enc α](n:Nat)(hn:Enc.sz α=n)(l:List α)(k:Nat)(h:k<l.length):
  ∃s tl,l[k]?=some s/\l.drop k=s :: l.drop (k+1)/\l.take (k+1)=l.take k++[s]/\(∀j,j<=n->(l.flatMap Enc.enc).drop (k*n+j)=(Enc.enc s).drop j++tl)/\(l.flatMap Enc.enc).drop (k*n)=Enc.enc s++tl:=by
 subst hn;have h0:=ZaF h;refine⟨l[k],(l.drop (k+1)).flatMap Enc.enc,Ad h,AJ h,by simp,λj hj=>?_,h0⟩;rw[<-List.drop_drop,h0,BZ (by simp_all[Enc.len])]
theorem zL{α:Type}[Enc α](hn:Enc.sz α=1)(l:List α)(k:Nat)(h:k<l.length):
  ∃s tl,l[k]?=some s/\l.drop k=s :: l.drop (k+1)/\l.take (k+1)=l.take k++[s]/\(l.flatMap Enc.enc).drop k=Enc.enc s++tl:=by
 obtain⟨s,tl,a1,a2,a3,_,e0⟩:=el 1 hn l k h
 simp_all
theorem zo{P:Program}{r:Rd}{n N:Nat}{Q:Exit->(Nat->PV)->Store->Prop}{F:Nat->PV}{S:Store}{c:Operand}{x y:Code}(hc:ev F c=.sc (.bool true))(h:PW P r n N x Q F S):PW P r n N (.cond c x y) Q F S :=
 zz hc (λ_=>h) (λe=>nomatch e)
theorem zp{P:Program}{r:Rd}{n N:Nat}{Q:Exit->(Nat->PV)->Store->Prop}{F:Nat->PV}{S:Store}{c:Operand}{x y:Code}(hc:ev F c=.sc (.bool false))(h:PW P r n N y Q F S):PW P r n N (.cond c x y) Q F S :=
 zz hc (λe=>nomatch e) (λ_=>h)
theorem wr(x:Int)(h1:-9223372036854775808<=x)(h2:x<=9223372036854775807):IntKind.i64.wrap x=x:=Zr x h1 h2
theorem zA(k:Nat)(h:k<9223372036854775807):IntKind.i64.wrap ((k:Int)+1)=((k+1:Nat):Int):=by grind[Zr]
abbrev W(x:Int):Int:=IntKind.i64.wrap x
@[simp] theorem Ztz:W 0=0:=rfl
theorem Zw(a b:Int):W (W a+b)=W (a+b):=by grind[IntKind.wrap_i64]
theorem ZdI(a b:Int):W (a+W b)=W (a+b):=by grind[IntKind.wrap_i64]
theorem W_W(a:Int):W (W a)=W a:=by simp[Ay]
theorem WS{P:Program}{f:FuncId}{args:List PV}{sz k e:Nat}{cs:List PV}(j:Nat)
  (h:∀S nx,zX nx S->Spec P f args S (λp S'=>∃v,p=.sl (nx+j) v sz 0 k/\S'=S.set (nx+j) (.cells v e cs))) (hk:k*sz=cs.length):Pure P f args (.lst k cs):=by
 intro S;refine⟨(h (λ_=>.dead) 0 (λ_ _=>rfl)).1,?_⟩;intro C w vs hS hl hr;have hd:zX C.next S:=λi hi=>by
  cases hs:S i with
  | dead=>rfl
  | cells v e cs=>have:=hS.lt i (by rw[hs];simp);omega
  | map v es=>have:=hS.lt i (by rw[hs];simp);omega
 refine((h S C.next hd).2 C w vs hS hl hr).mono ?_;rintro e' w' ⟨p,u,S',C',rfl,⟨v,rfl,rfl⟩,hrel,hsim,hstep⟩;have hdj:=hd (C.next+j) DB;have hkk:∀o,S o=S.set (C.next+j) (.cells v e cs) o\/S o=.dead:=by
  intro o
  by_cases ho:o=C.next+j
  ·subst ho;exact .inr hdj
  ·exact .inl (q10 _ _ _ _ ho).symm
 obtain⟨k1,k2⟩:=hsim.kill hkk;refine⟨.lst k cs,u,S,C',rfl,⟨rfl,rfl⟩,?_,k1,hstep.trans k2⟩;have:=WR hsim (q11 _ _ _) hdj (λo ho=>by
  rcases hkk o with q | q
  ·rw[<-q];exact ho
  ·exact absurd q ho) k2 hrel
 simp_all
theorem Jq{S:Store}{nx:Nat}{obs:List Ob}(x:Ob):(ext S nx obs).set (nx+obs.length+1) x=ext S nx (obs++[.dead,x]):=by
 have e:ext S nx obs=ext S nx (obs++[.dead]):=by
  funext i;simp only[ext];split
  ·rfl
  ·rw[Aa,Aa]
   by_cases h3:i-nx<obs.length
   ·rw[An h3]
   ·rw[Ak DB]
    by_cases h4:i-nx=obs.length
    ·rw[Ai DB,h4];simp
    ·rw[Ak DF]
 rw[e];have:=qU (S:=S) (nx:=nx) (obs:=obs++[.dead]) x
 grind
theorem yf{P:Program}{r:Rd}{n nx N:Nat}{Q:Exit->(Nat->PV)->Store->Prop}{F:Nat->PV}{S:Store}{obs:List Ob}{c:Code}{ver e0:Nat}{cs:List PV}(j i:Nat)(hj:obs[j]?=some (.cells ver e0 cs))(hi:cs[i]?=some (.sc (.slice none 0 0)))
  (h:PW P r n N c Q F (ext S nx (obs.set j (.cells ver e0 (cs.set i (.lst 0 [])))))):PW P r n N c Q F (ext S nx obs):=by
 have hjl:j<obs.length:=(Ac.1 hj).1;refine Z8 (F':=F) (S':=ext S nx (obs.set j (.cells ver e0 (cs.set i (.lst 0 []))))) (λC w a st=>?_) h;have hs:ext S nx obs (nx+j)=.cells ver e0 cs:=by rw[z7,Aa,hj];rfl
 have:=st.sim.relabel (cs':=cs.set i (.lst 0 [])) hs DC (by
  intro k p' hp';rw[Bz]at hp';split at hp'
  ·rename_i hij;subst hij;split at hp'
   ·cases hp';refine .inr ⟨_,hi,λv hv=>?_⟩;cases hv;exact .lst0
   ·cases hp'
  ·exact .inl hp')
 rw[yh _ DB DB,AE]at this;exact⟨C,⟨this.1,st.size,λk=>(st.fr k).mono this.2,r.keep this.2 st.v⟩,this.2⟩
theorem qE{P:Program}{r:Rd}{n nx N:Nat}{Q Q2:Exit->(Nat->PV)->Store->Prop}{F:Nat->PV}{σ:Type}(I:σ->Prop)(L:σ->List (Nat × PV))(B:σ->Store)(T:σ->List Ob){x y:Code}{S0:Store}
  (h1:PW P r n N x (Z6 (At nx I L B T) Q) F S0) (h2:∀s,I s->PW P r n N y Q2 (fr (L s)) (ext (B s) nx (T s))):PW P r n N x (Z6 (PW P r n N y Q2) Q) F S0:=by
 refine Xe h1 ?_;intro e F' S' hq;cases e with
 | normal =>
  obtain⟨s,more,hI,hL,rfl⟩:=hq;exact ZdF (L s) hL (h2 s hI)
 | _=>exact hq
theorem Zjh{P:Program}{r:Rd}{n nx N:Nat}{Q:Exit->(Nat->PV)->Store->Prop}{F:Nat->PV}{S:Store}{obs:List Ob}{c:Code}(obs' more:List Ob)(he:obs=obs'++more)(h:PW P r n N c Q F (ext S nx obs')):PW P r n N c Q F (ext S nx obs):=by subst he;exact Xn (ZaA more) h
def Wk(p q:PV):Prop:=∀(C:Ctx) (S:Store) (w:World) (v:Value),Rel C S w p v->Rel C S w q v
theorem Wk.rfl{p:PV}:Wk p p:=λ_ _ _ _ h=>h
theorem Wk.nil:Wk (.sc (.slice none 0 0)) (.lst 0 []):=λ_ _ _ _ h=>by cases h;exact .lst0
inductive WkL:List PV->List PV->Prop where
 | nil:WkL [] []
 | cons {p q:PV} {l m:List PV} (h:Wk p q) (t:WkL l m):WkL (p :: l) (q :: m)
theorem WkL.len{l m:List PV}(h:WkL l m):l.length=m.length:=by induction h<;>simp_all
theorem WkL.at{l m:List PV}(h:WkL l m):∀(i:Nat) (q:PV),m[i]?=some q->∃p,l[i]?=some p/\Wk p q:=by induction h<;>grind
theorem Zji{P:Program}{f:FuncId}{args args':List PV}{S:Store}{Q:PV->Store->Prop}(hw:WkL args args')(h:Spec P f args' S Q):Spec P f args S Q:=by
 refine⟨h.1,λC w vs hS hl hr=>h.2 C w vs hS (hw.len ▸ hl) λi q v hq hv=>?_⟩;obtain⟨p,hp,hk⟩:=hw.at i q hq;exact hk _ _ _ _ (hr i p v hp hv)
open Go
theorem ZdJ{w:World}{D:Nat}{x y:Obj}(hD:w.heap[D]?=some x)(b:Nat)(o:Obj)(hb:w.heap[b]?=some o)(ho:o≠x):(w.putObj D y).heap[b]?=some o:=by grind[World.putObj_heap_other]
def Obj.odd(x:Obj):Prop:=(∀c e f,x≠.cells c e f)/\(∀m k,x≠.map m k)
theorem WT(r:Loop):Obj.odd (.loop r):=⟨λ_ _ _ e=>(by cases e),λ_ _ e=>(by cases e)⟩
theorem ZaG{C:Ctx}{S:Store}{w:World}{D:Nat}{x y:Obj}(hD:w.heap[D]?=some x)(hx:Obj.odd x){p:PV}{v:Value}(hr:Rel C S w p v):Rel C S (w.putObj D y) p v:=by
 have hne:=ZdJ (y:=y) hD
 induction hr with
 | junk v=>exact .junk v
 | sc v=>exact .sc v
 | agg hl h1 _ ih=>exact .agg hl h1 ih
 | tup hl _ ih=>exact .tup hl ih
 | lst0=>exact .lst0
 | lst1 hn hm hb hM' hs h1 _ ih=>exact .lst1 hn hm (hne _ _ hb (λe=>hx.1 _ _ _ e.symm)) hM' hs h1 ih
 | ip hb hM' hs h1 _ ih=>exact .ip (hne _ _ hb (λe=>hx.1 _ _ _ e.symm)) hM' hs h1 ih
 | nl0=>exact .nl0
 | nl hn hb hM' hl h1 _ ih=>exact .nl hn (hne _ _ hb (λe=>hx.1 _ _ _ e.symm)) hM' hl h1 ih
 | ptr h1 ho h=>exact .ptr h1 ho h
 | sl h1 ho h=>exact .sl h1 ho h
 | fn hf hc _ _ ih ih'=>exact .fn hf hc ih ih'
 | ifc _ ih=>exact .ifc ih
 | mp h1 ho h=>exact .mp h1 ho h
theorem Sim.put{C:Ctx}{S:Store}{w:World}(h:Sim C S w){D:Nat}{x y:Obj}(hD:w.heap[D]?=some x)(hx:Obj.odd x):Sim C S (w.putObj D y):=by
 have hne:=ZdJ (y:=y) hD;refine⟨h.lt,h.clk,h.dist,?_,?_⟩
 ·intro o ver e cs hs;rcases h.cells o ver e cs hs with hn | ⟨b,k,c,h1,h2,h3,h4,h5,h6⟩
  ·exact .inl hn
  ·exact .inr ⟨b,k,c,h1,hne _ _ h2 (λe=>hx.1 _ _ _ e.symm),h3,h4,h5,λi p v hp hv=>ZaG hD hx (h6 i p v hp hv)⟩
 ·intro o ver es hs;obtain⟨b,k,ms,cl,h1,h2,h3,h4⟩:=h.maps o ver es hs;exact⟨b,k,ms,cl,h1,hne _ _ h2 (λe=>hx.2 _ _ e.symm),h3,λi e m he hm=>⟨(h4 i e m he hm).1,ZaG hD hx (h4 i e m he hm).2⟩⟩
theorem Step.around{C1 C2 C3:Ctx}{S1 S2 S3:Store}{w1 w2 w3:World}{l:Nat}{o0 o1:Obj}(s1:Step C1 S1 w1 C2 S2 w2)(s2:Step C2 S2 (w2.putObj l o1) C3 S3 w3)(hl:w1.heap[l]?=some o0)(hM:¬C1.M S1 l):
  Step C1 S1 w1 C3 S3 (w3.putObj l o0):=by
 have hlt:=qn hl;have z1:=s1.size;have z2:=s2.size;simp only[World.putObj_size]at z2;refine⟨s2.os.trans s1.os,⟨s2.tape.1.trans s1.tape.1,AB s1.tape.2 s2.tape.2⟩,s2.output.trans s1.output,by simp;omega,AB s1.next s2.next,AB s1.clock s2.clock,λb hb hbM=>?_,?_⟩
 ·obtain⟨k1,k2⟩:=s1.blocks b hb hbM;obtain⟨j1,j2⟩:=s2.blocks b DF k2
  grind[World.putObj_heap_same,World.putObj_heap_other]
 ·intro o v1 hv;rcases s2.vers o v1 hv with q | ⟨v0,a,b,c⟩
  ·have h1:=s1.next;have h2:=s1.clock;omega
  ·rcases s1.vers o v0 a with q | ⟨u,a',b',c'⟩<;>grind
theorem Step.beyond{C C':Ctx}{S S':Store}{w w':World}{l:Nat}(o:Obj)(h:Step C S w C' S' w')(hl:w.heap.size<=l):Step C S w C' S' (w'.putObj l o) :=
 ⟨h.os,h.tape,h.output,by simpa using h.size,h.next,h.clock,λb hb hM=>by
  obtain⟨k1,k2⟩:=h.blocks b hb hM
  grind[World.putObj_heap_other],h.vers⟩
def PYield(P:Program)(V:Ctx->Store->World->Prop)(l:Nat)(args:List PV)(S:Store)(Q:Store->Prop):Prop :=
 ∀(C:Ctx) (w:World) (vs:Array Value),Sim C S w->V C S w->args.length=vs.size->(∀(i:Nat) (c:PV) (v:Value),args[i]?=some c->vs[i]?=some v->Rel C S w c v) ->
  YieldAt (Fe wU) 0 P l vs w λe w'=>∃S' C',e=.returned (.bool true)/\Q S'/\Sim C' S' w'/\Step C S w C' S' w'
abbrev jH(l:Nat):PV:=.sc (.func (.yield l) #[] #[])
def YM(P:Program)(k:FuncId)(caps:List PV)(xs:List (List PV)):Prop :=
 qg P k/\∀(l:Nat) (V:Ctx->Store->World->Prop) (_:∀{C C':Ctx} {S S':Store} {w w':World},Step C S w C' S' w'->V C S w->V C' S' w') (m:Nat) (J:Nat->Store->Prop),(∀i A,J i A->zX m A) ->
  (∀i A obs x,xs[i]?=some x->J i A->PYield P V l x (ext A m obs) (λT=>∃A',J (i+1) A'/\T=ext A' m obs)) ->
  ∀A,J 0 A->PCallsV P V k (jH l :: caps) A (λ_ T=>J xs.length T)
section
variable {P:Program} {n nx N:Nat} {Q:Exit->(Nat->PV)->Store->Prop} {F:Nat->PV} {S:Store} {obs:List Ob}
theorem Jr{V:Ctx->Store->World->Prop}{keep:∀{C C':Ctx} {S S':Store} {w w':World},Step C S w C' S' w'->V C S w->V C' S' w'}{o:Oper}{c:Call}{x:Operand}{l:Nat}{K:PV->Store->Prop}{R:Store->Prop}
  (ho:o.op=.call c) (hc:c.callee=.value x) (hx:ev F x=jH l) (h:PYield P V l (c.args.toList.map (ev F)) S R) (hK:∀S',R S'->K (.sc (.bool true)) S'):PO P ⟨none,V,keep⟩ 0 o F S K:=by
 intro G hG C w a N st next Q' hnext;have hxo:x∈o.op.operands:=by simp[ho,Op.operands,Call.operands,hc]
 have hxG:ev G x=jH l:=(hG x hxo).trans hx;have hmap:c.args.toList.map (ev F)=c.args.toList.map (ev G):=Bd λy hy=>(hG y (by grind[Op.operands,Call.operands])).symm
 rw[hmap]at h;have hrel:=st.ev x;rw[hxG]at hrel;generalize hv:a.eval x=v at hrel;cases hrel;have hlist:=Xb (l:=c.args.toList) st.ev;simp only[Array.toArray_toList]at hlist;obtain⟨fn,tmps,assign,body,hy,hR⟩:=h C w (c.args.map a.eval) st.sim st.v hlist.1 hlist.2;have hrun:(execOp a.eval o).run P w=.ok (.round l fn tmps assign body) w:=by
  unfold execOp;simp only[ho,resolve,hc,hv,Deferred.ofValue,Sem.run_bind,Sem.run_pure,Aj,invoke];have:(#[]:Array Value)++c.args.map a.eval=c.args.map a.eval:=DC
  rw[this];exact hy
 refine qf (x:=.round l fn tmps assign body) (w':=w) DI hrun ?_;rw[Oper.uponIn_round];refine⟨λhd=>(by cases hd),hR.mono ?_⟩;rintro e w' ⟨S',C',rfl,hq,hs,hst⟩;exact hnext _ w' C' S' _ (hK _ hq) (.sc _) hs hst
theorem Xo {f : FuncId} {fn : Func} {c : Code} {rs : List ResultVar} {caps : List PV} {xs : List (List PV)} (hf : P.funcs[f]? = some fn) (hname : (fn.name == "runtime.NumGoroutine") = false) (hb : fn.body = some c) (hN : fn.ntmps = N) (hrs : fn.results.toList = rs) (hargs : caps.length + 1 ≤ N)
  (h:∀(l:Nat) (V:Ctx->Store->World->Prop) (keep:∀{C C':Ctx} {S S':Store} {w w':World},Step C S w C' S' w'->V C S w->V C' S' w') (nx:Nat) (J:Nat->Store->Prop),(∀i A,J i A->zX nx A) ->
   (∀i A obs x,xs[i]?=some x->J i A->PYield P V l x (ext A nx obs) (λT=>∃A',J (i+1) A'/\T=ext A' nx obs)) ->
   ∀A,J 0 A->PW P ⟨none,V,keep⟩ 0 N c (uV P rs (λ_ T=>J xs.length T)) (ud (jH l :: caps)) (ext A nx [])):YM P f caps xs:=by
 refine⟨qb hf hname hb,λl V keep m J hJ hY A hA=>?_⟩;have:=h l V keep m J hJ hY A hA;rw[qy (hJ 0 A hA)]at this;exact Zaq hf hb hN hrs DB this
theorem uD{rs:List ResultVar}{ps:List PV}{J:Store->Prop}{A:Store}(hd:zX nx A)(h1:xW P F (ext A nx obs) rs=some ps)(hJ:J A):
  ∃ps S',xW P F (ext A nx obs) rs=some ps/\J S'/\∀o,S' o=ext A nx obs o\/S' o=.dead:=⟨ps,A,h1,hJ,zU hd⟩
def Xp(F:Nat->PV):List Nat->List PV->Nat->PV
 | p :: ps,x :: xs=>Xp (xV F p x) ps xs
 | _,_=>F
theorem ZdK{C:Ctx}{w:World}:∀(ps:List Nat) (vs:List Value) (xs:List PV) (F:Nat->PV) (t:Array Value),t.size=N->(∀p∈ps,p<N)->xs.length=vs.length->(∀i,Rel C S w (F i) (t.getD i undef)) ->
  (∀(i:Nat) (c:PV) (v:Value),xs[i]?=some c->vs[i]?=some v->Rel C S w c v) ->
  ((ps.zip vs).foldl (λt (p,v)=>t.setIfInBounds p v) t).size=N/\∀i,Rel C S w (Xp F ps xs i) (((ps.zip vs).foldl (λt (p,v)=>t.setIfInBounds p v) t).getD i undef)
 | [],_,_,F,t,hz,_,_,hF,_=>⟨hz,hF⟩
 | p :: ps,[],[],F,t,hz,_,_,hF,_=>⟨hz,hF⟩
 | p :: ps,v :: vs,x :: xs,F,t,hz,hp,hl,hF,hx=>by
  refine ZdK ps vs xs (xV F p x) (t.setIfInBounds p v) (by simp[hz]) (λq hq=>hp q (by simp[hq])) (by simpa using hl) (λi=>?_) λi c v hc hv=>hx (i+1) c v (by simpa using hc) (by simpa using hv)
  have hpl:p<t.size:=by rw[hz];exact hp p DC
  simp only[xV,AV];rw[CU]
  by_cases h:i=p
  ·subst h;simp[hpl];exact hx 0 x v rfl rfl
  grind[Array.getD_eq_getD_getElem?]
def ird(l:Nat):Rd:=⟨some l,λ_ _ _=>True,λ_ _=>trivial⟩
def ZdL{σ:Type}(nx:Nat)(I:Nat->σ->Prop)(B:σ->Store)(T:σ->List Ob)(i:Nat)(more:List Ob):Exit->(Nat->PV)->Store->Prop
 | .normal,_,S=>∃s extra,I i s/\S=ext (B s) nx (T s++more++extra)
 | _,_,_=>False
theorem wB{σ:Type}{I:Nat->σ->Prop}{B:σ->Store}{T:σ->List Ob}{i:Nat}{more:List Ob}(s:σ)(extra:List Ob)(hI:I i s)(hB:B s=S)(hT:T s++more++extra=obs):ZdL nx I B T i more .normal F (ext S nx obs):=⟨s,extra,hI,by rw[hB,hT]⟩
theorem WU{k:Nat}(obs more:List Ob)(hk:k=nx+obs.length):ext (ext S nx obs) k more=ext S nx (obs++more):=by
 subst hk;funext i;simp only[ext]
 grind
theorem Js{V:Ctx->Store->World->Prop}{keep:∀{C C':Ctx} {S S':Store} {w w':World},Step C S w C' S' w'->V C S w->V C' S' w'}{g:Operand}{ps:Array Tmp}{assign body:Code}{k:FuncId}{caps:List PV}{xs:List (List PV)}{σ:Type}
  (I:Nat->σ->Prop) (L:List (Nat × PV)) (B:σ->Store) (T:σ->List Ob) (s0:σ)
  (hit:YM P k caps xs) (hg:ev F g=.fn (.func k) [] caps) (hps:∀x∈xs,x.length=ps.size) (hpN:∀p∈ps.toList,p<N) (hL:∀x∈L,F x.1=x.2) (h0:I 0 s0) (hB:B s0=S) (hT:T s0=obs) (hl:∀i s,I i s->(T s).length=obs.length)
  (round:∀l i s more x,I i s->xs[i]?=some x->PW P (ird l) 0 N assign (Z6 (PW P (ird l) 0 N body (ZdL nx I B T (i+1) more)) (λ_ _ _=>False)) (Xp (fr L) ps.toList x) (ext (B s) nx (T s++more)))
  (done:∀s,I xs.length s->Q .normal F (ext (B s) nx (T s))):PW P ⟨none,V,keep⟩ 0 N (.rangeFunc g ps assign body) Q F (ext S nx obs):=by
 intro C w a st;refine wpIn_rangeFunc ?_;intro fn hfn;obtain⟨rec,hrec⟩:∃rec:LoopState->Option Code->Loop,rec=λst pe=>{ state:=st,pending:=pe,fn,tmps:=a.tmps,params:=ps,assign,body,defers:=w.heap.size }:=⟨_,rfl⟩
 obtain⟨k1,j1,m1⟩:=st.sim.alloc (.deferred (some []));obtain⟨k2,j2,m2⟩:=k1.alloc (.loop (rec .ready none));rw[World.size_alloc]at m2;obtain⟨W1,hW1⟩:∃W1,(w.alloc (.deferred (some []))).alloc (.loop (rec .ready none))=W1:=⟨_,rfl⟩;rw[hW1]at k2 j2;have hL1:W1.heap[w.heap.size+1]?=some (.loop (rec .ready none)):=by
  rw[<-hW1];have:=Z3 (w.alloc (.deferred (some []))) (.loop (rec .ready none));rwa[World.size_alloc]at this
 have hK1:W1.heap[w.heap.size]?=some (.deferred (some [])):=by
  rw[<-hW1,uA _ _ _ DC];exact Z3 w _
 have step1:Step C (ext S nx obs) w C (ext S nx obs) W1:=j1.trans j2
 -- what is known all the while
 obtain⟨V0,hV0⟩:∃V0:Ctx->Store->World->Prop,∀C' S' w',V0 C' S' w'<->w'.heap[w.heap.size+1]?=some (.loop (rec .ready none))/\w'.heap[w.heap.size]?=some (.deferred (some []))/\¬C'.M S' (w.heap.size+1)/\¬C'.M S' w.heap.size/\Step C (ext S nx obs) w C' S' w':=⟨_,λ_ _ _=>Iff.rfl⟩;have keep0:∀{C1 C2:Ctx} {S1 S2:Store} {w1 w2:World},Step C1 S1 w1 C2 S2 w2->V0 C1 S1 w1->V0 C2 S2 w2:=by
  intro C1 C2 S1 S2 w1 w2 hst hv;obtain⟨a1,a2,a3,a4,a5⟩:=(hV0 _ _ _).1 hv;obtain⟨b1,b2⟩:=hst.blocks _ (qn a1) a3;obtain⟨c1,c2⟩:=hst.blocks _ (qn a2) a4;exact(hV0 _ _ _).2 ⟨b1.trans a1,c1.trans a2,b2,c2,a5.trans hst⟩
 have hV1:V0 C (ext S nx obs) W1:=(hV0 _ _ _).2 ⟨hL1,hK1,m2,m1,step1⟩;have hge:=st.ev g;rw[hg]at hge;generalize hgv:a.eval g=gv at hge;cases hge with
 | fn hfl hcl hrf hrc =>
 rename_i fv lb;obtain rfl:fv=#[]:=Array.eq_empty_of_size_eq_zero hfl.symm;have hJd:∀i A,(∃s,I i s/\A=ext (B s) nx (T s))->zX (nx+obs.length) A:=by
  rintro i A ⟨s,hs,rfl⟩;rw[<-hl i s hs];exact jU
 have hYY:∀i A more x,xs[i]?=some x->(∃s,I i s/\A=ext (B s) nx (T s))->PYield P V0 (w.heap.size+1) x (ext A (nx+obs.length) more) (λT'=>∃A',(∃s,I (i+1) s/\A'=ext (B s) nx (T s))/\T'=ext A' (nx+obs.length) more):=by
  rintro i A more x hx ⟨s,hs,rfl⟩;rw[WU _ _ (by rw[hl i s hs])];intro C1 w1 vs hS1 hv1 hlen hrel;obtain⟨a1,a2,a3,a4,a5⟩:=(hV0 _ _ _).1 hv1;have hxp:=hps x (Ab hx);have hy:=run_yield (P:=P) (args:=vs) a1 (by rw[hrec];simp only;omega);rw[hrec]at hy;simp only at hy;have hsz:=ZdK (N:=N) (S:=ext (B s) nx (T s++more)) (C:=C1) (w:=w1) ps.toList vs.toList x (fr L) a.tmps st.size hpN DB (λi=>by
   rcases ZdE hL i with e | e
   ·rw[e];exact(st.fr i).mono a5
   ·rw[e];exact .junk _) (by simpa using hrel)
  have hfold:(ps.zip vs).foldl (λtmps (t,a)=>tmps.setIfInBounds t a) a.tmps=(ps.toList.zip vs.toList).foldl (λt (p,v)=>t.setIfInBounds p v) a.tmps:=by
   rw[<-Array.foldl_toList,Array.toList_zip]
  rw[hfold]at hy;refine⟨fn,_,assign,body,hy,roundIn_of_wpIn trivial ?_⟩;have hst1:St (ird (w.heap.size+1)) C1 (ext (B s) nx (T s++more)) w1 N (Xp (fr L) ps.toList x) { tmps:=(ps.toList.zip vs.toList).foldl (λt (p,v)=>t.setIfInBounds p v) a.tmps,defers:=[] }:=⟨hS1,hsz.1,hsz.2,trivial⟩;refine wpIn_mono (round (w.heap.size+1) i s more x hs hx C1 w1 _ hst1) ?_;rintro e a3' w2 ⟨F2,S2,C2,hq,st2,hd2,step2⟩;cases e with
  | normal =>
   have e2:=step2.blocks _ (qn a1) a3;have hl2:=e2.1.trans a1;refine⟨_,run_beginRound hl2 (by rw[hrec]),?_⟩;have sim2:=st2.sim.put (y:=.loop { rec .ready none with state:=.busy }) hl2 (WT _);refine wpIn_mono (hq C2 _ _ ⟨sim2,st2.size,λj=>ZaG hl2 (WT _) (st2.fr j),trivial⟩) ?_;rintro e a4' w3 ⟨F3,S3,C3,hq3,st3,hd3,step3⟩;cases e with
   | normal =>
    obtain⟨s',extra,hs',rfl⟩:=hq3;have hl2b:(w2.putObj (w.heap.size+1) (.loop { rec .ready none with state:=.busy })).heap[w.heap.size+1]?=some (.loop { rec .ready none with state:=.busy }):=BP (qn hl2);have e3:=step3.blocks (w.heap.size+1) (qn hl2b) e2.2;have hl3:=e3.1.trans hl2b;have hend:=run_endRound (P:=P) none hl3;have hkill:=ZaA (S:=B s') (nx:=nx) (obs:=T s'++more) extra;obtain⟨q1,q2⟩:=st3.sim.kill hkill;have hrr:({ { rec .ready none with state:=LoopState.busy } with state:=if (none:Option Code).isNone then .ready else .done,pending:=none }:Loop)=rec .ready none:=by rw[hrec];rfl
    rw[hrr]at hend;refine⟨_,_,hend,_,C3,rfl,⟨_,⟨s',hs',rfl⟩,by rw[WU _ _ (by rw[hl _ s' hs'])]⟩,?_,?_⟩
    ·exact q1.put hl3 (WT _)
    ·have st4:=step2.around (step3.trans q2) a1 a3;omega
   | _=>exact hq3.elim
  | _=>exact hq.elim
 have hC2:=hit.2 (w.heap.size+1) V0 keep0 (nx+obs.length) (λi A=>∃s,I i s/\A=ext (B s) nx (T s)) hJd hYY (ext S nx obs) ⟨s0,h0,by rw[hB,hT]⟩ C W1 (#[.func (.yield (w.heap.size+1)) #[] #[]]++lb) k2 hV1 (by simp[hcl];omega) (by
  intro i c v hc hv;cases i with
  | zero =>
   rw[Bl DC]at hv;simp at hc hv;subst hc;subst hv;exact .sc _
  | succ i =>
   rw[BI DC]at hv;exact(hrc i c v (by simpa using hc) (by simpa using hv)).mono step1)
 refine⟨w.heap.size+1,[{ target:=.collected w.heap.size,args:=#[] }],W1,{ target:=.fn (.func k) lb,args:=#[.func (.yield (w.heap.size+1)) #[] #[]] },W1,k,
  #[.func (.yield (w.heap.size+1)) #[] #[]]++lb,W1,?_,?_,?_,?_,λhd=>(by cases hd),?_⟩
 ·rw[<-hW1,hrec];exact run_enterLoop_outer _ _ _ _ _
 ·simp only[resolve,hgv];simp[go_sem]
 ·intro f' _;trivial
 ·simp only[invoke];exact hit.1 _ _
 refine(Zap (r:=⟨none,V,keep⟩) hC2).mono ?_;rintro e w' ⟨p,v,S',C',rfl,⟨s,hs,rfl⟩,_,hsim,hst⟩;obtain⟨a1,a2,a3,a4,a5⟩:=(hV0 _ _ _).1 (keep0 hst hV1);have hend:=run_endLoop (P:=P) a1 (by rw[hrec];simp);have hpn:(rec .ready none).pending=none:=by rw[hrec]
 rw[hpn]at hend;have a6:=λo=>a5.beyond (l:=w.heap.size+1) o DB
 refine⟨none,_,hend,F,_,C',done s hs,⟨hsim.put a1 (WT _),st.size,λi=>(st.fr i).mono (a6 _),keep (a6 _) st.v⟩,⟨[{ target:=.collected w.heap.size,args:=#[] }],rfl,⟨_,Af _,rfl,?_,a4,by simp⟩,trivial⟩,a6 _⟩;rw[Bm DB];exact a2
end
def Jt(id ver:Nat)(cs:List PV)(p:PV):PV :=
 match p with
 | .sl o v sz 0 k=>if o=id/\v=ver/\k*sz=cs.length then .lst k cs else .sl o v sz 0 k
 | .ptr o v off=>if o=id/\v=ver/\off<=cs.length then .ip (cs.drop off) else .ptr o v off
 | p=>p
def Qz(id ver:Nat)(cs:List PV)(p:PV):PV :=
 match p with
 | .fn f fs cap=>.fn f (fs.map (Jt id ver cs)) (cap.map (Jt id ver cs))
 | p=>Jt id ver cs p
def Zx(id ver:Nat)(cs:List PV)(x:Ob):Ob :=
 match x with
 | .cells v e ds=>.cells v e (ds.map (Qz id ver cs))
 | x=>x
theorem Zjj(id ver:Nat)(cs:List PV)(x:Ob):(Zx id ver cs x).ver=x.ver:=by cases x<;>rfl
theorem ZaI{C:Ctx}{S T:Store}{w:World}{id ver e:Nat}{cs:List PV}(hS:Sim C S w)(hid:S id=.cells ver e cs)(hT:T id=.dead)(hTS:∀o,T o≠.dead->S o≠.dead)(st:Step C S w C T w){p:PV}{u:Value}
  (h:Rel C S w p u):Rel C T w (Jt id ver cs p) u:=by
 unfold Jt;split
 ·rename_i o v sz k;split
  ·rename_i hc;obtain⟨rfl,rfl,hk⟩:=hc;cases h with
   | sl h1 h2 h3 =>
    obtain⟨ad,cap,rfl,q1,q2,q3,q4⟩:=h1;have hnM:∀b k',C.loc o=some (b,k')->¬C.M T b:=by
     rintro b k' hl ⟨i,k2,hi,hl2⟩
     by_cases hoi:i=o
     ·simp_all
     ·exact hoi (hS.dist i o b k2 k' (hTS i hi) (by rw[hid];simp) hl2 hl)
    rcases (h3 v (by rw[hid];rfl)).2 rfl with ⟨z1,z2,_,z4⟩ | ⟨b,k',ad',cap',z1,z2,z3,z4⟩
    ·subst z2;have:cs=[]:=Ap DB;subst this;cases z4;exact .lst0
    ·cases z2;rcases hS.cells o v e cs hid with ⟨hn,_⟩ | ⟨b2,kk,c,g1,g2,g3,g4,g5,g6⟩
     ·simp_all
     ·rw[g1]at z1;cases z1;obtain⟨rfl,_⟩:=z3 rfl;exact .lst1 q1 q2 g2 (hnM _ _ g1) (λ_=>by omega) (λj v hj hv=>g5 j v hj (by simpa using hv)) (λj p v hp hv=>(g6 j p v hp (by simpa using hv)).mono st)
  ·exact h.mono st
 ·rename_i o v off;split
  ·rename_i hc;obtain⟨rfl,rfl,hk⟩:=hc;cases h with
   | ptr h1 h2 h3 =>
    obtain⟨b,k',z1,z2⟩:=(h3 v (by rw[hid];rfl)).2 rfl;have hnM:¬C.M T b:=by
     rintro⟨i,k2,hi,hl2⟩
     by_cases hoi:i=o
     ·simp_all
     ·exact hoi (hS.dist i o b k2 k' (hTS i hi) (by rw[hid];simp) hl2 z1)
    rcases hS.cells o v e cs hid with ⟨hn,_⟩ | ⟨b2,kk,c,g1,g2,g3,g4,g5,g6⟩
    ·simp_all
    ·rw[g1]at z1;cases z1;subst z2;refine .ip g2 hnM (λ_=>by simp;omega) (λj v hj hv=>g5 (off+j) v (by simp at hj;omega) hv) (λj p v hp hv=>?_);rw[AK]at hp;exact(g6 (off+j) p v hp hv).mono st
  ·exact h.mono st
 ·exact h.mono st
theorem Zjk{C:Ctx}{S T:Store}{w:World}{id ver e:Nat}{cs:List PV}(hS:Sim C S w)(hid:S id=.cells ver e cs)(hT:T id=.dead)(hTS:∀o,T o≠.dead->S o≠.dead)(st:Step C S w C T w){p:PV}{u:Value}
  (h:Rel C S w p u):Rel C T w (Qz id ver cs p) u:=by
 unfold Qz;split
 ·cases h with
  | fn hf hc h1 h2 =>
   refine .fn (by simpa using hf) (by simpa using hc) (λi c v hc hv=>?_) (λi c v hc hv=>?_)
   ·rw[Ah]at hc;obtain⟨c0,hc0,rfl⟩:=Am.1 hc;exact ZaI hS hid hT hTS st (h1 i c0 v hc0 hv)
   ·rw[Ah]at hc;obtain⟨c0,hc0,rfl⟩:=Am.1 hc;exact ZaI hS hid hT hTS st (h2 i c0 v hc0 hv)
 grind[ZaI]
section
variable {P:Program} {r:Rd} {n nx N:Nat} {Q:Exit->(Nat->PV)->Store->Prop} {F:Nat->PV} {S:Store} {obs:List Ob}
theorem xI{c:Code}(j:Nat){ver e:Nat}{cs:List PV}(hj:obs[j]?=some (.cells ver e cs))(h:PW P r n N c Q (λi=>Qz (nx+j) ver cs (F i)) (ext S nx ((obs.map (Zx (nx+j) ver cs)).set j .dead))):PW P r n N c Q F (ext S nx obs):=by
 have hjl:j<obs.length:=(Ac.1 hj).1;refine Z8 (F':=λi=>Qz (nx+j) ver cs (F i)) (S':=ext S nx ((obs.map (Zx (nx+j) ver cs)).set j .dead)) (λC w a st=>?_) h;have hid:ext S nx obs (nx+j)=.cells ver e cs:=by rw[z7,Aa,hj];rfl
 have hT:ext S nx ((obs.map (Zx (nx+j) ver cs)).set j .dead) (nx+j)=.dead:=by rw[z7,Aa,AS (by simpa using hjl)];rfl
 -- what stands under each number
 have hat:∀o,ext S nx ((obs.map (Zx (nx+j) ver cs)).set j .dead) o=.dead\/(o<nx/\ext S nx ((obs.map (Zx (nx+j) ver cs)).set j .dead) o=ext S nx obs o)\/(nx<=o/\ext S nx ((obs.map (Zx (nx+j) ver cs)).set j .dead) o=Zx (nx+j) ver cs (ext S nx obs o)):=by
  intro o
  by_cases ho:o<nx
  ·simp_all[zE]
  ·by_cases hoj:o=nx+j
   ·simp_all
   ·refine .inr (.inr ⟨by omega,?_⟩);simp only[ext];rw[if_neg ho,if_neg ho,Aa,Aa,AU DB,Ah];cases obs[o-nx]?<;>rfl
 generalize hTT:ext S nx ((obs.map (Zx (nx+j) ver cs)).set j .dead)=T at *;generalize hSS:ext S nx obs=S1 at *;have hver:∀o v,(T o).ver=some v->(S1 o).ver=some v:=by
  intro o v hv;rcases hat o with q | ⟨_,q⟩ | ⟨_,q⟩
  ·rw[q]at hv;cases hv
  ·simp_all
  ·simp_all[Zjj]
 have hne:∀o,T o≠.dead->S1 o≠.dead:=by
  intro o ho hd;rcases hat o with q | ⟨_,q⟩ | ⟨_,q⟩
  ·exact ho q
  ·simp_all
  ·rw[hd]at q;exact ho q
 have hM:∀b,C.M T b->C.M S1 b:=λb ⟨o,k,ho,hl⟩=>⟨o,k,hne o ho,hl⟩
 have hstep:Step C S1 w C T w:=⟨rfl,⟨rfl,Af _⟩,rfl,Af _,Af _,Af _,λb _ hb=>⟨rfl,λh=>hb (hM b h)⟩,λo v1 hv=>.inr ⟨v1,hver o v1 hv,Af _,λ_=>rfl⟩⟩;have hrel:∀{p u},Rel C S1 w p u->Rel C T w (Qz (nx+j) ver cs p) u:=λh=>Zjk st.sim hid hT hne hstep h
 refine⟨C,⟨⟨λo ho=>st.sim.lt o (hne o ho),λo v hv=>st.sim.clk o v (hver o v hv),λo o' b k k' ho ho'=>st.sim.dist o o' b k k' (hne o ho) (hne o' ho'),?_,?_⟩,st.size,λi=>hrel (st.fr i),r.keep hstep st.v⟩,hstep⟩
 ·intro o v e' ds ho;rcases hat o with q | ⟨_,q⟩ | ⟨_,q⟩
  ·simp_all
  ·rw[q]at ho;rcases st.sim.cells o v e' ds ho with hn | ⟨b,k,c,h1,h2,h3,h4,h5,h6⟩
   ·exact .inl hn
   ·exact .inr ⟨b,k,c,h1,h2,h3,h4,h5,λi p u hp hu=>(h6 i p u hp hu).mono hstep⟩
  ·rw[q]at ho;cases hs:S1 o with
   | dead=>simp_all
   | map v es=>rw[hs]at ho;cases ho
   | cells v2 e2 ds2 =>
    rw[hs]at ho;cases ho;rcases st.sim.cells o _ _ ds2 hs with ⟨h1,h2⟩ | ⟨b,k,c,h1,h2,h3,h4,h5,h6⟩<;>grind
 ·intro o v es ho;have hs:S1 o=.map v es:=by
   rcases hat o with q | ⟨_,q⟩ | ⟨_,q⟩
   ·simp_all
   ·simp_all
   ·rw[q]at ho;cases hs:S1 o with
    | dead=>simp_all
    | map v es=>rw[hs]at ho;exact ho
    | cells v2 e2 ds2=>rw[hs]at ho;cases ho
  obtain⟨b,k,ms,cl,h1,h2,h3,h4⟩:=st.sim.maps o v es hs;exact⟨b,k,ms,cl,h1,h2,h3,λi x m hx hm=>⟨(h4 i x m hx hm).1,(h4 i x m hx hm).2.mono hstep⟩⟩
end
theorem ZdM{P:Program}{f:FuncId}{args:List PV}{sz k e:Nat}{cs:List PV}(j:Nat)
  (h:∀S nx,zX nx S->Spec P f args S (λp S'=>∃v,p=.agg [.sl (nx+j) v sz 0 k]/\S'=S.set (nx+j) (.cells v e cs))) (hk:k*sz=cs.length):Pure P f args (.agg [.lst k cs]):=by
 intro S;refine⟨(h (λ_=>.dead) 0 (λ_ _=>rfl)).1,?_⟩;intro C w vs hS hl hr;have hd:zX C.next S:=λi hi=>by
  cases hs:S i with
  | dead=>rfl
  | cells v e cs=>have:=hS.lt i (by rw[hs];simp);omega
  | map v es=>have:=hS.lt i (by rw[hs];simp);omega
 refine((h S C.next hd).2 C w vs hS hl hr).mono ?_;rintro e' w' ⟨p,u,S',C',rfl,⟨v,rfl,rfl⟩,hrel,hsim,hstep⟩;have hdj:=hd (C.next+j) DB;have hkk:∀o,S o=S.set (C.next+j) (.cells v e cs) o\/S o=.dead:=by
  intro o
  by_cases ho:o=C.next+j
  ·simp_all
  ·simp_all[q10]
 obtain⟨k1,k2⟩:=hsim.kill hkk;refine⟨.agg [.lst k cs],u,S,C',rfl,⟨rfl,rfl⟩,?_,k1,hstep.trans k2⟩;cases hrel with
 | agg hl2 h1 h2 =>
  refine .agg DB h1 λi c v' hc hv=>?_
  cases i with
  | succ i=>simp at hc
  | zero =>
   simp at hc;subst hc;have:=WR hsim (q11 _ _ _) hdj (λo ho=>by
    rcases hkk o with q | q
    ·rw[<-q];exact ho
    ·exact absurd q ho) k2 (h2 0 _ v' rfl hv)
   simp_all
theorem ZdN{S:Store}{nx:Nat}{obs:List Ob}(k:Nat):ext S nx obs=ext S nx (obs++List.replicate k .dead):=by
 funext i;simp only[ext]
 grind
theorem Xq{S:Store}{nx:Nat}{obs:List Ob}(k:Nat)(x:Ob):(ext S nx obs).set (nx+obs.length+k) x=ext S nx (obs++List.replicate k .dead++[x]):=by
 rw[ZdN k];have:=qU (S:=S) (nx:=nx) (obs:=obs++List.replicate k .dead) x
 grind
theorem Sim.few{C:Ctx}{S:Store}{w:World}(h:Sim C S w){o ver e:Nat}{cs:List PV}(hs:S o=.cells ver e cs)(m:Nat):Sim C (S.set o (.cells ver e (cs.take m))) w/\Step C S w C (S.set o (.cells ver e (cs.take m))) w:=by
 have hne:∀i,S.set o (.cells ver e (cs.take m)) i≠.dead->S i≠.dead:=by
  intro i hi
  by_cases q:i=o
  ·simp_all
  ·simp_all[q10]
 have hver:∀i,(S.set o (.cells ver e (cs.take m)) i).ver=(S i).ver:=by
  intro i
  by_cases q:i=o
  ·subst q;rw[q11,hs];rfl
  ·simp_all[q10]
 have st:Step C S w C (S.set o (.cells ver e (cs.take m))) w:=⟨rfl,⟨rfl,Af _⟩,rfl,Af _,Af _,Af _,λb _ hM=>⟨rfl,λ⟨i,k,hi,hl⟩=>hM ⟨i,k,hne i hi,hl⟩⟩,
  λi v1 hv=>.inr ⟨v1,by simp_all,Af _,λ_=>rfl⟩⟩
 refine⟨⟨λi hi=>h.lt i (hne i hi),λi v hv=>h.clk i v DJ,λi i' b k k' hi hi'=>h.dist i i' b k k' (hne i hi) (hne i' hi'),?_,?_⟩,st⟩
 ·intro i v' e' ds hi
  by_cases q:i=o
  ·subst q;rw[q11]at hi;cases hi;rcases h.cells i _ _ _ hs with ⟨h1,h2⟩ | ⟨b,k,c,h1,h2,h3,h4,h5,h6⟩
   ·simp_all
   ·refine .inr ⟨b,k,c,h1,h2,h3,by simp;omega,λj v hj hv=>h5 j v (by simp at hj;omega) hv,λj p v hp hv=>?_⟩;rw[BA]at hp;split at hp
    ·exact(h6 j p v hp hv).mono st
    ·cases hp
  ·rw[q10 _ _ _ _ q]at hi;rcases h.cells i _ _ _ hi with hn | ⟨b,k,c,h1,h2,h3,h4,h5,h6⟩
   ·exact .inl hn
   ·exact .inr ⟨b,k,c,h1,h2,h3,h4,h5,λj p v hp hv=>(h6 j p v hp hv).mono st⟩
 ·intro i v es hi
  by_cases q:i=o
  ·simp_all
  ·rw[q10 _ _ _ _ q]at hi;obtain⟨b,k,ms,cl,h1,h2,h3,h4⟩:=h.maps i v es hi;exact⟨b,k,ms,cl,h1,h2,h3,λj x m hx hm=>⟨(h4 j x m hx hm).1,(h4 j x m hx hm).2.mono st⟩⟩
theorem Zjl{P:Program}{r:Rd}{n nx N:Nat}{Q:Exit->(Nat->PV)->Store->Prop}{F:Nat->PV}{S:Store}{obs:List Ob}{c:Code}{ver e:Nat}{cs:List PV}(j m:Nat)(hj:obs[j]?=some (.cells ver e cs))
  (h:PW P r n N c Q F (ext S nx (obs.set j (.cells ver e (cs.take m))))):PW P r n N c Q F (ext S nx obs):=by
 have hjl:j<obs.length:=(Ac.1 hj).1;refine Z8 (F':=F) (S':=ext S nx (obs.set j (.cells ver e (cs.take m)))) (λC w a st=>?_) h;have hs:ext S nx obs (nx+j)=.cells ver e cs:=by rw[z7,Aa,hj];rfl
 have:=st.sim.few hs m;rw[yh _ DB DB,AE]at this;exact⟨C,⟨this.1,st.size,λk=>(st.fr k).mono this.2,r.keep this.2 st.v⟩,this.2⟩
@[simp] theorem Zjm{α:Type}(l m:List α)(k:Nat)(d:α):(l++m).getD (l.length+k) d=m.getD k d:=DI
@[simp] theorem ZtA{α:Type}(l m:List α)(d:α):(l++m).getD l.length d=m.getD 0 d:=Zjm l m 0 d
@[simp] theorem Zjn{α:Type}(l m:List α)(k:Nat)(x:α):(l++m).set (l.length+k) x=l++m.set k x:=DC
@[simp] theorem ZtB{α:Type}(l m:List α)(x:α):(l++m).set l.length x=l++m.set 0 x:=Zjn l m 0 x
@[simp low] theorem ZtC(a b:Int):(a != b)=!decide (a=b):=rfl
attribute [simp] Jt Qz Zx Xp
open Go
theorem zt{a b:Prop}(x:a)(y:b):a/\b:=⟨x,y⟩
theorem zF{a b c:Prop}(x:a)(y:b)(z:c):a/\b/\c:=⟨x,y,z⟩
theorem zN{a b c d:Prop}(x:a)(y:b)(z:c)(u:d):a/\b/\c/\d:=⟨x,y,z,u⟩
theorem yq{a b c d e:Prop}(x:a)(y:b)(z:c)(u:d)(v:e):a/\b/\c/\d/\e:=⟨x,y,z,u,v⟩
theorem zS{a b c d e f:Prop}(x:a)(y:b)(z:c)(u:d)(v:e)(w:f):a/\b/\c/\d/\e/\f:=⟨x,y,z,u,v,w⟩
abbrev KT:=(Nat->PV)->Store->List Ob->Prop
abbrev CT:=List Oper->(Nat->PV)->Store->List Ob->Option Nat->FuncId->List PV->Prop
abbrev HT:=List Oper->(Nat->PV)->Store->List Ob->Oper->Prop
section
variable {P:Program} {r:Rd} {n nx N:Nat} {Q:Exit->(Nat->PV)->Store->Prop} {F:Nat->PV} {S:Store} {obs:List Ob} {A:Prop} {R:KT->CT->HT->Prop}
abbrev XQ(P:Program)(nx:Nat)(D:List (Nat × Nat))(l:List Oper)(F:Nat->PV)(S:Store)(obs:List Ob)(R:KT->CT->HT->Prop):Prop :=
 ∀(K:KT) (Gc:CT) (Gh:HT) (X:List Oper->KT),(∀F S obs,X [] F S obs=K F S obs)->(∀o os F S obs,X (o :: os) F S obs=Jm P nx D Gc Gh (X os) o os F S obs)->R K Gc Gh->X l F S obs
abbrev CQ(P:Program)(r:Rd)(n nx:Nat)(ops:Array Oper)(K:KT):CT:=λos F S obs d f args=>os <:+ ops.toList->SpecV P r.V f args (ext S nx obs) (λp S'=>∃S1 obs1,S'=ext S1 nx obs1/\XS P r n nx ops K os (z6 F d p) S1 obs1)
abbrev HQ(P:Program)(r:Rd)(n nx:Nat)(ops:Array Oper)(K:KT):HT:=λos F S obs o=>os <:+ ops.toList->PO P r n o F (ext S nx obs) (λp S'=>∃S1 obs1,S'=ext S1 nx obs1/\XS P r n nx ops K os (z6 F o.dst p) S1 obs1)
theorem ZaJ{id:Nat}{ops:Array Oper}(hN:wy N ops=true)(h:XS P r n nx ops (λF' S' obs'=>Q .normal F' (ext S' nx obs')) ops.toList F S obs):PW P r n N (.region id ops false) Q F (ext S nx obs):=by
 intro C w a st;refine wpIn_region ?_;have:=ZdB (Q':=λe a' w'=>∃F' S' C',Q e F' S'/\St r C' S' w' N F' a'/\Defs w.heap.size a.defers C' S' w' a'.defers/\Step C (ext S nx obs) w C' S' w') (WB hN)
  (λF' S' obs' C' w' a' hk st hd hstep=>⟨F',_,C',hk,st,.of_eq hd,hstep⟩) ops.size 0 F S obs C w a rfl (K:=λF' S' obs'=>Q .normal F' (ext S' nx obs')) (by simpa using h) st rfl (.refl _ _ _)
 simpa using this
theorem QA{ops:Array Oper}{K:KT}{l:List Oper}{D:List (Nat × Nat)}(hs:l <:+ ops.toList)(hD:ue ops D=true)(hR:XQ P nx D l F S obs R)(h:R K (CQ P r n nx ops K) (HQ P r n nx ops K)):XS P r n nx ops K l F S obs :=
 Jn hD (Gc:=CQ P r n nx ops K) (Gh:=HQ P r n nx ops K) (λ_ _ _ _ _ _ _ h=>h) (λ_ _ _ _ _ h=>h) l F S obs hs (hR K _ _ (XR P nx D K _ _) (λ_ _ _=>rfl) (λ_ _ _ _ _=>rfl) h)
theorem zi{id:Nat}{ops:Array Oper}(D:List (Nat × Nat))(a:A)
  (h:R (λF' S' obs'=>Q .normal F' (ext S' nx obs')) (CQ P r n nx ops λF' S' obs'=>Q .normal F' (ext S' nx obs')) (HQ P r n nx ops λF' S' obs'=>Q .normal F' (ext S' nx obs')))
  (hN:wy N ops=true:=by rfl) (hD:ue ops D=true:=by rfl)
  (hR:A->XQ P nx D ops.toList F S obs R:=by intro a K Gc Gh X hX0 hX h;simp -implicitDefEqProofs [hX0,hX,a];exact h):PW P r n N (.region id ops false) Q F (ext S nx obs) :=
 ZaJ hN (QA (Dh _) hD (hR a) h)
theorem zg{id:Nat}{ops:Array Oper}
  (h:R (λF' S' obs'=>Q .normal F' (ext S' nx obs')) (CQ P r n nx ops λF' S' obs'=>Q .normal F' (ext S' nx obs')) (HQ P r n nx ops λF' S' obs'=>Q .normal F' (ext S' nx obs')))
  (hN:wy N ops=true:=by rfl) (hD:ue ops []=true:=by rfl)
  (hR:XQ P nx [] ops.toList F S obs R:=by intro K Gc Gh X hX0 hX h;simp -implicitDefEqProofs [hX0,hX];exact h):PW P r n N (.region id ops false) Q F (ext S nx obs) :=
 ZaJ hN (QA (Dh _) hD hR h)
theorem DK{y:Code}{id:Nat}{ops:Array Oper}
  (h:R (λF' S' obs'=>(Z6 (PW P r n N y Q) Q) .normal F' (ext S' nx obs')) (CQ P r n nx ops λF' S' obs'=>(Z6 (PW P r n N y Q) Q) .normal F' (ext S' nx obs')) (HQ P r n nx ops λF' S' obs'=>(Z6 (PW P r n N y Q) Q) .normal F' (ext S' nx obs')))
  (hN:wy N ops=true:=by rfl) (hD:ue ops []=true:=by rfl)
  (hR:XQ P nx [] ops.toList F S obs R:=by intro K Gc Gh X hX0 hX h;simp -implicitDefEqProofs [hX0,hX];exact h):PW P r n N (.seq (.region id ops false) y) Q F (ext S nx obs):=ze (zg h hN hD hR)
theorem qP{ops:Array Oper}{os:List Oper}{K:KT}{d:Option Nat}{f:FuncId}{args:List PV}{v:PV}(D:List (Nat × Nat))(hp:Pure P f args v)(a:A)
  (h:R K (CQ P r n nx ops K) (HQ P r n nx ops K)) (hD:ue ops D=true:=by rfl)
  (hR:A->XQ P nx D os (z6 F d v) S obs R:=by intro a K Gc Gh X hX0 hX h;simp -implicitDefEqProofs [hX0,hX,a];exact h):CQ P r n nx ops K os F S obs d f args :=
 λhs=>((hp _).mono (by rintro _ _ ⟨rfl,rfl⟩;exact⟨_,_,rfl,QA hs hD (hR a) h⟩)).v
theorem zu{ops:Array Oper}{os:List Oper}{K:KT}{d:Option Nat}{f:FuncId}{args:List PV}{v:PV}(hp:Pure P f args v)
  (h:R K (CQ P r n nx ops K) (HQ P r n nx ops K)) (hD:ue ops []=true:=by rfl)
  (hR:XQ P nx [] os (z6 F d v) S obs R:=by intro K Gc Gh X hX0 hX h;simp -implicitDefEqProofs [hX0,hX];exact h):CQ P r n nx ops K os F S obs d f args :=
 λhs=>((hp _).mono (by rintro _ _ ⟨rfl,rfl⟩;exact⟨_,_,rfl,QA hs hD hR h⟩)).v
theorem jy{ops:Array Oper}{os:List Oper}{K:KT}(D:List (Nat × Nat))(a:A)(hs:os <:+ ops.toList)
  (h:R K (CQ P r n nx ops K) (HQ P r n nx ops K)) (hD:ue ops D=true:=by rfl)
  (hR:A->XQ P nx D os F S obs R:=by intro a K Gc Gh X hX0 hX h;simp -implicitDefEqProofs [hX0,hX,a];exact h):XS P r n nx ops K os F S obs:=QA hs hD (hR a) h
theorem zQ{ops:Array Oper}{os:List Oper}{K:KT}(hs:os <:+ ops.toList)
  (h:R K (CQ P r n nx ops K) (HQ P r n nx ops K)) (hD:ue ops []=true:=by rfl)
  (hR:XQ P nx [] os F S obs R:=by intro K Gc Gh X hX0 hX h;simp -implicitDefEqProofs [hX0,hX];exact h):XS P r n nx ops K os F S obs:=QA hs hD hR h
end
section
abbrev PT:=Row->(Nat->PV)->Store->List Ob->Option Nat->FuncId->List PV->Prop
abbrev WV:=Row->(Nat->PV)->Store->List Ob->Oper->Prop
variable {P:Program} {r:Rd} {n nx N:Nat} {Q:Exit->(Nat->PV)->Store->Prop} {F:Nat->PV} {S:Store} {obs:List Ob} {A:Prop} {R:KT->PT->PT->WV->Prop}
abbrev YQ(P:Program)(nx:Nat)(ops:Array Oper)(ids:Option (List Nat))(S0:Store)(row:Row)(F:Nat->PV)(S:Store)(obs:List Ob)(R:KT->PT->PT->WV->Prop):Prop :=
 ∀(K:KT) (Gp Gc:PT) (Gh:WV) (X:Row->KT),(∀F S obs,X .done F S obs=K F S obs)->(∀F S obs,X .stop F S obs=True)->(∀i is F S obs,X (.pure i is) F S obs=Jo P ops ids S0 Gp (X is) i is F S obs) ->
  (∀i is more F S obs,X (.alt i is more) F S obs=(Jp P nx ops ids S0 Gc Gh (X is) i is F S obs/\X more F S obs))->R K Gp Gc Gh->X row F S obs
abbrev GP(P:Program)(r:Rd)(n nx:Nat)(ops:Array Oper)(ids:Option (List Nat))(S0:Store)(K:KT):PT:=λis F S obs d f args=>∃p,Pure P f args p/\PX P r n ops ids S0 is (z6 F d p) (ext S nx obs) (KX nx K)
abbrev GC(P:Program)(r:Rd)(n nx:Nat)(ops:Array Oper)(ids:Option (List Nat))(S0:Store)(K:KT):PT:=λis F S obs d f args=>SpecV P r.V f args (ext S nx obs) (λp S'=>yH ids S0 S'/\PX P r n ops ids S0 is (z6 F d p) S' (KX nx K))
abbrev GH(P:Program)(r:Rd)(n nx:Nat)(ops:Array Oper)(ids:Option (List Nat))(S0:Store)(K:KT):WV:=λis F S obs o=>qN P F (ext S nx obs) o=none/\PO P r n o F (ext S nx obs) (λp S'=>yH ids S0 S'/\PX P r n ops ids S0 is (z6 F o.dst p) S' (KX nx K))
theorem ZaK{ops:Array Oper}{ids:Option (List Nat)}{S0:Store}{K:KT}{row:Row}(hR:YQ P nx ops ids S0 row F S obs R)(h:R K (GP P r n nx ops ids S0 K) (GC P r n nx ops ids S0 K) (GH P r n nx ops ids S0 K)):PX P r n ops ids S0 row F (ext S nx obs) (KX nx K) :=
 Yc (Gp:=GP P r n nx ops ids S0 K) (Gc:=GC P r n nx ops ids S0 K) (Gh:=GH P r n nx ops ids S0 K) (λ_ _ _ _ _ _ _ h=>h) (λ_ _ _ _ _ _ _ h=>h) (λ_ _ _ _ _ h=>h) row F S obs
  (hR K _ _ _ (XD P nx ops ids S0 K _ _ _) (λ_ _ _=>rfl) (λ_ _ _=>rfl) (λ_ _ _ _ _=>rfl) (λ_ _ _ _ _ _=>rfl) h)
theorem zB{id:Nat}{ops:Array Oper}(ids:Option (List Nat))(row:Row)(hm:P.follows .mixedOrders=true)(a:A)
  (h:R (λF' S' obs'=>Q .normal F' (ext S' nx obs')) (GP P r n nx ops ids (ext S nx obs) λF' S' obs'=>Q .normal F' (ext S' nx obs')) (GC P r n nx ops ids (ext S nx obs) λF' S' obs'=>Q .normal F' (ext S' nx obs')) (GH P r n nx ops ids (ext S nx obs) λF' S' obs'=>Q .normal F' (ext S' nx obs')))
  (hN:wy N ops=true:=by rfl) (hG:Qp ops=true:=by rfl) (hrow:xz ops [] [] row=true:=by rfl)
  (hR:A->YQ P nx ops ids (ext S nx obs) row F S obs R:=by intro a K Gp Gc Gh X hX0 hX1 hX2 hX h;simp -implicitDefEqProofs [hX0,hX1,hX2,hX,a];exact h):PW P r n N (.region id ops true) Q F (ext S nx obs) :=
 WH ids row hm hN hG hrow (ZdD row F _ (ZaK (hR a) h))
theorem zP{ops:Array Oper}{ids:Option (List Nat)}{S0:Store}{K:KT}{is:Row}{d:Option Nat}{f:FuncId}{args:List PV}{v:PV}(hp:Pure P f args v)(a:A)
  (h:R K (GP P r n nx ops ids S0 K) (GC P r n nx ops ids S0 K) (GH P r n nx ops ids S0 K))
  (hR:A->YQ P nx ops ids S0 is (z6 F d v) S obs R:=by intro a K Gp Gc Gh X hX0 hX1 hX2 hX h;simp -implicitDefEqProofs [hX0,hX1,hX2,hX,a];exact h):GP P r n nx ops ids S0 K is F S obs d f args :=
 ⟨v,hp,ZaK (hR a) h⟩
theorem jp{ops:Array Oper}{ids:Option (List Nat)}{S0:Store}{K:KT}{is:Row}(a:A)
  (h:R K (GP P r n nx ops ids S0 K) (GC P r n nx ops ids S0 K) (GH P r n nx ops ids S0 K))
  (hR:A->YQ P nx ops ids S0 is F S obs R:=by intro a K Gp Gc Gh X hX0 hX1 hX2 hX h;simp -implicitDefEqProofs [hX0,hX1,hX2,hX,a];exact h):PX P r n ops ids S0 is F (ext S nx obs) (KX nx K):=ZaK (hR a) h
end
theorem zy:undef=Value.tuple #[]:=rfl
section
variable {P:Program} {nx N:Nat} {S:Store} {f:FuncId} {fn:Func} {c:Code} {rs:Array ResultVar} {args:List PV}
theorem zx{v:PV}(hf:P.funcs[f]?=some fn)(hN:fn.ntmps=N)(hrs:fn.results=rs)(h:∀S nx,zX nx S->PW P wU 0 N c (uV P rs.toList (λp S'=>p=v/\S'=S)) (ud args) (ext S nx []))
  (hname : (fn.name == "runtime.NumGoroutine") = false := by rfl) (hb : fn.body = some c := by exact rfl) (hargs : args.length ≤ N := by simp) : Pure P f args v :=
 Zjd hf hname hb hN (congrArg Array.toList hrs) hargs h
theorem yi{Q:PV->Store->Prop}(hf:P.funcs[f]?=some fn)(hN:fn.ntmps=N)(hrs:fn.results=rs)(h:∀nx,zX nx S->PW P wU 0 N c (uV P rs.toList Q) (ud args) (ext S nx []))
  (hname : (fn.name == "runtime.NumGoroutine") = false := by rfl) (hb : fn.body = some c := by exact rfl) (hargs : args.length ≤ N := by simp) : Spec P f args S Q :=
 ZdG hf hname hb hN (congrArg Array.toList hrs) hargs h
theorem uE{Q:PV->Store->Prop}(hd:zX nx S)(hf:P.funcs[f]?=some fn)(hN:fn.ntmps=N)(hrs:fn.results=rs)(h:PW P wU 0 N c (uV P rs.toList Q) (ud args) (ext S nx []))
  (hname : (fn.name == "runtime.NumGoroutine") = false := by rfl) (hb : fn.body = some c := by exact rfl) (hargs : args.length ≤ N := by simp) : Spec P f args S Q :=
 Zjc hd hf hname hb hN (congrArg Array.toList hrs) hargs h
end
open Go
instance {α:Type} [Enc α]:Enc (List α):=⟨λl=>[L l],1,λ_=>rfl,λ_=>rfl⟩
@[simp] theorem Zjo{α:Type}[Enc α](l:List α):Enc.enc l=[L l]:=rfl
@[simp high] theorem jI{α:Type}[Enc α](l:List (List α)):(l.flatMap Enc.enc).length=l.length:=(qO l).trans (B4 _)
@[simp high] theorem Zjp{α:Type}[Enc α](l:List (List α)):(l.flatMap Enc.enc).take l.length=l.flatMap Enc.enc:=Ae (Co (jI l))
abbrev U(n:Nat):PV:=.sc (.int .u64 n)
instance:Enc Nat:=⟨λx=>[U x],1,λ_=>rfl,λ_=>rfl⟩
@[simp] theorem ZtD(x:Nat):Enc.enc x=[U x]:=rfl
@[simp high] theorem ZdO(l:List Nat):(l.flatMap Enc.enc).length=l.length:=(qO l).trans (B4 _)
@[simp high] theorem ZtE(l:List Nat):(l.flatMap Enc.enc).take l.length=l.flatMap Enc.enc:=Ae (Co (ZdO l))
instance:Enc Bool:=⟨λx=>[B x],1,λ_=>rfl,λ_=>rfl⟩
@[simp] theorem ZtF(x:Bool):Enc.enc x=[B x]:=rfl
@[simp high] theorem Zjq(l:List Bool):(l.flatMap Enc.enc).length=l.length:=(qO l).trans (B4 _)
@[simp high] theorem ZtG(l:List Bool):(l.flatMap Enc.enc).take l.length=l.flatMap Enc.enc:=Ae (Co (Zjq l))
structure Stop where
 c:Int
 q:Int
 deriving DecidableEq
instance:Inhabited Stop:=⟨⟨0,0⟩⟩
instance:Enc Stop:=⟨λs=>[I s.c,I s.q],2,λ_=>rfl,λ_=>rfl⟩
@[simp] theorem ZtH(s:Stop):Enc.enc s=[I s.c,I s.q]:=rfl
@[simp high] theorem YN(l:List Stop):(l.flatMap Enc.enc).length=l.length*2:=qO l
@[simp high] theorem ZtI(l:List Stop):(l.flatMap Enc.enc).take (l.length*2)=l.flatMap Enc.enc:=Yd l
structure Cust where
 kind:Int
 demand:Int
 pats:List Nat
 rate:Int
 size:Int
 start:Int
 rule:Int
 hold:Int
 deriving DecidableEq
instance:Inhabited Cust:=⟨⟨0,0,[],0,0,0,0,0⟩⟩
abbrev yc(c:Cust):List PV:=[I c.kind,I c.demand,L c.pats,I c.rate,I c.size,I c.start,I c.rule,I c.hold]
instance:Enc Cust:=⟨yc,8,λ_=>rfl,λ_=>rfl⟩
@[simp] theorem ZtJ(c:Cust):Enc.enc c=[I c.kind,I c.demand,L c.pats,I c.rate,I c.size,I c.start,I c.rule,I c.hold]:=rfl
@[simp high] theorem ZtK(l:List Cust):(l.flatMap Enc.enc).length=l.length*8:=qO l
@[simp high] theorem ZtL(l:List Cust):(l.flatMap Enc.enc).take (l.length*8)=l.flatMap Enc.enc:=Yd l
structure Inst where
 days:Int
 veh:Int
 cap:Int
 len:Int
 cust:List Cust
 dist:List (List Int)
 deriving DecidableEq
abbrev zD(x:Inst):List PV:=[I x.days,I x.veh,I x.cap,I x.len,L x.cust,L x.dist]
abbrev zO:=List Stop
abbrev zr:=List zO
abbrev zH:=List zr
open Go Go.ChangeShapes Go.WideShapes Go.ChangeAt Go.RowKit
def S0:Store:=λ_=>.dead
def C0:Ctx:=⟨λ_=>none,0,0⟩
theorem sim0(w:World):Sim C0 S0 w :=
 ⟨λ_ h=>absurd rfl h,(λ_ _ h=>by cases h),λ_ _ _ _ _ h=>absurd rfl h,(λ_ _ _ _ h=>by cases h),(λ_ _ _ h=>by cases h)⟩
theorem ZdP(b:Nat):¬C0.M S0 b:=by rintro⟨o,k,h,_⟩;exact h rfl
theorem Zjr{C':Ctx}{S':Store}{w w':World}(h:Step C0 S0 w C' S' w'):Below w.heap.size w w' :=
 ⟨h.os,h.tape.1,h.output,h.size,λb hb=>(h.blocks b hb (ZdP b)).1⟩
def QB(P:Program)(w:World)(t:TypeId)(α:Type)[Enc α](Ok:α->Prop):Prop :=
 ∀(H:Type) (enc:TypeId × Value->H) (fuel:Nat) (cs:List Value) (x:DataW H × List MemPlace),DataW.trod enc P w 0 (λ_=>true) true fuel t cs=some x->∃a:α,Ok a/\RelL C0 S0 w (Enc.enc a) cs.toArray
section
variable {P:Program} {w:World}
theorem WX{p:PV}{v:Value}(h:Rel C0 S0 w p v)(h1:v.oneCell'=true):RelL C0 S0 w [p] #[v]:=by
 refine⟨rfl,λi u hu=>?_,λi q u hq hu=>?_⟩
 ·match i with
  | 0=>cases hu;exact h1
  | i+1=>cases hu
 ·match i with
  | 0=>cases hq;cases hu;exact h
  | i+1=>cases hq
theorem Zjs{t:TypeId}(ht:P.underlying t=some (.int .i64)):QB P w t Int zW:=by
 intro H enc fuel cs x h;cases fuel with
 | zero=>cases h
 | succ n =>
  unfold DataW.trod at h;rw[ht]at h
  match cs,h with
  | [.int k z],h =>
   simp only at h;split at h
   ·rename_i hk;obtain⟨rfl,hw⟩:=hk;refine⟨z,?_,WX (.sc _) rfl⟩;unfold Lit.wf at hw;simp only[Ao,decide_eq_true_eq]at hw;exact hw
   ·cases h
theorem Zjt{cs:List PV}{vs:List Value}(h:RelL C0 S0 w cs vs.toArray):cs.length=vs.length/\(∀(i:Nat) (v:Value),vs[i]?=some v->v.oneCell'=true)/\∀(i:Nat) (p:PV) (v:Value),cs[i]?=some p->vs[i]?=some v->Rel C0 S0 w p v:=by
 obtain⟨h1,h2,h3⟩:=h;simp only[BG,AA]at h1 h2 h3;exact⟨h1,h2,h3⟩
theorem ZdQ{α:Type}{Q:Nat->α->Prop}:∀(n:Nat),(∀i,i<n->∃a,Q i a)->∃l:List α,l.length=n/\∀(i:Nat) (a:α),l[i]?=some a->Q i a
 | 0,_=>⟨[],rfl,λi a h=>nomatch h⟩
 | n+1,h=>by
  obtain⟨l,hl,hq⟩:=ZdQ n λi hi=>h i DB
  obtain⟨a,ha⟩:=h n DB;refine⟨l++[a],by simp[hl],λi b hb=>?_⟩
  by_cases hi:i<n
  ·rw[An DB]at hb;exact hq i b hb
  ·by_cases he:i=n
   ·subst he;rw[Ai DB,hl]at hb;simp at hb;subst hb;exact ha
   ·rw[Ak DF]at hb;cases hb
theorem Zju{α:Type}[Enc α](l:List α)(i j:Nat)(hj:j<Enc.sz α){a:α}(hi:l[i]?=some a):(l.flatMap Enc.enc)[i*Enc.sz α+j]?=(Enc.enc a)[j]?:=by
 have hlt:=(Ac.1 hi).1;have:=ZaF hlt;have e:(l.flatMap Enc.enc)[i*Enc.sz α+j]?=((l.flatMap Enc.enc).drop (i*Enc.sz α))[j]?:=by rw[AK]
 rw[e,this,An (by rw[Enc.len];exact hj)];rw[(Ac.1 hi).2]
theorem Zjv{t e:TypeId}{α:Type}[Enc α]{Ok:α->Prop}(ht:P.underlying t=some (.slice e))(hsz:P.cellsOf e=Enc.sz α)(h0:Enc.sz α≠0)(he:QB P w e α Ok):QB P w t (List α) (λl=>l.length<=9223372036854775807/\∀a∈l,Ok a):=by
 intro H enc fuel cs x h;rcases DataW.trod_slice ht h with ⟨rfl,_⟩ | ⟨a,len,cap,elems,rest,n,_,rfl,rfl,hb,hl,hm,hlen,hel,hsp,hns⟩
 ·exact⟨[],⟨by simp,by simp⟩,WX .lst0 rfl⟩
 have key:∀i,i<len->∃z:α,Ok z/\∃vs:List Value,w.cells? 0 (a.add (i*P.cellsOf e)) (P.cellsOf e)=some vs/\RelL C0 S0 w (Enc.enc z) vs.toArray:=by
  intro i hi;have h1:=hel i hi;have h2:elems[i]?=some (elems[i]' DB):=DC
  rw[h2,Option.bind_eq_some_iff]at h1;obtain⟨vs,hv,hx⟩:=h1;obtain⟨z,hz,hr⟩:=he H enc n vs _ hx;exact⟨z,hz,vs,hv,hr⟩
 obtain⟨zs,hzl,hz⟩:=ZdQ len key;have hml:len<=9223372036854775807:=by unfold maxLen at hm;omega
 refine⟨zs,⟨by omega,λz hzm=>?_⟩,?_⟩
 ·obtain⟨i,hi⟩:=B3 hzm;exact(hz i z hi).1
 refine WX (p:=L zs) (v:=.slice (some a) len cap) ?_ rfl;rcases BT len with hl0 | hl0
 ·subst hl0;have:zs=[]:=Ap hzl;subst this;exact .lst0
 -- the block
 obtain⟨b,off,spot⟩:=a;have first:=hz 0 _ (Ad (by omega:0<zs.length));obtain⟨_,vs0,hv0,hr0⟩:=first;obtain⟨_,hvl,hvc⟩:=World.cells?_some hv0;have hblk:∃c e' fz,w.heap[b]?=some (.cells c e' fz)/\spot=none:=by
  have h1:=hvc 0 DB;have hs0:vs0[0]?=some (vs0[0]' DB):=DC
  rw[hs0]at h1;unfold World.cell? at h1;have q1:(((⟨b,off,spot⟩:Addr).add (0*P.cellsOf e)).add 0).block=b:=by unfold Addr.add;split<;>simp_all
  have q3:spot≠none->(((⟨b,off,spot⟩:Addr).add (0*P.cellsOf e)).add 0).spot≠none:=by intro hs;simp[Addr.add,hs]
  rw[q1]at h1;split at h1
  ·rename_i c e' fz hbb;refine⟨c,e',fz,hbb,?_⟩;cases hsp':spot with
   | none=>rfl
   | some s =>
    have:=q3 (by rw[hsp'];simp);rw[hsp']at this h1;split at h1
    ·cases h1
    ·rename_i hns';exfalso;cases hq:(((⟨b,off,some s⟩:Addr).add (0*P.cellsOf e)).add 0).spot with
     | none=>exact this hq
     | some s2=>rw[hq]at hns';exact hns' rfl
  ·cases h1
 obtain⟨c,e',fz,hbb,rfl⟩:=hblk;have cellAt:∀i j,i<len->j<Enc.sz α->∃z v,zs[i]?=some z/\c[off+(i*Enc.sz α+j)]?=some v/\v.oneCell'=true/\∃p,(Enc.enc z)[j]?=some p/\Rel C0 S0 w p v:=by
  intro i j hi hj;have hzi:zs[i]?=some (zs[i]' DB):=DC
  obtain⟨_,vs,hv,hr⟩:=hz i _ hzi;obtain⟨_,hvl,hvc⟩:=World.cells?_some hv;obtain⟨r1,r2,r3⟩:=Zjt hr;rw[Enc.len]at r1;have hvj:vs[j]?=some (vs[j]' DB):=DC
  have h1:=hvc j DB;rw[hvj,Addr.add_plain,Addr.add_plain]at h1;unfold World.cell? at h1;simp only[hbb]at h1;rw[if_neg DC]at h1;refine⟨_,_,hzi,?_,r2 j _ hvj,?_⟩
  ·rw[hsz,Nat.add_assoc]at h1;exact h1
  ·have hp:(Enc.enc (zs[i]' DB))[j]?=some ((Enc.enc (zs[i]' DB))[j]'(by rw[Enc.len];exact hj)):=DC
   exact⟨_,hp,r3 j _ _ hp hvj⟩
 have split:∀i,i<len*Enc.sz α->i / Enc.sz α<len/\i % Enc.sz α<Enc.sz α/\i / Enc.sz α*Enc.sz α+i % Enc.sz α=i:=by
  intro i hi;refine⟨Nat.div_lt_of_lt_mul (by rw[Nat.mul_comm];exact hi),Nat.mod_lt _ (BU h0),?_⟩;rw[Nat.mul_comm];exact Nat.div_add_mod i _
 have hfl:(zs.flatMap Enc.enc).length=len*Enc.sz α:=by rw[qO,hzl]
 have hcell:∀i,i<len*Enc.sz α->∃v,c[off+i]?=some v/\v.oneCell'=true/\∃p,(zs.flatMap Enc.enc)[i]?=some p/\Rel C0 S0 w p v:=by
  intro i hi;obtain⟨s1,s2,s3⟩:=split i hi;obtain⟨z,v,g1,g2,g3,p,g4,g5⟩:=cellAt _ _ s1 s2;rw[s3]at g2;refine⟨v,g2,g3,p,?_,g5⟩;rw[<-s3,Zju zs _ _ s2 g1];exact g4
 rw[<-hzl]at hl ⊢;refine .lst1 hl (by unfold jT;omega) hbb (ZdP b) (λ_=>?_) (λi v hi hv=>?_) (λi p v hp hv=>?_)
 ·have hpos:0<len*Enc.sz α:=Nat.mul_pos hl0 (BU h0);obtain⟨v,hv,_⟩:=hcell (len*Enc.sz α-1) DB;have:=(Bf.1 hv).1;rw[hfl];omega
 ·rw[hfl]at hi;obtain⟨v',hv',h1,_⟩:=hcell i hi;rw[hv]at hv';cases hv';exact h1
 ·have hi:i<len*Enc.sz α:=by have:=(Ac.1 hp).1;rw[hfl]at this;exact this
  obtain⟨v',hv',_,p',hp',hr⟩:=hcell i hi;rw[hv]at hv';cases hv';rw[hp]at hp';cases hp';exact hr
end
theorem Zjw{H:Type}{enc:TypeId × Value->H}{P:Program}{f:Func}{s:ChangeSpec}{apart fresh handsOn again:Bool}{W W':World}{args:Array Value}{v:Value}{ds gs:List (DataW H)}{before pa pv:List MemPlace}
  (hW:DataW.Whole enc P f.params.toList s.vars apart W args.toList ds gs before)
  (hres:∀(b:Nat) (sp:Nat->Bool) (hd:Bool),DataW.TrodAll enc P W' b sp hd f.resultTypes.toList (v.resultList f.resultTypes.size) (s.fn H (ds++gs)).results [])
  (hargs:∀sp:Nat->Bool,(∀p∈before,sp p.block=true)->DataW.TrodAll enc P W' 0 sp true f.params.toList args.toList (s.fn H (ds++gs)).args pa)
  (hvars:∀sp:Nat->Bool,(∀p∈before,sp p.block=true)->DataW.TrodVars enc P W' sp s.vars (s.fn H (ds++gs)).vars pv)
  (hps:before=pa++pv) (hb:Below W.heap.size W W')
  (hok:∀(j:Nat) (t:TypeId) (r:Value),f.resultTypes[j]?=some t->(v.resultList f.resultTypes.size)[j]?=some r->Value.okWide P W' .any 0 t r) :
  s.post enc P f apart fresh handsOn again W args v W':=by
 have hold:∀p∈before,(λb=>decide (b<W.heap.size)) p.block=true:=λp hp=>by simpa using hW.lt p hp
 have hlt:=hW.lt;refine⟨ds,gs,before,[],pa,pv,hW,hres _ _ _,hargs _ hold,hvars _ hold,hb.frame _,λ_=>?_⟩;obtain⟨_,_,_,_,_,hz,hn⟩:=hW;refine⟨hok,_,_,([]++pa)++pv,⟨[]++pa,pv,trodAll_append (hargs _ (λ_ _=>rfl)) (hres _ _ _),hvars _ (λ_ _=>rfl),rfl,?_,?_⟩,?_⟩
 ·intro b off hp;have hp':MemPlace.cell b off∈before:=by rw[hps];simpa using hp
  rw[hb.frozen (hlt _ hp')];exact hz b off hp'
 ·intro ha;have:=hn ha;rw[hps]at this;simpa using this
 ·intro p hp _;rw[hps];simpa using hp
theorem ZdR{P:Program}{w:World}{t:TypeId}{α:Type}[Enc α]{Ok:α->Prop}(h:QB P w t α Ok){H:Type}{enc:TypeId × Value->H}{v:Value}{d:DataW H}{p:List MemPlace}(hv:v.cells=#[v])(ht:DataW.Trod enc P w 0 (λ_=>true) true t v d p):
  ∃a:α,Ok a/\∀q,(Enc.enc a)[0]?=some q->Rel C0 S0 w q v:=by
 obtain⟨fuel,hf⟩:=ht;obtain⟨a,ha,hr⟩:=h H enc fuel _ _ hf;refine⟨a,ha,λq hq=>?_⟩;rw[hv]at hr;exact hr.2.2 0 q v hq rfl
end Go.Proofs.YtcocagkbfpgmiaaGreatDoor.Pv
namespace Go.Proofs.YtcocagkbfpgmiaaGreatDoor
open Go Go.ChangeShapes Go.WideShapes Go.ChangeAt Go.RowKit Pv
theorem Zjx:ownKnob prog.godebug=none:=DE
theorem Zjy:laidOutB prog=true:=DE
theorem Zjz{f:FuncId}{args:List Pv.PV}(h:Pv.Pure prog f args (Pv.B true)){W:World}{vs:Array Value}(hl:args.length=vs.size)(hr:∀(i:Nat) (c:Pv.PV) (v:Value),args[i]?=some c->vs[i]?=some v->Pv.Rel Pv.C0 Pv.S0 W c v):
  Calls prog f vs W λe W'=>e=.returned (.bool true)/\Below W.heap.size W W':=by
 refine((h Pv.S0).2 Pv.C0 W vs (Pv.sim0 W) hl hr).mono ?_;rintro e W' ⟨p,v,S',C',rfl,⟨rfl,rfl⟩,hrel,hs,hst⟩;cases hrel;exact⟨rfl,Zjr hst⟩
theorem ZdS{H:Type}{enc:TypeId × Value->H}{W W':World}{sp:Nat->Bool}(hb:Below W.heap.size W W'):∀(ts:List TypeId) (vs:List Value) (ds:List (DataW H)) (ps:List MemPlace),
  (∀t∈ts,prog.readableRec t=true/\t<prog.types.size)->DataW.TrodAll enc prog W 0 (λ_=>true) true ts vs ds ps->(∀p∈ps,p.block<W.heap.size)->(∀p∈ps,sp p.block=true)->DataW.TrodAll enc prog W' 0 sp true ts vs ds ps
 | [],[],[],_,_,h,_,_=>h
 | t :: ts,v :: vs,d :: ds,ps,ht,h,hlt,hsp=>by
  obtain⟨p,q,h1,h2,rfl⟩:=h;obtain⟨r1,r2⟩:=ht t DC;exact⟨p,q,WideElems.Trod_stays Zjy r1 r2 h1 (λx hx=>hb.same (hlt x (by simp[hx]))) (λx hx=>hsp x (by simp[hx])),ZdS hb ts vs ds q (λt' h'=>ht t' (by simp[h'])) h2 (λx hx=>hlt x (by simp[hx])) (λx hx=>hsp x (by simp[hx])),rfl⟩
 | [],[],_ :: _,_,_,h,_,_=>h.elim
 | [],_ :: _,_,_,_,h,_,_=>h.elim
 | _ :: _,[],_,_,_,h,_,_=>h.elim
 | _ :: _,_ :: _,[],_,_,h,_,_=>h.elim
theorem ZjA{H:Type}{enc:TypeId × Value->H}{s:ChangeSpec}{f:Func}{W W':World}{args:Array Value}{ds:List (DataW H)}{before:List MemPlace}(hvars:s.vars=[])(hrt:f.resultTypes=#[4])(hpt:∀t∈f.params.toList,prog.readableRec t=true/\t<prog.types.size)
  (hW:DataW.Whole enc prog f.params.toList s.vars false W args.toList ds [] before) (hr:(s.fn H (ds++[])).results=[.lit (.bool true)]) (ha:(s.fn H (ds++[])).args=ds) (hv:(s.fn H (ds++[])).vars=[]) (hb:Below W.heap.size W W') :
  s.post enc prog f false true false false W args (.bool true) W':=by
 have hW0:=hW;obtain⟨p,q,hA,hV,rfl,hfz,hnd⟩:=hW;rw[hvars]at hV;obtain⟨_,rfl⟩:=trodVars_none hV;have hlt:=hW0.lt;refine Zjw (pa:=p) (pv:=[]) hW0 (λb sp hd=>?_) (λsp hsp=>?_) (λsp _=>?_) rfl hb (ok_one hrt rfl (okWide_bool_mk underlying4 true))
 ·rw[hr,hrt];exact trodAll_mk1 (shut_bool underlying4 true)
 ·rw[ha];exact ZdS hb _ _ _ _ hpt hA (λx hx=>hlt x (by simp[hx])) (λx hx=>hsp x (by simp[hx]))
 ·rw[hv,hvars];rfl
end Go.Proofs.YtcocagkbfpgmiaaGreatDoor
namespace Go.Proofs.YtcocagkbfpgmiaaGreatDoor
open Go Go.ChangeShapes Go.WideShapes Go.ChangeAt Go.RowKit Pv
theorem qq{a b:Bool}(h:a=true)(k:b=true):(a && b)=true:=by rw[h,k];rfl
theorem ZjB{P:Program}{f:FuncId}{fn:Func}{s:ChangeSpec}{c:OpenClaim}
  (h1:c.wf (OpenSpec.ofChange s)=true) (h2:laidOutB P=true) (h3:mapsRowed P=true) (h4:fn.params.all (P.readableRec ·)=true) (h5:namedTie P c.named s.vars=true)
  (h6:(c.stops == [])=true) (h7:(P.stops == [])=true) (h8:(c.knobs == [])=true) (h9:(P.stopKnobs == [])=true)
  (h10:(c.inPlace == P.inPlace f)=true) (h11:(c.unfollowed == P.unfollowed f)=true) (h12:(c.recurses == P.recurses f)=true) (h13:(c.named == P.varsNamed f)=true)
  (h14:(c.maps == (fn.params.toList++s.plain.varTypes P).any (P.mapsRec ·))=true) (h15:(c.ifaces == (fn.params.toList++s.plain.varTypes P).any (P.ifacesRec ·))=true) (h16:(c.mapsOut == P.mapsAmong fn.resultTypes.toList)=true)
  (h17:(c.loops == (fn.params.toList++s.plain.varTypes P).any (P.loopsFrom ·))=true) (h18:(c.wideKeys == (fn.params.toList++s.plain.varTypes P++fn.resultTypes.toList).any (P.wideKeysFrom ·))=true)
  (h19:s.vars.all (P.varReadable ·)=true) (h20:fn.resultTypes.all (λt=>P.readableRec t && decide (t<P.types.size))=true) (h21:(c.ifacesOut == fn.resultTypes.toList.any (P.ifacesRec ·))=true) (h22:(c.loopsOut == fn.resultTypes.toList.any (P.loopsFrom ·))=true)
  (h23:(c.plainKeys == P.plainKeys)=true) (h24:c.shortTexts.isNone=true) (h25:P.stopsHeard=true) (h26:P.mayEnter=true) (h27:(c.lifted == P.liftsFinal)=true) (h28:(P.make == some c.make)=true)
  (h29:(c.kinds == (if c.domain.isEmpty then [] else fn.params.toList.map λt=>match P.underlying t with | some (.int k)=>some k | _=>none))=true) (h30:(c.pinned == c.pinnedBy)=true)
  (h31:(c.veiled == (fn.params.toList++s.plain.varTypes P++fn.resultTypes.toList).any (P.veiledRec ·))=true) (h32:c.veiledFits P fn.params.toList (fn.params.toList++s.plain.varTypes P++fn.resultTypes.toList)=true) :
  joinedFacts P f fn s c=true:=by
 exact qq (qq (qq (qq (qq (qq (qq (qq (qq (qq (qq (qq (qq (qq (qq (qq (qq (qq (qq (qq (qq (qq (qq (qq (qq (qq (qq (qq (qq (qq (qq h1 h2) h3) h4) h5) h6) h7) h8) h9) h10) h11) h12) h13) h14) h15) h16) h17) h18) h19) h20) h21) h22) h23) h24) h25) h26) h27) h28) h29) h30) h31) h32
theorem ZjC:laidOutB Tryz.pinned.checked.prog=true:=DE
theorem ZjD:mapsRowed Tryz.pinned.checked.prog=true:=DE
theorem ZjE:(Tryz.pinned.checked.prog.stops == [])=true:=DE
theorem ZjF:(Tryz.pinned.checked.prog.stopKnobs == [])=true:=DE
theorem ZjG:Tryz.pinned.checked.prog.stopsHeard=true:=DE
theorem ZjH:Tryz.pinned.checked.prog.mayEnter=true:=DE
end Go.Proofs.YtcocagkbfpgmiaaGreatDoor
namespace Go.Proofs.YtcocagkbfpgmiaaGreatDoor.Pv
open Go
theorem mixed:prog.follows .mixedOrders=true:=DE
@[simp] theorem c0:prog.cellsOf 0=1:=DE
@[simp] theorem b0:Program.bytesOf' prog 0=some 0:=DE
@[simp] theorem i0:(prog.info? 0).isSome=true:=DE
attribute [simp] underlying0
@[simp] theorem c1:prog.cellsOf 1=1:=DE
@[simp] theorem b1:Program.bytesOf' prog 1=some 8:=DE
@[simp] theorem z1:Program.zeroOf prog 1=some .nilFunc:=DE
@[simp] theorem i1:(prog.info? 1).isSome=true:=DE
attribute [simp] underlying1
@[simp] theorem c2:prog.cellsOf 2=1:=DE
@[simp] theorem b2:Program.bytesOf' prog 2=some 8:=DE
@[simp] theorem z2:Program.zeroOf prog 2=some (.int .i64 0):=DE
@[simp] theorem i2:(prog.info? 2).isSome=true:=DE
@[simp] theorem c3:prog.cellsOf 3=1:=DE
@[simp] theorem b3:Program.bytesOf' prog 3=some 8:=DE
@[simp] theorem z3:Program.zeroOf prog 3=some (.int .i64 0):=DE
@[simp] theorem i3:(prog.info? 3).isSome=true:=DE
attribute [simp] underlying3
@[simp] theorem c4:prog.cellsOf 4=1:=DE
@[simp] theorem b4:Program.bytesOf' prog 4=some 1:=DE
@[simp] theorem z4:Program.zeroOf prog 4=some (.bool false):=DE
@[simp] theorem i4:(prog.info? 4).isSome=true:=DE
attribute [simp] underlying4
@[simp] theorem c5:prog.cellsOf 5=1:=DE
@[simp] theorem b5:Program.bytesOf' prog 5=some 1:=DE
@[simp] theorem z5:Program.zeroOf prog 5=some (.int .u8 0):=DE
attribute [simp] underlying5
@[simp] theorem b6:Program.bytesOf' prog 6=some 1:=DE
@[simp] theorem q7:Wy prog 7=true:=DE
@[simp] theorem c9:prog.cellsOf 9=1:=DE
@[simp] theorem b9:Program.bytesOf' prog 9=some 16:=DE
@[simp] theorem z9:Program.zeroOf prog 9=some (.string ⟨#[]⟩):=DE
@[simp] theorem i9:(prog.info? 9).isSome=true:=DE
attribute [simp] underlying9
@[simp] theorem z20:Program.zeroOf prog 20=some .nilIface:=DE
attribute [simp] underlying20
@[simp] theorem z21:Program.zeroOf prog 21=some (.int .i32 0):=DE
attribute [simp] underlying21
@[simp] theorem c22:prog.cellsOf 22=1:=DE
@[simp] theorem z22:Program.zeroOf prog 22=some (.slice none 0 0):=DE
@[simp] theorem i22:(prog.info? 22).isSome=true:=DE
attribute [simp] underlying22
@[simp] theorem c23:prog.cellsOf 23=1:=DE
@[simp] theorem i23:(prog.info? 23).isSome=true:=DE
attribute [simp] underlying23
@[simp] theorem z24:Program.zeroOf prog 24=some (.agg #[(.int .i64 0),(.int .i64 0),(.int .i64 0),(.int .i64 0),(.slice none 0 0),(.slice none 0 0)]):=DE
@[simp] theorem c25:prog.cellsOf 25=6:=DE
@[simp] theorem z25:Program.zeroOf prog 25=some (.agg #[(.int .i64 0),(.int .i64 0),(.int .i64 0),(.int .i64 0),(.slice none 0 0),(.slice none 0 0)]):=DE
@[simp] theorem i25:(prog.info? 25).isSome=true:=DE
attribute [simp] underlying25
@[simp] theorem c26:prog.cellsOf 26=1:=DE
@[simp] theorem b26:Program.bytesOf' prog 26=some 24:=DE
@[simp] theorem z26:Program.zeroOf prog 26=some (.slice none 0 0):=DE
@[simp] theorem i26:(prog.info? 26).isSome=true:=DE
attribute [simp] underlying26
@[simp] theorem c28:prog.cellsOf 28=1:=DE
@[simp] theorem z28:Program.zeroOf prog 28=some (.slice none 0 0):=DE
@[simp] theorem i28:(prog.info? 28).isSome=true:=DE
attribute [simp] underlying28
@[simp] theorem c30:prog.cellsOf 30=1:=DE
@[simp] theorem z30:Program.zeroOf prog 30=some (.agg #[(.slice none 0 0)]):=DE
@[simp] theorem i30:(prog.info? 30).isSome=true:=DE
attribute [simp] underlying30
@[simp] theorem z31:Program.zeroOf prog 31=some (.agg #[(.int .i64 0),(.int .i64 0),(.int .i64 0),(.int .i64 0),(.slice none 0 0),(.slice none 0 0)]):=DE
@[simp] theorem c32:prog.cellsOf 32=6:=DE
@[simp] theorem z32:Program.zeroOf prog 32=some (.agg #[(.int .i64 0),(.int .i64 0),(.int .i64 0),(.int .i64 0),(.slice none 0 0),(.slice none 0 0)]):=DE
@[simp] theorem i32:(prog.info? 32).isSome=true:=DE
attribute [simp] underlying32
@[simp] theorem c36:prog.cellsOf 36=1:=DE
@[simp] theorem z36:Program.zeroOf prog 36=some .nilFunc:=DE
attribute [simp] underlying36
@[simp] theorem c37:prog.cellsOf 37=1:=DE
@[simp] theorem z37:Program.zeroOf prog 37=some (.slice none 0 0):=DE
@[simp] theorem i37:(prog.info? 37).isSome=true:=DE
attribute [simp] underlying37
@[simp] theorem c39:prog.cellsOf 39=1:=DE
@[simp] theorem b39:Program.bytesOf' prog 39=some 24:=DE
@[simp] theorem z39:Program.zeroOf prog 39=some (.agg #[(.slice none 0 0)]):=DE
@[simp] theorem i39:(prog.info? 39).isSome=true:=DE
attribute [simp] underlying39
@[simp] theorem c40:prog.cellsOf 40=1:=DE
@[simp] theorem b40:Program.bytesOf' prog 40=some 24:=DE
@[simp] theorem z40:Program.zeroOf prog 40=some (.slice none 0 0):=DE
@[simp] theorem i40:(prog.info? 40).isSome=true:=DE
attribute [simp] underlying40
@[simp] theorem c42:prog.cellsOf 42=1:=DE
@[simp] theorem b42:Program.bytesOf' prog 42=some 24:=DE
@[simp] theorem z42:Program.zeroOf prog 42=some (.agg #[(.slice none 0 0)]):=DE
@[simp] theorem i42:(prog.info? 42).isSome=true:=DE
attribute [simp] underlying42
@[simp] theorem z45:Program.zeroOf prog 45=some .nilFunc:=DE
@[simp] theorem z46:Program.zeroOf prog 46=some .nilFunc:=DE
@[simp] theorem c47:prog.cellsOf 47=1:=DE
@[simp] theorem b47:Program.bytesOf' prog 47=some 8:=DE
@[simp] theorem z47:Program.zeroOf prog 47=some (.int .i64 0):=DE
@[simp] theorem i47:(prog.info? 47).isSome=true:=DE
attribute [simp] underlying47
@[simp] theorem z50:Program.zeroOf prog 50=some .nilFunc:=DE
@[simp] theorem z51:Program.zeroOf prog 51=some .nilFunc:=DE
@[simp] theorem z53:Program.zeroOf prog 53=some .nilFunc:=DE
@[simp] theorem z55:Program.zeroOf prog 55=some .nilFunc:=DE
attribute [simp] underlying58
@[simp] theorem i64:(prog.info? 64).isSome=true:=DE
@[simp] theorem c65:prog.cellsOf 65=4:=DE
@[simp] theorem z65:Program.zeroOf prog 65=some (.agg #[(.int .i64 0),(.int .i64 0),(.int .i64 0),(.int .i64 0)]):=DE
@[simp] theorem i65:(prog.info? 65).isSome=true:=DE
attribute [simp] underlying65
@[simp] theorem z66:Program.zeroOf prog 66=some .nilFunc:=DE
@[simp] theorem c68:prog.cellsOf 68=2:=DE
@[simp] theorem z68:Program.zeroOf prog 68=some (.agg #[(.slice none 0 0),(.slice none 0 0)]):=DE
@[simp] theorem i68:(prog.info? 68).isSome=true:=DE
attribute [simp] underlying68
@[simp] theorem z70:Program.zeroOf prog 70=some .nilFunc:=DE
@[simp] theorem z72:Program.zeroOf prog 72=some .nilFunc:=DE
@[simp] theorem z75:Program.zeroOf prog 75=some .nilFunc:=DE
@[simp] theorem z76:Program.zeroOf prog 76=some .nilFunc:=DE
@[simp] theorem z77:Program.zeroOf prog 77=some .nilFunc:=DE
@[simp] theorem c78:prog.cellsOf 78=1:=DE
@[simp] theorem i78:(prog.info? 78).isSome=true:=DE
attribute [simp] underlying78
@[simp] theorem c81:prog.cellsOf 81=1:=DE
@[simp] theorem b81:Program.bytesOf' prog 81=some 24:=DE
@[simp] theorem z81:Program.zeroOf prog 81=some (.slice none 0 0):=DE
attribute [simp] underlying81
@[simp] theorem c85:prog.cellsOf 85=1:=DE
@[simp] theorem i85:(prog.info? 85).isSome=true:=DE
attribute [simp] underlying85
@[simp] theorem c87:prog.cellsOf 87=8:=DE
@[simp] theorem b87:Program.bytesOf' prog 87=some 80:=DE
@[simp] theorem z87:Program.zeroOf prog 87=some (.agg #[(.int .i64 0),(.int .i64 0),(.slice none 0 0),(.int .i64 0),(.int .i64 0),(.int .i64 0),(.int .i64 0),(.int .i64 0)]):=DE
@[simp] theorem i87:(prog.info? 87).isSome=true:=DE
attribute [simp] underlying87
@[simp] theorem z92:Program.zeroOf prog 92=some (.agg #[(.string ⟨#[]⟩),(.int .i64 0),(.int .i64 0),(.int .i64 0),(.int .i64 0),(.int .i64 0),(.int .i64 0),(.int .i64 0),(.int .i64 0),(.slice none 0 0),(.slice none 0 0),(.int .i64 0),(.int .i64 0),(.int .i64 0),(.int .i64 0),(.slice none 0 0),(.slice none 0 0)]):=DE
attribute [simp] underlying92
@[simp] theorem c93:prog.cellsOf 93=1:=DE
@[simp] theorem z93:Program.zeroOf prog 93=some .nilFunc:=DE
attribute [simp] underlying93
attribute [simp] underlying94
@[simp] theorem c98:prog.cellsOf 98=1:=DE
@[simp] theorem b98:Program.bytesOf' prog 98=some 8:=DE
@[simp] theorem z98:Program.zeroOf prog 98=some (.int .u64 0):=DE
@[simp] theorem i98:(prog.info? 98).isSome=true:=DE
attribute [simp] underlying98
@[simp] theorem ZaL:prog.cellsOf 100=2:=DE
@[simp] theorem ZdT:Program.bytesOf' prog 100=some 16:=DE
@[simp] theorem ZdU:Program.zeroOf prog 100=some (.agg #[(.int .i64 0),(.int .i64 0)]):=DE
@[simp] theorem ZaM:(prog.info? 100).isSome=true:=DE
attribute [simp] underlying100
@[simp] theorem ZuJ:prog.cellsOf 101=1:=DE
@[simp] theorem ZuK:Program.bytesOf' prog 101=some 24:=DE
@[simp] theorem ZuL:Program.zeroOf prog 101=some (.slice none 0 0):=DE
attribute [simp] underlying101
@[simp] theorem ZuM:prog.cellsOf 104=2:=DE
@[simp] theorem ZuN:Program.bytesOf' prog 104=some 16:=DE
@[simp] theorem ZuO:Program.zeroOf prog 104=some (.agg #[(.int .i64 0),(.int .i64 0)]):=DE
attribute [simp] underlying104
@[simp] theorem z105:Program.zeroOf prog 105=some .nilFunc:=DE
@[simp] theorem ZuP:prog.cellsOf 110=1:=DE
attribute [simp] underlying110
@[simp] theorem ZuQ:prog.cellsOf 111=1:=DE
attribute [simp] underlying111
@[simp] theorem ZuR:prog.cellsOf 113=2:=DE
@[simp] theorem ZuS:Program.zeroOf prog 113=some (.agg #[(.pointer none),(.slice none 0 0)]):=DE
attribute [simp] underlying113
attribute [simp] underlying115
attribute [simp] underlying116
@[simp] theorem z119:Program.zeroOf prog 119=some .nilFunc:=DE
attribute [simp] underlying124
@[simp] theorem z127:Program.zeroOf prog 127=some .nilFunc:=DE
@[simp] theorem z131:Program.zeroOf prog 131=some .nilFunc:=DE
@[simp] theorem z138:Program.zeroOf prog 138=some .nilFunc:=DE
@[simp] theorem z139:Program.zeroOf prog 139=some .nilFunc:=DE
@[simp] theorem z146:Program.zeroOf prog 146=some .nilFunc:=DE
@[simp] theorem ZuT:Program.zeroOf prog 147=some (.agg #[(.int .i64 0),(.int .i64 0),(.int .i64 0),(.int .i64 0)]):=DE
attribute [simp] underlying147
@[simp] theorem z148:Program.zeroOf prog 148=some .nilFunc:=DE
@[simp] theorem ZuU:prog.cellsOf 159=3:=DE
@[simp] theorem ZuV:Program.zeroOf prog 159=some (.agg #[(.int .i64 0),(.int .i64 0),(.int .i64 0)]):=DE
attribute [simp] underlying159
attribute [simp] underlying161
@[simp] theorem z164:Program.zeroOf prog 164=some (.agg #[(.slice none 0 0),(.int .i64 0),(.int .i64 0),(.int .i64 0),(.int .i64 0),(.int .i64 0),(.slice none 0 0),(.slice none 0 0),(.int .i64 0),(.bool false)]):=DE
attribute [simp] underlying164
attribute [simp] underlying165
attribute [simp] underlying167
@[simp] theorem ZuW:prog.cellsOf 171=8:=DE
@[simp] theorem ZuX:Program.zeroOf prog 171=some (.agg #[(.int .i64 0),(.int .i64 0),(.int .i64 0),(.int .i64 0),(.slice none 0 0),(.slice none 0 0),(.slice none 0 0),(.int .i64 0)]):=DE
attribute [simp] underlying171
@[simp] theorem ZuY:Program.zeroOf prog 179=some (.agg #[(.int .u64 0)]):=DE
attribute [simp] underlying179
@[simp] theorem z182:Program.zeroOf prog 182=some (.agg #[(.int .i64 0),(.int .i64 0),(.int .i64 0),(.int .i64 0),(.slice none 0 0),(.slice none 0 0),(.slice none 0 0),(.slice none 0 0),(.slice none 0 0)]):=DE
attribute [simp] underlying182
@[simp] theorem z183:Program.zeroOf prog 183=some .nilFunc:=DE
attribute [simp] underlying191
attribute [simp] underlying202
@[simp] theorem ZuZ:prog.cellsOf 205=1:=DE
@[simp] theorem Zu0:Program.zeroOf prog 205=some .nilFunc:=DE
attribute [simp] underlying205
@[simp] theorem Zu1:prog.cellsOf 207=9:=DE
@[simp] theorem Zu2:Program.zeroOf prog 207=some (.agg #[(.int .i64 0),(.int .i64 0),(.slice none 0 0),(.int .i64 0),(.int .i64 0),(.int .i64 0),(.int .i64 0),(.int .i64 0),(.int .i64 0)]):=DE
attribute [simp] underlying207
@[simp] theorem Zu3:Program.zeroOf prog 214=some .nilFunc:=DE
attribute [simp] underlying215
@[simp] theorem z218:Program.zeroOf prog 218=some .nilFunc:=DE
attribute [simp] underlying219
@[simp] theorem z222:Program.zeroOf prog 222=some (.agg #[(.int .i64 0),(.int .i64 0),(.int .i64 0),(.int .i64 0),(.slice none 0 0),(.slice none 0 0),(.slice none 0 0)]):=DE
@[simp] theorem Zu4:Program.zeroOf prog 223=some (.agg #[(.int .i64 0),(.int .i64 0),(.int .i64 0),(.int .i64 0),(.slice none 0 0),(.slice none 0 0),(.slice none 0 0)]):=DE
attribute [simp] underlying223
@[simp] theorem z228:Program.zeroOf prog 228=some (.int .u64 0):=DE
attribute [simp] underlying228
@[simp] theorem Zu5:prog.cellsOf 232=1:=DE
@[simp] theorem Zu6:(prog.info? 232).isSome=true:=DE
attribute [simp] underlying232
@[simp] theorem Zu7:prog.cellsOf 233=1:=DE
@[simp] theorem Zu8:(prog.info? 233).isSome=true:=DE
attribute [simp] underlying233
@[simp] theorem Zu9:Program.zeroOf prog 235=some (.agg #[(.int .i64 0),(.int .i64 0),(.int .i64 0),(.int .i64 0),(.slice none 0 0),(.slice none 0 0),(.slice none 0 0),(.int .i64 0),(.slice none 0 0),(.slice none 0 0),(.slice none 0 0)]):=DE
attribute [simp] underlying235
@[simp] theorem Zva:Program.zeroOf prog 245=some (.agg #[(.int .i64 0),(.int .i64 0),(.int .i64 0),(.int .i64 0),(.slice none 0 0),(.slice none 0 0),(.slice none 0 0),(.int .i64 0),(.int .i64 0),(.int .i64 0),(.int .i64 0)]):=DE
attribute [simp] underlying245
attribute [simp] underlying246
attribute [simp] underlying257
attribute [simp] underlying261
@[simp] theorem Zvb:prog.cellsOf 263=1:=DE
@[simp] theorem Zvc:(prog.info? 263).isSome=true:=DE
attribute [simp] underlying263
@[simp] theorem Zvd:prog.cellsOf 265=2:=DE
@[simp] theorem Zve:Program.zeroOf prog 265=some (.agg #[.nilFunc,(.int .i64 0)]):=DE
attribute [simp] underlying265
@[simp] theorem Zvf:Program.zeroOf prog 267=some (.agg #[(.int .i64 0),(.int .i64 0),(.int .i64 0),(.int .i64 0),(.slice none 0 0),(.slice none 0 0),(.slice none 0 0)]):=DE
attribute [simp] underlying267
attribute [simp] underlying293
attribute [simp] underlying294
attribute [simp] underlying296
attribute [simp] underlying307
attribute [simp] underlying310
attribute [simp] underlying311
@[simp] theorem Zvg:prog.cellsOf 324=3:=DE
@[simp] theorem Zvh:Wy prog 324=true:=DE
@[simp] theorem Zvi:Program.zeroOf prog 324=some (.agg #[(.bool false),(.int .i64 0),(.int .i64 0)]):=DE
attribute [simp] underlying324
attribute [simp] underlying325
@[simp] theorem Zvj:prog.cellsOf 339=5:=DE
@[simp] theorem Zvk:Program.zeroOf prog 339=some (.agg #[(.int .i64 0),(.int .i64 0),(.int .i64 0),(.int .i64 0),(.int .i64 0)]):=DE
@[simp] theorem Zvl:(prog.info? 339).isSome=true:=DE
attribute [simp] underlying339
attribute [simp] underlying345
@[simp] theorem Zvm:prog.cellsOf 352=1:=DE
@[simp] theorem Zvn:Program.zeroOf prog 352=some .nilFunc:=DE
attribute [simp] underlying352
@[simp] theorem Zvo:prog.cellsOf 354=1:=DE
@[simp] theorem Zvp:Program.zeroOf prog 354=some .nilFunc:=DE
attribute [simp] underlying354
@[simp] theorem Zvq:prog.cellsOf 358=1:=DE
@[simp] theorem Zvr:Program.zeroOf prog 358=some (.slice none 0 0):=DE
attribute [simp] underlying358
@[simp] theorem Zvs:prog.cellsOf 363=1:=DE
@[simp] theorem Zvt:Program.zeroOf prog 363=some (.pointer none):=DE
attribute [simp] underlying363
@[simp] theorem Zvu:prog.cellsOf 369=4:=DE
@[simp] theorem Zvv:Program.zeroOf prog 369=some (.agg #[(.int .i64 0),(.int .i64 0),(.int .i64 0),(.bool false)]):=DE
@[simp] theorem Zvw:(prog.info? 369).isSome=true:=DE
attribute [simp] underlying369
@[simp] theorem Zvx:prog.cellsOf 371=20:=DE
@[simp] theorem Zvy:Program.zeroOf prog 371=some (.agg #[(.int .i64 0),(.int .i64 0),(.int .i64 0),(.bool false),(.int .i64 0),(.int .i64 0),(.int .i64 0),(.bool false),(.int .i64 0),(.int .i64 0),(.int .i64 0),(.bool false),(.int .i64 0),(.int .i64 0),(.int .i64 0),(.bool false),(.int .i64 0),(.int .i64 0),(.int .i64 0),(.bool false)]):=DE
attribute [simp] underlying371
attribute [simp] underlying377
attribute [simp] underlying379
attribute [simp] underlying380
attribute [simp] underlying381
@[simp] theorem Zvz:prog.cellsOf 383=1:=DE
@[simp] theorem ZvA:Program.zeroOf prog 383=some (.pointer none):=DE
attribute [simp] underlying383
@[simp] theorem ZvB:prog.cellsOf 384=1:=DE
@[simp] theorem ZvC:(prog.info? 384).isSome=true:=DE
attribute [simp] underlying384
@[simp] theorem ZvD:prog.cellsOf 385=1:=DE
@[simp] theorem ZvE:(prog.info? 385).isSome=true:=DE
attribute [simp] underlying385
@[simp] theorem ZvF:Program.zeroOf prog 387=some (.agg #[(.int .i64 0),(.int .i64 0),(.int .i64 0),(.int .i64 0),(.slice none 0 0),(.slice none 0 0),(.slice none 0 0),(.int .i64 0),(.map none)]):=DE
attribute [simp] underlying387
@[simp] theorem ZvG:prog.cellsOf 392=3:=DE
@[simp] theorem ZvH:Program.bytesOf' prog 392=some 24:=DE
@[simp] theorem ZvI:Program.zeroOf prog 392=some (.agg #[(.int .i64 0),(.int .i64 0),(.int .i64 0)]):=DE
attribute [simp] underlying392
@[simp] theorem ZvJ:prog.cellsOf 395=13:=DE
@[simp] theorem ZvK:Program.zeroOf prog 395=some (.agg #[(.int .i64 0),(.int .i64 0),(.int .i64 0),(.int .i64 0),(.slice none 0 0),(.slice none 0 0),(.slice none 0 0),(.slice none 0 0),(.bool false),(.slice none 0 0),(.int .i64 0),(.slice none 0 0),(.slice none 0 0)]):=DE
attribute [simp] underlying395
@[simp] theorem ZvL:prog.cellsOf 400=3:=DE
@[simp] theorem ZvM:Program.zeroOf prog 400=some (.agg #[(.int .i64 0),(.int .i64 0),(.int .i64 0)]):=DE
attribute [simp] underlying400
@[simp] theorem ZvN:prog.cellsOf 406=1:=DE
@[simp] theorem ZvO:(prog.info? 406).isSome=true:=DE
attribute [simp] underlying406
@[simp] theorem ZvP:Program.zeroOf prog 408=some (.agg #[(.int .i64 0),(.int .i64 0),(.int .i64 0),(.int .i64 0),(.slice none 0 0),(.slice none 0 0),(.slice none 0 0),(.slice none 0 0)]):=DE
attribute [simp] underlying408
@[simp] theorem ZvQ:prog.cellsOf 410=4:=DE
@[simp] theorem ZvR:Program.bytesOf' prog 410=some 80:=DE
@[simp] theorem ZvS:Program.zeroOf prog 410=some (.agg #[(.slice none 0 0),(.slice none 0 0),(.slice none 0 0),(.int .i64 0)]):=DE
attribute [simp] underlying410
@[simp] theorem ZvT:prog.cellsOf 412=1:=DE
@[simp] theorem ZvU:(prog.info? 412).isSome=true:=DE
attribute [simp] underlying412
@[simp] theorem ZvV:prog.cellsOf 413=1:=DE
@[simp] theorem ZvW:(prog.info? 413).isSome=true:=DE
attribute [simp] underlying413
@[simp] theorem ZvX:prog.cellsOf 415=2:=DE
@[simp] theorem ZvY:Program.zeroOf prog 415=some (.agg #[.nilFunc,.nilFunc]):=DE
@[simp] theorem ZvZ:(prog.info? 415).isSome=true:=DE
attribute [simp] underlying415
@[simp] theorem Zv0:prog.cellsOf 416=8:=DE
@[simp] theorem Zv1:Program.zeroOf prog 416=some (.agg #[.nilFunc,.nilFunc,.nilFunc,.nilFunc,.nilFunc,.nilFunc,.nilFunc,.nilFunc]):=DE
attribute [simp] underlying416
@[simp] theorem Zv2:prog.cellsOf 420=7:=DE
@[simp] theorem Zv3:Program.zeroOf prog 420=some (.agg #[(.int .i64 0),(.int .i64 0),(.int .i64 0),(.int .i64 0),(.int .i64 0),(.int .i64 0),(.int .i64 0)]):=DE
attribute [simp] underlying420
attribute [simp] underlying427
@[simp] theorem Zv4:prog.cellsOf 429=1:=DE
@[simp] theorem Zv5:Program.bytesOf' prog 429=some 24:=DE
@[simp] theorem Zv6:Program.zeroOf prog 429=some (.slice none 0 0):=DE
attribute [simp] underlying429
@[simp] theorem Zv7:prog.cellsOf 441=1:=DE
@[simp] theorem Zv8:(prog.info? 441).isSome=true:=DE
attribute [simp] underlying441
@[simp] theorem Zv9:prog.cellsOf 443=2:=DE
@[simp] theorem Zwa:Program.zeroOf prog 443=some (.agg #[(.slice none 0 0),(.map none)]):=DE
@[simp] theorem Zwb:(prog.info? 443).isSome=true:=DE
attribute [simp] underlying443
@[simp] theorem Zwc:Program.zeroOf prog 445=some (.agg #[(.slice none 0 0),(.map none)]):=DE
attribute [simp] underlying445
attribute [simp] underlying447
@[simp] theorem Zwd:prog.cellsOf 449=2:=DE
@[simp] theorem Zwe:Program.bytesOf' prog 449=some 16:=DE
@[simp] theorem Zwf:Program.zeroOf prog 449=some (.agg #[(.int .i64 0),(.int .i64 0)]):=DE
attribute [simp] underlying449
theorem ZjI:qg prog 190:=qb func190 DE rfl
theorem ZjJ:qg prog 191:=qb func191 DE rfl
theorem ZjK:qg prog 206:=qb func206 DE rfl
theorem ZjL:qg prog 222:=qb func222 DE rfl
theorem ZjM:qg prog 348:=qb func348 DE rfl
theorem ZjN:qg prog 349:=qb func349 DE rfl
theorem ZjO:qg prog 367:=qb func367 DE rfl
theorem ZjP:qg prog 368:=qb func368 DE rfl
theorem ZjQ:qg prog 369:=qb func369 DE rfl
theorem ZdV:qg prog 377:=qb func377 DE rfl
theorem ZjR:qg prog 378:=qb func378 DE rfl
theorem ZjS:qg prog 380:=qb func380 DE rfl
theorem ZdW:qg prog 413:=qb func413 DE rfl
theorem ZaN:qg prog 414:=qb func414 DE rfl
theorem ZjT:qg prog 415:=qb func415 DE rfl
theorem ZjU:qg prog 416:=qb func416 DE rfl
theorem ZaO:qg prog 417:=qb func417 DE rfl
open Go
def qz(n i:Nat):Nat:=n / 2 ^ i % 2
def xB(n:Nat):List Int:=(List.range 64).map λi=>((qz n i:Nat):Int)
def jJ:List Int->Int
 | []=>0
 | b :: l=>2*jJ l+b
theorem WY(n:Nat):(xB n).length=64:=by simp[xB]
theorem ZdX(n i:Nat):qz n i<=1:=by unfold qz;omega
theorem ZaP(l:List Int)(h:∀b∈l,b=0\/b=1):0<=jJ l/\jJ l<2 ^ l.length:=by
 induction l with
 | nil=>simp[jJ]
 | cons b l ih =>
  obtain⟨h1,h2⟩:=ih (λc hc=>h c (by simp[hc]));have:=h b DC;simp only[jJ,Au,Int.pow_succ];omega
theorem ZdY(l:List Int)(k:Nat)(v:Int)(h:k<l.length):yd (l.flatMap Enc.enc) k [I v]=(l.set k v).flatMap Enc.enc:=by
 have e:∀l:List Int,l.flatMap Enc.enc=l.map I:=λl=>by induction l<;>simp_all
 rw[e,e,yd,List.map_set,Ax,if_pos (by simpa using h)];simp
theorem ZdZ(n:Nat):yR n (.int .i64 0)=(List.replicate n (0:Int)).flatMap Enc.enc:=by
 induction n with
 | zero=>simp
 | succ n ih=>rw[YJ,ih,Bu];simp[qZ,Value.cells]
def wX(n k:Nat):List Int:=(List.range 64).map λi=>if i<k then ((qz n i:Nat):Int) else 0
theorem ZjV(n:Nat):wX n 0=List.replicate 64 0:=by
 apply Bg
 ·simp[wX]
 ·intro i h1 h2;simp only[List.getElem_replicate];simp[wX]
theorem ZjW(n k:Nat)(h:64<=k):wX n k=xB n:=by
 apply Bg
 ·simp[wX,xB]
 ·intro i h1 h2;simp[wX]at h1;simp[wX,xB,show i<k by omega]
theorem ZjX(n k:Nat)(h:k<64):(wX n k).set k ((qz n k:Nat):Int)=wX n (k+1):=by
 apply Bg
 ·simp[wX]
 ·intro i h1 h2;rw[CN];simp only[wX,Ct,Cx];split
  ·rename_i e;subst e;simp
  ·rename_i e
   by_cases q:i<k
   ·rw[if_pos q,if_pos DB]
   ·rw[if_neg q,if_neg DB]
theorem ZjY(n k:Nat):(wX n k).length=64:=by simp[wX]
theorem ZjZ(n:Nat)(hn:n<2 ^ 64)(S:Store)(nx:Nat)(hd:zX nx S):Spec prog 92 [U n] S (λp S'=>∃v,p=.sl nx v 1 0 64/\S'=S.set nx (.cells v 3 ((xB n).flatMap Enc.enc))):=by
 refine uE hd func92 ntmps92 results92 ?_;refine DK ?_;refine DK ?_;intro v0
 repeat apply ze
 refine zg ?_;refine zn (zJ (λs:Nat × Nat=>s.1<=64) (λ(k,v)=>[(0,U (n / 2 ^ k)),(3,.sl nx v 1 0 64),(4,I k)]) (λ(k,v)=>[.cells v 3 ((wX n k).flatMap Enc.enc)]) (λs=>64-s.1) (0,v0) [] DC DC (by simp[ZjV,ZdZ]) ?_);rintro⟨k,v⟩ hk;simp only at hk ⊢
 repeat apply ze
 refine zg ?_;refine zz rfl (λhc=>?_) (λhc=>?_)
 ·simp at hc;have hc':k<64:=DB
  have hl:=ZjY n k;have hm:n / 2 ^ k<18446744073709551616:=Nat.lt_of_le_of_lt (Nat.div_le_self _ _) hn;generalize hm':n / 2 ^ k=m at *;have t1:(m:Int).tmod 2=(m:Int) % 2:=BL DB;have t2:IntKind.i64.wrap ((m:Int) % 2)=(m:Int) % 2:=wr _ DB DB;have t3:IntKind.u64.wrap ((m:Int) / 2)=(m:Int) / 2:=IntWalk.u64_in _ DB;have t7:(m:Int).tdiv 2=(m:Int) / 2:=CX DB;have t4:m % 2=qz n k:=by unfold qz;rw[hm']
  have t5:m / 2=n / 2 ^ (k+1):=by rw[<-hm',Nat.div_div_eq_div_mul,Dz]
  have t6:(m:Int) / 2=(n:Int) / 2 ^ (k+1):=by exact_mod_cast t5
  have t8:(m:Int) % 2=(qz n k:Nat):=by exact_mod_cast t4
  have hs:=ZdY (wX n k) k ((m:Int) % 2) DB;refine zk (ze (zn (ze (zi [] (yq hc t1 t2 hs hl) ?_))));refine⟨by omega,?_⟩;refine zi [] (zt t3 t7) ?_;refine zg ?_;exact zv (k+1,v) [] hc' DF (by simp[zA k (by omega),t6,t7,t3]) rfl (by simp[<-ZjX n k hc',<-t8,t1,t2,hs])
 ·simp at hc;have hk':k=64:=DB
  subst hk';refine zC (DK ?_);refine zj ⟨_,_,rfl,⟨v,rfl,rfl⟩,Qy (j:=0) hd (by simp[ZjW n 64])⟩
theorem Zj0(n:Nat)(hn:n<2 ^ 64):Pure prog 92 [U n] (L (xB n)):=by
 have:=WS 0 (λS nx hd=>ZjZ n hn S nx hd) (by simp[WY]);rw[<-WY n]at this;exact this
theorem Zj1(l:List Int)(hl:l.length=64)(h01:∀b∈l,b=0\/b=1):Pure prog 131 [L l] (.sc (.int .u64 (jJ l))):=by
 refine zx func131 ntmps131 results131 λS nx hd=>?_
 refine DK ?_;refine DK ?_
 repeat apply ze
 refine zg ?_;refine zn (zJ (λm:Nat=>m<=64) (λm=>[(0,L l),(3,.sc (.int .u64 (jJ (l.drop m)))),(4,I ((m:Int)-1))]) (λ_=>[]) (λm=>m) 64 [] DC (by simp[A7 (Co hl),jJ]) DC ?_);rintro m hm
 repeat apply ze
 refine zg ?_;refine zz rfl (λhc=>?_) (λhc=>?_)
 ·simp at hc;obtain⟨j,rfl⟩:∃j,m=j+1:=⟨m-1,by omega⟩;obtain⟨b,tl,a1,a2,a3,e0⟩:=zL rfl l j DB;have hb:=h01 b (Ab a1);have q:=ZaP (l.drop (j+1)) (λc hc=>h01 c (Cb hc));have q2:(2:Int) ^ (l.drop (j+1)).length<=9223372036854775808:=by
   have:(l.drop (j+1)).length<=63:=DF
   calc (2:Int) ^ (l.drop (j+1)).length<=2 ^ 63:=by exact_mod_cast Cd DH this
    _=9223372036854775808:=DH
  have g1:(j:Int)<l.length:=DB
  have u1:IntKind.u64.wrap (2*jJ (l.drop (j+1)))=2*jJ (l.drop (j+1)):=IntWalk.u64_in _ DB;have u2:IntKind.u64.wrap b=b:=IntWalk.u64_in _ DB;have u3:IntKind.u64.wrap (2*jJ (l.drop (j+1))+b)=jJ (l.drop j):=by rw[IntWalk.u64_in _ DB,a2];rfl
  have s1:((j:Int)+1-1)=j:=DB
  refine zk (ze (zn (zi [] (zS e0 g1 u1 u2 u3 s1) ?_)));refine zg ?_;have w1:IntKind.i64.wrap ((j:Int)-1)=(j:Int)-1:=wr _ DB DB;exact zv j [] DB DB (by simp[s1,w1]) rfl DC
 ·simp at hc;have hk':m=0:=DB
  subst hk';refine zC (DK ?_);exact zj (zm hd rfl rfl)
theorem Zj2(n d:Nat)(h:d<64):(xB n)[d]?=some ((qz n d:Nat):Int):=by simp[xB,h]
open Go
structure CustOk (c:Cust):Prop where
 kind:zW c.kind
 demand:zW c.demand
 pats:∀p∈c.pats,p<2 ^ 64
 npats:c.pats.length<=9223372036854775807
 rate:zW c.rate
 size:zW c.size
 start:zW c.start
 rule:zW c.rule
 hold:zW c.hold
open Go
def arc(x:Inst)(a b:Int):Int:=if a<0\/b<0 then 0 else ((x.dist.getD a.toNat []).getD b.toNat 0)
theorem Zd0(x:Inst)(a b:Int)(h:a<0\/b<0):arc x a b=0:=if_pos h
theorem Zj3(x:Inst)(a b:Int)(h:(x.dist.length:Int)<=a):arc x a b=0:=by
 unfold arc;split
 ·rfl
 ·have:x.dist.getD a.toNat []=[]:=by rw[Aa,Ak DB];rfl
  rw[this];rfl
theorem Zd1{x:Inst}{a:Int}{row:List Int}(hr:x.dist[a.toNat]?=some row):x.dist.getD a.toNat []=row:=by rw[Aa,hr];rfl
theorem Zj4(x:Inst)(a b:Int){row:List Int}(hr:x.dist[a.toNat]?=some row)(h:(row.length:Int)<=b):arc x a b=0:=by
 unfold arc;split
 ·rfl
 ·rw[Zd1 hr,Aa,Ak DB];rfl
theorem Zj5(x:Inst)(a b:Int){row:List Int}{d:Int}(ha:0<=a)(hb:0<=b)(hr:x.dist[a.toNat]?=some row)(h:row[b.toNat]?=some d):arc x a b=d:=by
 unfold arc;rw[if_neg DB,Zd1 hr,Aa,h];rfl
theorem wC(x:Inst)(a b:Int):Pure prog 203 [.agg (zD x),I a,I b] (I (arc x a b)):=by
 refine zx func203 ntmps203 results203 λS nx hd=>?_
 refine DK ?_;intros
 by_cases ha:a<0
 ·repeat apply ze
  refine zi [(2,9),(9,16),(13,20)] (zt ha zy) ?_;refine zo rfl (DK ?_);exact zj (zm hd rfl (by rw[Zd0 _ _ _ (.inl ha)];rfl))
 by_cases hl:(x.dist.length:Int)<=a
 ·repeat apply ze
  refine zi [(2,9),(9,16),(13,20)] (zF ha hl zy) ?_;refine zo rfl (DK ?_);exact zj (zm hd rfl (by rw[Zj3 _ _ _ hl];rfl))
 by_cases hb:b<0
 ·repeat apply ze
  refine zi [(2,9),(9,16),(13,20)] (zN ha hb hl zy) ?_;refine zo rfl (DK ?_);exact zj (zm hd rfl (by rw[Zd0 _ _ _ (.inr hb)];rfl))
 have hl':a<x.dist.length:=DB
 have ha':0<=a:=DB
 obtain⟨row,tl,a1,_,_,e0⟩:=zL rfl x.dist a.toNat DB
 by_cases hw:(row.length:Int)<=b
 ·repeat apply ze
  refine zi [(2,9),(9,16),(13,20)] (zS ha hb hl ha' hl' (zt e0 hw)) ?_;refine zo rfl (DK ?_);exact zj (zm hd rfl (by rw[Zj4 _ _ _ a1 hw];rfl))
 have hw':b<row.length:=DB
 have hb':0<=b:=DB
 obtain⟨d,tl2,b1,_,_,e1⟩:=zL rfl row b.toNat DB
 repeat apply ze
 refine zi [(2,9),(9,16),(13,20)] (zS ha hb hl ha' hl' (zt e0 hw)) ?_;refine zp rfl (zk (ze (zi [(2,9),(9,16),(13,20)] (zS ha' hl' e0 hb' hw' e1) ?_)));exact zj (zm hd rfl (by rw[Zj5 x a b ha' hb' a1 b1];rfl))
open Go
def xX(x:Inst):Int->List Int->Int
 | a,[]=>arc x a 0
 | a,c :: l=>arc x a (c+1)+xX x (c+1) l
def yE(x:Inst)(l:List Int):Int:=if l=[] then 0 else xX x 0 l
def y9(c:Int):Prop:=-4611686018427387904<=c/\c<=4611686018427387904
theorem QC{c:Int}(h:y9 c):IntKind.i64.wrap (c+1)=c+1:=wr _ (by unfold y9 at h;omega) (by unfold y9 at h;omega)
theorem Zd2(x:Inst)(l:List Int)(hl:l.length<=1048576)(hs:∀c∈l,y9 c):Pure prog 202 [.agg (zD x),L l] (I (W (yE x l))):=by
 refine zx func202 ntmps202 results202 λS nx hd=>?_
 refine DK ?_;intro v0
 repeat apply ze
 refine zg ?_;refine zz rfl (λhc=>?_) (λhc=>?_)
 ·simp at hc;subst hc;refine DK ?_;exact zj (zm hd rfl rfl)
 refine zk ?_;simp at hc;refine DK ?_
 repeat apply ze
 refine zg ?_;refine zn (zJ (λs:Nat × Int × Int × Nat=>s.1<=l.length/\s.2.1+xX x s.2.2.1 (l.drop s.1)=xX x 0 l) (λ(k,s,at',v)=>[(2,.ptr nx v 0),(5,I (W s)),(6,I at'),(12,L l),(13,I l.length),(14,I k)])
  (λ(k,s,at',v)=>[.cells v 25 (zD x)]) (λs=>l.length-s.1) (0,0,0,v0) [] DC DC DC ?_)
 rintro⟨k,s,at',v⟩ ⟨hk,ho⟩;simp only at hk ho ⊢;refine DK ?_;refine ze (zz rfl (λhq=>?_) (λhq=>?_))
 ·simp at hq;obtain⟨c,tl,a1,a2,a3,e0⟩:=zL rfl l k hq;have hw:=QC (hs c (Ab a1));rw[a2]at ho;refine zk (ze (zn (ze (zi [] (zt hq e0) ?_))));refine ze (zi [] hw ?_);refine qP [] (wC _ _ _) hw ?_;refine zi [] hw ?_;refine zg ?_;exact zv (k+1,s+arc x at' (c+1),c+1,v) [] (by simp only[xX]at ho;exact⟨by omega,by rw[<-ho];simp;omega⟩) DF (by simp[zA k (by omega),Zw,hw]) rfl DC
 ·simp at hq;refine zC (DK ?_);refine zu (wC _ _ _) ?_;rw[A7 hq]at ho;exact zj (zm hd rfl (by simp only[yE,if_neg hc,<-ho,xX,zq];simp[Zw]))
open Go
structure InstOk (x:Inst):Prop where
 days:zW x.days
 veh:zW x.veh
 cap:zW x.cap
 len:zW x.len
 ncust:x.cust.length<=9223372036854775807
 cust:∀c∈x.cust,CustOk c
 ndist:x.dist.length<=9223372036854775807
 dist:∀r∈x.dist,r.length<=9223372036854775807/\∀d∈r,zW d
open Go
instance:Enc Inst:=⟨zD,6,λ_=>rfl,λ_=>rfl⟩
open Go
theorem Zj6(w:World):QB prog w 26 (List Int) (λl=>l.length<=9223372036854775807/\∀z∈l,zW z):=Zjv underlying26 DD DH (Zjs underlying3)
open Go
abbrev yS(l:List Int):List Int:=l.mergeSort λx y=>decide (x<=y)
theorem YO(l:List Int):(yS l).length=l.length:=List.length_mergeSort l
theorem WZ(l:List Int):l.flatMap Enc.enc=l.map I:=by induction l<;>simp_all
theorem Ju(S:Store)(o:Nat)(x:Ob)(h:S o=x):S.set o x=S:=by
 funext i;simp only[Store.set];split
 ·rename_i e;rw[e,h]
 ·rfl
theorem QD{C:Ctx}{S:Store}{w:World}{x:Int}{v:Value}(h:Rel C S w (I x) v):v=.int .i64 x:=by cases h;rfl
theorem ZaQ{vs:Array Value}(h:1=vs.size):∃v,vs=#[v]:=by
 match vs,h with
 | ⟨[v]⟩,_=>exact⟨v,rfl⟩
theorem W0{S:Store}{id ver:Nat}(zs:List Int)(hid:S id=.cells ver 3 (zs.flatMap Enc.enc))(hn:zs.length<=1048576):
  Spec prog 196 [.sl id ver 1 0 zs.length] S (λp S'=>S'=S.set id (.cells ver 3 ((yS zs).flatMap Enc.enc))):=by
 refine⟨qb func196 DG rfl,?_⟩;intro C w vs hS hl hr;obtain⟨v,rfl⟩:=ZaQ hl;have hv:=hr 0 _ v rfl rfl;cases hv with
 | sl h1 h2 h3 =>
  obtain⟨a,cap,rfl,q1,q2,q3,q4⟩:=h1
  by_cases h0:zs=[]
  ·subst h0;refine(slices_Sort_int_none a cap w).mono ?_;rintro e w' ⟨rfl,rfl⟩;exact⟨.junk,_,S,C,rfl,by rw[show yS []=[] from by simp[yS]];exact(Ju S id _ hid).symm,.junk _,hS,.refl _ _ _⟩
  ·have hpos:0<zs.length:=BQ.2 h0;rcases hS.cells id ver _ _ hid with ⟨hn',hnil⟩ | ⟨b,k,c,g1,g2,g3,g4,g5,g6⟩
   ·rw[WZ]at hnil;simp at hnil;exact absurd hnil h0
   ·have ha:a=some ⟨b,0,none⟩:=by
     rcases (h3 ver (by rw[hid];rfl)).2 rfl with ⟨z1,_⟩ | ⟨b',k',a',cap',z1,z2,z3,z4⟩
     ·rw[g1]at z1;cases z1
     ·rw[g1]at z1;cases z1;cases z2;exact(z3 rfl).1
    subst ha;rw[je]at g4;have hcells:∀i,i<zs.length->c[i]?=some (.int .i64 (zs.getD i 0)):=by
     intro i hi;have hi':i<c.size:=DB
     have e1:(zs.flatMap Enc.enc)[i]?=some (I (zs.getD i 0)):=by rw[WZ];simp[hi]
     have e2:c[i]?=some c[i]:=DC
     have:=QD (g6 i _ _ e1 e2);rw[e2,this]
    have htake:c.toList.take zs.length=zs.map (Value.int .i64):=by
     apply AX;intro i
     by_cases hi:i<zs.length
     ·rw[AI hi,Array.getElem?_toList,hcells i hi];simp[hi]
     ·rw[Ak DF,Ak DF]
    refine(slices_Sort_int b 0 cap zs w (holds_of_blockI g2 htake) (qn g2) DB).mono ?_;rintro e w' ⟨rfl,n,os,rfl⟩;have hb':=heap_sortedI (n:=n) (os:=os) (yS zs).toArray g2;have hlz:=YO zs;have hcs:∀i,(Sort.putCells (Value.int .i64) 0 (yS zs).toArray c)[i]?=if i<zs.length then some (.int .i64 ((yS zs).getD i 0)) else c[i]?:=by
     intro i
     by_cases hi:i<zs.length
     ·rw[if_pos hi];have:i<c.size:=DB
      have hi2:i<(yS zs).length:=DB
      simp[Sort.putCells,hi2,this];intro h;omega
     ·rw[if_neg hi]
      by_cases hc:i<c.size
      ·have hi2:¬i<(yS zs).length:=DB
       simp[Sort.putCells,hi2,hc];intro h;omega
      ·rw[Dk (by simp[Sort.putCells];omega),Dk DB]
    obtain⟨t1,t2⟩:=hS.turn (l:=C.loc id) (ver':=ver) (cs':=(yS zs).flatMap Enc.enc) hid (Af _) (λ_=>rfl) (by rw[g1];exact⟨grownBy_sortedI (n:=n) (os:=os) (yS zs).toArray,CO _ _⟩)
     (.inr ⟨b,k,_,g1,.inr (by rw[g1];rfl),hb',by simp[Sort.putCells,g3],by rw[je,hlz];exact g4,λi z hi hz=>by
       rw[hcs]at hz;rw[je,hlz]at hi;rw[if_pos hi]at hz;cases hz;rfl,
      λi p z hp hz=>by
       rw[hcs]at hz;have hi:i<zs.length:=by
        have:=(Ac.1 hp).1;rw[je,hlz]at this;exact this
       rw[if_pos hi]at hz;cases hz;rw[WZ,Ah]at hp;have hi2:i<(yS zs).length:=DB
       rw[Ad hi2]at hp;cases hp;rw[Aa,Ad hi2];exact .sc _⟩)
    exact⟨.junk,_,_,_,rfl,rfl,.junk _,t1,t2⟩
open Go
def yo(l:List Stop):List Value:=l.flatMap λs=>[.int .i64 s.c,.int .i64 s.q]
theorem Zd3(l:List Stop):l.flatMap Enc.enc=(yo l).map PV.sc:=by
 unfold yo
 induction l<;>simp_all
theorem Jv(l:List Stop):(yo l).length=l.length*2:=by
 unfold yo
 induction l<;>grind
theorem ZaR(l m:List Stop):yo (l++m)=yo l++yo m:=by simp[yo]
theorem Zd4(l:List Stop)(i:Nat)(h:i<=l.length):(yo l).take (i*2)=yo (l.take i):=by grind[List.take_append_drop,yo,Jv]
theorem Zd5(l:List Stop)(i:Nat)(h:i<=l.length):(yo l).drop (i*2)=yo (l.drop i):=by
 conv=>lhs;rw[<-List.take_append_drop i l,ZaR]
 grind[Jv]
theorem Jw(l:List Stop):∀v∈yo l,v.oneCell'=true:=by
 intro v hv;obtain⟨s,_,hs⟩:=BY.1 hv;simp at hs;rcases hs with rfl | rfl<;>rfl
theorem Zj7{V vs cur:List Value}{i n:Nat}(hi:i<n)(hV:V.length=n*2)(hv:vs.length=2)(hc:cur.take (n*2)=V)(hl:n*2+2<=cur.length):
  ((cur.take ((i+1)*2)++V.drop (i*2)++cur.drop ((i+1)*2+(V.drop (i*2)).length)).take (i*2)++vs++(cur.take ((i+1)*2)++V.drop (i*2)++cur.drop ((i+1)*2+(V.drop (i*2)).length)).drop (i*2+2)) =
   V.take (i*2)++vs++V.drop (i*2)++cur.drop ((i+1)*2+(V.drop (i*2)).length):=by
 have h1:(cur.take ((i+1)*2)).length=i*2+2:=DF
 have h2:(cur.take ((i+1)*2)++V.drop (i*2)++cur.drop ((i+1)*2+(V.drop (i*2)).length)).take (i*2)=V.take (i*2):=by
  rw[List.append_assoc,BD DB,Du,A9 DB,<-hc,Du,A9 DB]
 simp_all
theorem Zj8{V vs ROW:List Value}{i n:Nat}(hi:i<n)(hV:V.length=n*2)(hv:vs.length=2)(hc:ROW.take (i*2)=V.take (i*2)):
  ((ROW.take (i*2)++vs++ROW.drop (i*2+2)).take ((i+1)*2)++V.drop (i*2)++(ROW.take (i*2)++vs++ROW.drop (i*2+2)).drop ((i+1)*2+(V.drop (i*2)).length)) =
   V.take (i*2)++vs++V.drop (i*2)++(ROW.take (i*2)++vs++ROW.drop (i*2+2)).drop ((i+1)*2+(V.drop (i*2)).length):=by
 have h1:(ROW.take (i*2)++vs).length=(i+1)*2:=by rw[hc];simp;omega
 grind
theorem Zd6{vs:Array Value}(h:3=vs.size):∃u v x,vs=#[u,v,x]:=by
 match vs,h with
 | ⟨[u,v,x]⟩,_=>simp
theorem ZaS{C:Ctx}{S:Store}{w:World}{R:Array Value}{V rest:List Value}(h:R.toList=V++rest)(h1:∀v∈V,v.oneCell'=true):
  (∀(i:Nat) (v:Value),i<(V.map PV.sc).length->R[i]?=some v->v.oneCell'=true)/\∀(i:Nat) (p:PV) (v:Value),(V.map PV.sc)[i]?=some p->R[i]?=some v->Rel C S w p v:=by
 have hat:∀(i:Nat) (v:Value),i<V.length->R[i]?=some v->V[i]?=some v:=by
  intro i v hi hv;rw[<-Array.getElem?_toList,h,An hi]at hv;exact hv
 refine⟨λi v hi hv=>h1 v (Ab (hat i v (by simpa using hi) hv)),λi p v hp hv=>?_⟩;rw[Ah]at hp;obtain⟨u,hu,rfl⟩:=Am.1 hp;have:=hat i v (Ac.1 hu).1 hv;rw[hu]at this;cases this;exact .sc _
theorem Zj9{S:Store}{id ver:Nat}(cs:List Stop)(i:Nat)(s:Stop)(hi:i<cs.length)(hn:cs.length<=1000000)(hid:S id=.cells ver 100 (cs.flatMap Enc.enc)):
  Spec prog 338 [.sl id ver 2 0 cs.length,I i,L [s]] S (λp S'=>p=.sl id (ver+1) 2 0 (cs.length+1)/\S'=S.set id (.cells (ver+1) 100 ((cs.take i++s :: cs.drop i).flatMap Enc.enc))):=by
 refine⟨qb func338 DG rfl,?_⟩;intro C w vs hS hl hr;obtain⟨u,v,x,rfl⟩:=Zd6 hl;obtain rfl:=QD (hr 1 _ v rfl rfl);have hu:=hr 0 _ u rfl rfl;have hx:Rel C S w (.lst 1 [I s.c,I s.q]) x:=hr 2 _ x rfl rfl;have hvl:(yo cs).length=cs.length*2:=Jv cs;rw[Zd3]at hid ⊢;obtain⟨i0,hi0⟩:=BV.1 ZaM;have hz:=ZdU;have hc:=ZaL;have hb:=ZdT;simp only[Program.zeroOf,Program.cellsOf,Program.bytesOf',hi0,Dg,A5,Option.getD_some,Option.some.injEq]at hz hc hb;cases hu with
 | sl h1 h2 h3 =>
  obtain⟨ad,cap,rfl,q1,q2,q3,q4⟩:=h1;have hloc:=(h3 ver (by rw[hid];rfl)).2 rfl;rcases hS.cells id ver _ _ hid with ⟨hno,hnil⟩ | ⟨b,k,c,g1,g2,g3,g4,g5,g6⟩
  ·have:=congrArg List.length hnil;simp[hvl]at this;exfalso;omega
  rcases hloc with ⟨z1,_⟩ | ⟨b',k',ad',cap',z1,z2,z3,z4⟩
  ·rw[g1]at z1;cases z1
  rw[g1]at z1;cases z1;cases z2;obtain⟨rfl,hcap⟩:=z3 rfl;rw[List.length_map,hvl]at g4
  -- what stands in the block
  have hcells:∀(j:Nat) v,(yo cs)[j]?=some v->c[j]?=some v:=by
   intro j v hj;have hjl:=(Ac.1 hj).1;have e2:c[j]?=some c[j]:=A4 DB;have:=g6 j (.sc v) _ (by rw[Ah,hj];rfl) e2;rw[e2];generalize c[j]=y at this;cases this;rfl
  have hcur:c.toList.take (cs.length*2)=yo cs:=by
   apply AX;intro j
   by_cases hj:j<cs.length*2
   ·rw[AI hj,Array.getElem?_toList];have e:(yo cs)[j]?=some (yo cs)[j]:=Ad DB;rw[e,hcells j _ e]
   ·rw[Ak DF,Ak DB]
  have hccell:∀(j:Nat) v,(yo cs)[j]?=some v->w.cell? ⟨b,j,none⟩=some v:=λj v hj=>by
   simp only[World.cell?,g2];exact hcells j v hj
  have hnew:yo (cs.take i++s :: cs.drop i)=(yo cs).take (i*2)++[.int .i64 s.c,.int .i64 s.q]++(yo cs).drop (i*2):=by
   rw[Zd4 cs i DB,Zd5 cs i DB,ZaR];simp[yo]
  have hnl:(yo (cs.take i++s :: cs.drop i)).length=(cs.length+1)*2:=by rw[Jv];simp;omega
  cases hx with
  | lst1 y1 y2 y3 y4 y5 y6 y7 =>
   rename_i vc vb vo cv ev fz;have y5':=y5 DC;simp only[Au,A6]at y5';have hvcell:∀(j:Nat) v,([.int .i64 s.c,.int .i64 s.q]:List Value)[j]?=some v->w.cell? ⟨vb,vo+j,none⟩=some v:=by
    intro j v hj;have hjl:=(Ac.1 hj).1;simp at hjl;simp only[World.cell?,y3];have e2:cv[vo+j]?=some (cv[vo+j]' DB):=A4 DB;have:=y7 j (.sc v) _ (by
     match j,hj with
     | 0,hj=>cases hj;rfl
     | 1,hj=>cases hj;rfl) e2
    rw[if_neg DC,e2];generalize cv[vo+j]' DB=y at this;cases this;rfl
   have hvb:vb≠b:=by
    rintro rfl;exact y4 ⟨id,k,by rw[hid];simp,g1⟩
   have newsl:∀(w':World) (b' cap':Nat),cs.length+1<=cap'->cap'<=maxLen ->
     Rel (C.at id (ver+1) (some (b',cap'*2))) (S.set id (.cells (ver+1) 100 ((yo (cs.take i++s :: cs.drop i)).map .sc))) w' (.sl id (ver+1) 2 0 (cs.length+1)) (.slice (some ⟨b',0,none⟩) (cs.length+1) cap'):=by
    intro w' b' cap' hkm hcl;refine .sl ⟨_,_,rfl,hkm,by unfold jT;omega,hcl,λ_=>⟨_,_,rfl⟩⟩ ⟨h2.1,by simp only[Ctx.at];omega⟩ λv0 hv0=>?_
    rw[q11]at hv0;cases hv0;exact⟨Af _,λ_=>.inr ⟨b',_,_,_,by simp[Ctx.at],rfl,λ_=>⟨rfl,rfl⟩,λ_=>rfl⟩⟩
   have hsv:∀v∈([.int .i64 s.c,.int .i64 s.q]:List Value),v.oneCell'=true:=by
    intro v hv;simp at hv;rcases hv with rfl | rfl<;>rfl
   by_cases hroom:cs.length+1<=cap
   ·obtain⟨R1,hR1⟩:∃R1:Array Value,R1=(c.toList.take ((i+1)*2)++(yo cs).drop (i*2)++c.toList.drop ((i+1)*2+((yo cs).drop (i*2)).length)).toArray:=⟨_,rfl⟩;obtain⟨R2,hR2⟩:∃R2:Array Value,R2=(R1.toList.take (i*2)++([.int .i64 s.c,.int .i64 s.q]:List Value)++R1.toList.drop (i*2+2)).toArray:=⟨_,rfl⟩;have hcsz:c.size=cap*2:=g3.trans hcap.symm;have hctl:c.toList.length=cap*2:=by simpa using hcsz
    have hR2l:R2.toList=yo (cs.take i++s :: cs.drop i)++c.toList.drop ((i+1)*2+((yo cs).drop (i*2)).length):=by
     rw[hR2,hR1,hnew];simp only[];exact Zj7 hi hvl rfl hcur DB
    have hR2s:R2.size=cap*2:=by
     rw[<-Array.length_toList,hR2l];simp[hnl,hvl];omega
    refine(Zie b cs.length cap i vb vo vc (yo cs) [.int .i64 s.c,.int .i64 s.q] w (by rw[hi0];simp[hc]) c g2 hcsz hi hroom (by unfold maxLen at q3;omega) DB hvl rfl hvb hccell hvcell (Jw cs) hsv ev (cv.size-1) (by unfold World.shape?;rw[y3];simp;omega) R1 R2 hR1 hR2).mono ?_;rintro e w' ⟨rfl,rfl⟩;obtain⟨r1,r2⟩:=ZaS (C:=C) (S:=S) (w:=w) hR2l (Jw _);have hb1:=setRow_heap w.drew b c R1 _ _ g2;obtain⟨t1,t2⟩:=hS.turn (l:=some (b,cap*2)) (ver':=ver+1) (cs':=(yo (cs.take i++s :: cs.drop i)).map .sc) hid DB (λh=>absurd h DB) (w':=(w.drew.setRow b R1).setRow b R2)
     (by
      rw[g1];refine⟨⟨rfl,rfl,rfl,by simp[World.setRow],λj hj hne=>?_⟩,CD _⟩;have hjb:j≠b:=λe=>hne (by rw[e];rfl)
      rw[setRow_other _ _ _ _ hjb,setRow_other _ _ _ _ hjb];rfl)
     (.inr ⟨b,cap*2,R2,rfl,.inr (by rw[g1];rfl),setRow_heap _ _ _ _ _ _ hb1,hR2s,by rw[List.length_map,hnl];omega,r1,r2⟩)
    exact⟨_,_,_,_,rfl,⟨rfl,rfl⟩,newsl _ b cap hroom q3,t1,t2⟩
   ·obtain⟨G,hG⟩:∃G,G=grownCap w (cs.length+1) cap 100:=⟨_,rfl⟩;have hGn:cs.length+1<=G:=by rw[hG];exact grownCap_ge w _ _ _
    have hGm:G<=maxLen:=by rw[hG];exact grownCap_le_maxLen w _ _ _ (by unfold maxLen;omega)
    obtain⟨ROW,hROW⟩:∃ROW:Array Value,ROW=((yo cs).take (i*2)).toArray++Builtin.zeroCells (Value.agg #[.int .i64 0,.int .i64 0]).cells (cs.length+1-i)++Builtin.zeroCells (Value.agg #[.int .i64 0,.int .i64 0]).cells (G-(cs.length+1)):=⟨_,rfl⟩;obtain⟨R1,hR1⟩:∃R1:Array Value,R1=(ROW.toList.take (i*2)++([.int .i64 s.c,.int .i64 s.q]:List Value)++ROW.toList.drop (i*2+2)).toArray:=⟨_,rfl⟩;obtain⟨R2,hR2⟩:∃R2:Array Value,R2=(R1.toList.take ((i+1)*2)++(yo cs).drop (i*2)++R1.toList.drop ((i+1)*2+((yo cs).drop (i*2)).length)).toArray:=⟨_,rfl⟩;have htl:((yo cs).take (i*2)).length=i*2:=DF
    have hROWs:ROW.size=G*2:=by
     rw[hROW];simp only[Ch,size_zeroCells,BG,htl];simp[Value.cells];omega
    have hROWt:ROW.toList.take (i*2)=(yo cs).take (i*2):=by
     rw[hROW];simp only[Array.toList_append];rw[List.append_assoc];exact List.take_left' htl
    have hR1s:R1.size=G*2:=by rw[hR1];simp;omega
    have hR2l:R2.toList=yo (cs.take i++s :: cs.drop i)++R1.toList.drop ((i+1)*2+((yo cs).drop (i*2)).length):=by
     rw[hR2,hR1,hnew];simp only[];exact Zj8 hi hvl rfl hROWt
    have hR2s:R2.size=G*2:=by
     rw[<-Array.length_toList,hR2l];simp[hnl,hvl,hR1s];omega
    refine(Zid b cs.length cap i vb vo vc (yo cs) [.int .i64 s.c,.int .i64 s.q] w i0 _ hi0 hz DB hb rfl hi q1 DB DB hvl rfl hccell hvcell (Jw cs) hsv G hG ROW hROW R1 R2 hR1 hR2).mono ?_;rintro e w' ⟨rfl,rfl⟩;obtain⟨r1,r2⟩:=ZaS (C:=C) (S:=S) (w:=w) hR2l (Jw _);have hb0:=Z3 w.drew (.cells ROW 100);have hb1:=setRow_heap (w.drew.alloc (.cells ROW 100)) w.heap.size ROW R1 _ _ hb0;obtain⟨t1,t2⟩:=hS.turn (l:=some (w.heap.size,G*2)) (ver':=ver+1) (cs':=(yo (cs.take i++s :: cs.drop i)).map .sc) hid DB (λh=>absurd h DB) (w':=((w.drew.alloc (.cells ROW 100)).setRow w.heap.size R1).drew.setRow w.heap.size R2)
     ⟨⟨rfl,rfl,rfl,by simp[World.setRow],λj hj _=>by
      rw[setRow_other _ _ _ _ DB]
      show ((w.drew.alloc (.cells ROW 100)).setRow w.heap.size R1).heap[j]?=_
      rw[setRow_other _ _ _ _ DB];exact uA w.drew _ j hj⟩,Ci (CD _)⟩
     (.inr ⟨w.heap.size,G*2,R2,rfl,.inl (Af _),setRow_heap _ _ _ _ _ _ hb1,hR2s,by rw[List.length_map,hnl];omega,r1,r2⟩)
    exact⟨_,_,_,_,rfl,⟨rfl,rfl⟩,newsl _ w.heap.size G hGn hGm,t1,t2⟩
open Go
def zY(t:List Stop):Int:=(t.map (·.q)).sum
theorem W3(t:List Stop)(s:Stop):zY (t++[s])=zY t+s.q:=by simp[zY]
theorem Zka(l:List Int)(c:Int)(h:l.Nodup)(hc:c ∉ l):(l++[c]).Nodup:=by
 rw[Db];exact⟨h,by simp,λa ha b hb e=>by simp at hb;subst hb;subst e;exact hc ha⟩
theorem Zd7{l:List Int}{i k:Nat}{c:Int}(hi:l[i]?=some c)(hk:l[k]?=some c)(h:k<i):¬l.Nodup:=by
 intro hn;have:=(List.getElem?_inj (Ac.1 hi).1 hn).1 (hi.trans hk.symm);omega
open Go
theorem Xr(t:List Stop)(ht:t.length<=1048576)(S:Store)(nx:Nat)(hd:zX nx S):Spec prog 152 [.agg [L t]] S (λp S'=>∃v,p=.sl (nx+1) v 1 0 t.length/\S'=S.set (nx+1) (.cells v 3 ((t.map (·.c)).flatMap Enc.enc))):=by
 refine uE hd func152 ntmps152 results152 ?_;refine DK ?_;intro v0;refine DK ?_;refine ze (qL 3 3 1 rfl λv1=>?_);refine DK ?_;refine zn (zJ (λs:Nat × List Int × Nat × Nat=>s.1<=t.length/\s.2.1=(t.take s.1).map (·.c)) (λ(k,out,v,v2)=>[(3,.sl (nx+1) v2 1 0 out.length),(7,L t),(8,I t.length),(9,I k)]) (λ(k,out,v,v2)=>[.cells v 42 [L t],.cells v2 3 (out.flatMap Enc.enc)]) (λs=>t.length-s.1) (0,[],v0,v1) [] DC DC DC ?_);rintro⟨k,out,v1,v2⟩ ⟨hk,ho⟩;simp only at hk ho ⊢;refine DK ?_;refine ze (zz rfl (λhc=>?_) (λhc=>?_))
 ·simp at hc;obtain⟨s,tl,a1,a2,a3,e1,e0⟩:=el 2 rfl t k hc;refine zk (ze (zn (ze (zi [] (zt hc e0) ?_))));intros;have hl:out.length=k:=by rw[ho];simp;omega
  refine zg ?_;refine⟨by omega,?_⟩;refine zg ?_;exact zv (k+1,out++[s.c],v1,v2+1) [_] (by simp[a3,ho];omega) DF (by simp[zA k (by omega)]) rfl DD
 ·simp at hc;have hk':k=t.length:=DB
  subst hk';refine zC (DK ?_);refine zj ⟨_,_,rfl,⟨v2,by simp[ho],rfl⟩,Qy hd (by simp[ho])⟩
theorem Zkb(t:List Stop)(ht:t.length<=1048576):Pure prog 152 [.agg [L t]] (L (t.map (·.c))):=by
 have:=WS 1 (λS nx hd=>Xr t ht S nx hd) DC;rw[<-List.length_map (f:=(·.c))]at this;exact this
theorem Zd8(t:List Stop)(ht:t.length<=1048576):Pure prog 262 [.agg [L t]] (I (W (zY t))):=by
 refine zx func262 ntmps262 results262 λS nx hd=>?_
 refine DK ?_;intro v0;refine DK ?_
 repeat apply ze
 refine zg ?_;refine zn (zJ (λs:Nat × Nat=>s.1<=t.length) (λ(k,v)=>[(3,I (W (zY (t.take k)))),(7,L t),(8,I t.length),(9,I k)]) (λ(k,v)=>[.cells v 42 [L t]]) (λs=>t.length-s.1) (0,v0) [] DC (by simp[zY]) DC ?_);rintro⟨k,v1⟩ hk;simp only at hk ⊢;refine DK ?_;refine ze (zz rfl (λhc=>?_) (λhc=>?_))
 ·simp at hc;obtain⟨s,tl,a1,a2,a3,e1,e0⟩:=el 2 rfl t k hc;refine zk (ze (zn (ze (zi [] (zt hc e0) ?_))));intros;refine zg ?_;refine zg ?_;exact zv (k+1,v1) [_] hc DF (by simp[zA k (by omega),a3,W3,Zw]) rfl DD
 ·simp at hc;have hk':k=t.length:=DB
  subst hk';refine zC (DK ?_);exact zj (zm hd rfl DC)
theorem Xs(x:Inst)(t:List Stop)(ht:t.length<=1048576)(hs:∀s∈t,y9 s.c):Pure prog 159 [.agg (zD x),.agg [L t]] (I (W (yE x (t.map (·.c))))):=by
 refine zx func159 ntmps159 results159 λS nx hd=>?_
 refine DK ?_;intros;refine ze (zB none (Row.pures [0,1,2,3,4] .done) mixed trivial ?_);refine zP (Zkb _ ht) trivial ?_;refine zP (Zd2 _ _ (by simpa using ht) (by simpa using hs)) trivial ?_;exact zj (zm hd rfl rfl)
def yA(x:Inst)(d:zr):Int:=(d.map λt=>yE x (t.map (·.c))).sum
theorem Zkc(x:Inst)(d:zr)(t:zO):yA x (d++[t])=yA x d+yE x (t.map (·.c)):=by simp[yA]
structure DayOk (d:zr):Prop where
 n:d.length<=1048576
 t:∀t∈d,t.length<=1048576
 s:∀t∈d,∀s∈t,y9 s.c
theorem Jx(x:Inst)(d:zr)(hd':DayOk d):Pure prog 116 [.agg (zD x),.agg [L d]] (I (W (yA x d))):=by
 have hn:=hd'.n;refine zx func116 ntmps116 results116 λS nx hd=>?_
 refine DK ?_;intro v0 v1;refine DK ?_
 repeat apply ze
 refine zg ?_;refine zn (zJ (λs:Nat × Nat × Nat=>s.1<=d.length) (λ(k,v,v')=>[(2,.ptr nx v 0),(5,I (W (yA x (d.take k)))),(9,L d),(10,I d.length),(11,I k)]) (λ(k,v,v')=>[.cells v 25 (zD x),.cells v' 39 [L d]]) (λs=>d.length-s.1) (0,v0,v1) [] DC (by simp[yA]) DC ?_);rintro⟨k,v1,v2⟩ hk;simp only at hk ⊢;refine DK ?_;refine ze (zz rfl (λhc=>?_) (λhc=>?_))
 ·simp at hc;obtain⟨t,tl,a1,a2,a3,e0⟩:=zL rfl d k hc;have htd:=Ab a1;refine zk (ze (zn (ze (zi [] (zt hc e0) ?_))));intros;refine zg ?_;refine zu (Xs _ _ (hd'.t t htd) (hd'.s t htd)) ?_;refine zg ?_;exact zv (k+1,v1,v2) [_] hc DF (by simp[zA k (by omega),a3,Zkc,Zw,ZdI]) rfl DD
 ·simp at hc;have hk':k=d.length:=DB
  subst hk';refine zC (DK ?_);exact zj (zm hd rfl DC)
theorem Zd9(d:zr)(hn:d.length<=1048576)(hf:d.flatten.length<=1048576):Pure prog 153 [.agg [L d]] (L d.flatten):=by
 refine zx func153 ntmps153 results153 λS nx hd=>?_
 refine DK ?_;intro v0;refine DK ?_;refine ze (qL 3 100 2 rfl λv1=>?_);refine DK ?_;refine zn (zJ (λs:Nat × List Stop × Nat × Nat=>s.1<=d.length/\s.2.1=(d.take s.1).flatten) (λ(k,out,v,v2)=>[(3,.sl (nx+1) v2 2 0 out.length),(7,L d),(8,I d.length),(9,I k)]) (λ(k,out,v,v2)=>[.cells v 39 [L d],.cells v2 100 (out.flatMap Enc.enc)]) (λs=>d.length-s.1) (0,[],v0,v1) [] DC DC DC ?_);rintro⟨k,out,v1,v2⟩ ⟨hk,ho⟩;simp only at hk ho ⊢;refine DK ?_;refine ze (zz rfl (λhc=>?_) (λhc=>?_))
 ·simp at hc;obtain⟨t,tl,a1,a2,a3,e0⟩:=zL rfl d k hc;refine zk (ze (zn (ze (zi [] (zt hc e0) ?_))));intros;have hl:out.length+t.length<=1048576:=by
   have:(out++t).length<=d.flatten.length:=by
    have e:d.flatten=(d.take (k+1)).flatten++(d.drop (k+1)).flatten:=by rw[<-List.flatten_append,List.take_append_drop]
    rw[e,a3];simp[ho]
   simp only[Aq]at this;omega
  refine zg ?_;refine⟨by omega,?_⟩;refine zg ?_;exact zv (k+1,out++t,v1,v2+1) [_] (by simp[a3,ho];omega) DF (by simp[zA k (by omega)]) rfl DD
 ·simp at hc;have hk':k=d.length:=DB
  subst hk';refine zC (DK ?_);refine yb 1 rfl ?_;exact zj (zm hd rfl (by simp[ho]))
open Go
def jq(x:Inst)(s:Stop):Bool:=decide (0<=s.c/\s.c<x.cust.length/\1<=s.q/\s.q<=2147483648)
def qV(x:Inst)(t:zO):Bool:=t.all (jq x) && !t.isEmpty
def zV(x:Inst)(t:zO):Int :=
 if qV x t=false then 1 else if ¬(t.map (·.c)).Nodup then 11 else if x.cap<W (zY t) then 12 else if x.len<W (yE x (t.map (·.c))) then 13 else 0
theorem Zkd{x:Inst}{t:zO}{k:Nat}{s:Stop}(h:(t.take k).all (jq x)=true)(ht:t.take (k+1)=t.take k++[s])(hs:0<=s.c/\s.c<x.cust.length/\1<=s.q/\s.q<=2147483648):(t.take (k+1)).all (jq x)=true:=by
 rw[ht,Bv,h];simp[jq];omega
theorem Zke{x:Inst}{t:zO}(hx:x.cust.length<=1048576)(h:t.all (jq x)=true):∀s∈t,y9 s.c:=by
 intro s hs;have:=Az.1 h s hs;simp[jq]at this;unfold y9;omega
open Go
theorem Xt(l:List Int):(yS l).Pairwise (·<=·):=by
 have:=Cy (le:=λx y:Int=>decide (x<=y)) (λa b c h1 h2=>by simp at *;omega) (λa b=>by simp;omega) l;simpa using this
theorem Zea(l:List Int):(yS l).Perm l:=B5 l _
theorem ZaT(l:List Int):(yS l).Nodup<->l.Nodup:=(Zea l).nodup_iff
theorem Zeb{z:List Int}{j:Nat}{p c:Int}(hz:z.Pairwise (·<=·))(hn:(z.take (j+1)).Nodup)(h1:z.take (j+1)=z.take j++[p])(h2:z.take (j+1+1)=z.take (j+1)++[c])(hpc:p≠c):(z.take (j+1+1)).Nodup:=by
 rw[h2];refine Zka _ _ hn λhc=>?_
 have hs:(z.take (j+1+1)).Pairwise (·<=·):=hz.sublist (List.take_sublist _ _);rw[h2,h1,List.append_assoc,List.pairwise_append]at hs;rw[h1,AG]at hc;rcases hc with hc | hc
 ·have a1:=hs.2.2 c hc p DC;have a2:=(Bc.1 hs.2.1).1 c DC;omega
 ·simp at hc;exact hpc hc.symm
theorem Zec{S:Store}{id ver:Nat}(zs:List Int)(hid:S id=.cells ver 3 (zs.flatMap Enc.enc))(hn:zs.length<=1048576):
  Spec prog 151 [.sl id ver 1 0 zs.length] S (λp S'=>p=B (decide zs.Nodup)/\S'=S.set id .dead):=by
 refine yi func151 ntmps151 results151 λnx hd=>?_
 have hlt:id<nx:=by
  rcases Be id nx with h | h
  ·exact h
  ·rw[hd id h]at hid;cases hid
 refine DK ?_;refine ze (xk [] DG DG λK Gc Gh hK hGc hGh X hX0 hX=>?_);simp -implicitDefEqProofs [hX0,hX]
 try clear hX0 hX X
 refine hGc _ _ _ _ _ _ _ λhsuf=>((W0 zs (by rw[zE hlt];exact hid) hn).mono ?_).v
 rintro p _ rfl;refine⟨S.set id (.cells ver 3 ((yS zs).flatMap Enc.enc)),[],yZ _ hlt,?_⟩;clear hGc hGh;clear Gc Gh;refine xH hsuf (D:=[]) DG λGc Gh hGc hGh X hX0 hX=>?_
 simp -implicitDefEqProofs [hX0,hX];clear hX0 hX X;refine hK _ _ _ ?_;clear hK hGc hGh;clear K Gc Gh;generalize hz:yS zs=z;have hzl:zs.length=z.length:=by rw[<-hz,YO]
 have hzs:z.Pairwise (·<=·):=by rw[<-hz];exact Xt zs
 have hfin:∀o,S.set id .dead o=ext (S.set id (.cells ver 3 (z.flatMap Enc.enc))) nx [] o\/S.set id .dead o=.dead:=by
  intro o
  by_cases ho:o=id
  ·subst ho;exact .inr (q11 _ _ _)
  ·rw[q10 _ _ _ _ ho]
   by_cases h2:o<nx
   ·rw[zE h2,q10 _ _ _ _ ho];exact .inl rfl
   ·exact .inr (hd o DB)
 have hS1:(S.set id (.cells ver 3 (z.flatMap Enc.enc))) id=.cells ver 3 (z.flatMap Enc.enc):=q11 _ _ _;have hres:decide zs.Nodup=decide z.Nodup:=by rw[<-hz,decide_eq_decide,ZaT]
 rw[hres];have hzn:z.length<=1048576:=DB
 rw[hzl];generalize S.set id (.cells ver 3 (z.flatMap Enc.enc))=S1 at *;have hx1:=zE (S:=S1) (obs:=[]) hlt
 repeat apply ze
 refine zg ?_;refine zn (zJ (λj:Nat=>(j=0\/j+1<=z.length)/\(z.take (j+1)).Nodup) (λj=>[(0,.sl id ver 1 0 z.length),(3,I ((j+1:Nat):Int))]) (λ_=>[]) (λj=>z.length-j) 0 [] (by cases z<;>simp) DC DC ?_);rintro j ⟨hj,hjn⟩
 repeat apply ze
 refine zg ?_;refine zz rfl (λhc=>?_) (λhc=>?_)
 ·simp at hc;have hc':j+1<z.length:=DB
  obtain⟨c,tl1,b1,b2,b3,e1⟩:=zL rfl z (j+1) hc';obtain⟨p,tl2,d1,d2,d3,e2⟩:=zL rfl z j DB;have wj:IntKind.i64.wrap (j:Int)=j:=wr _ DB DB;have g1:(j:Int)<z.length:=DB
  have g2:(j:Int)+1<z.length:=DB
  have g3:0<=(j:Int)+1:=DB
  refine zk (ze (zn (ze (zB none (Row.pures [0,1,2,3,4,5,6,7,8,9] .done) mixed (zS hx1 hS1 wj e1 e2 (zF g1 g2 g3)) ?_))));refine zz rfl (λhq=>?_) (λhq=>?_)
  ·simp at hq;refine DK ?_;exact zj ⟨_,_,rfl,⟨by simp;exact Zd7 b1 (by rw[d1,hq]) DB,rfl⟩,hfin⟩
  ·simp at hq;refine zk (zg ?_);have w2:IntKind.i64.wrap ((j:Int)+1+1)=((j+1+1:Nat):Int):=by rw[wr _ DB DB];omega
   exact zv (j+1) [] ⟨by omega,Zeb hzs hjn d3 b3 (λe=>hq e.symm)⟩ DB (by simp[w2]) rfl DC
 ·simp at hc;refine zC (DK ?_);rw[Ae DB]at hjn;exact zj ⟨_,_,rfl,⟨by simp[hjn],rfl⟩,hfin⟩
open Go
abbrev Xu(x:Inst)(t:zO):List PV:=[I x.days,I x.veh,I x.cap,I x.len,L x.cust,L x.dist,L t]
theorem Zkf(x:Inst)(t:zO)(ht:t.length<=1048576):Pure prog 236 [.agg (Xu x t)] (B (qV x t)):=by
 have bad:∀{k:Nat} {s:Stop},t[k]?=some s->¬(0<=s.c/\s.c<x.cust.length/\1<=s.q/\s.q<=2147483648)->qV x t=false:=by
  intro k s h hb;unfold qV;have:t.all (jq x)=false:=by
   rw[Bh];exact⟨s,Ab h,by simp[jq];omega⟩
  rw[this];rfl
 refine zx func236 ntmps236 results236 λS nx hd=>?_
 refine DK ?_;intro v0
 repeat apply ze
 refine zg ?_;refine zn (zJ (λs:Nat × Nat=>s.1<=t.length/\(t.take s.1).all (jq x)=true) (λ(k,v)=>[(1,.ptr nx v 0),(7,L t),(8,I t.length),(9,I k)]) (λ(k,v)=>[.cells v 267 (Xu x t)]) (λs=>t.length-s.1) (0,v0) [] DC DC DC ?_);rintro⟨k,v0⟩ ⟨hk,ha⟩;simp only at hk ha ⊢;refine DK ?_;refine ze (zz rfl (λhc=>?_) (λhc=>?_))
 ·simp at hc;obtain⟨s,tl,a1,a2,a3,e1,e0⟩:=el 2 rfl t k hc;refine zk (ze (zn (ze (zi [] (zt hc e0) ?_))));intros
  by_cases h1:s.c<0
  ·repeat apply ze
   refine zi [(3,16)] (zt h1 zy) ?_;refine zo rfl (DK ?_);exact zj (zm hd rfl (by rw[bad a1 (by omega)];rfl))
  by_cases h2:(x.cust.length:Int)<=s.c
  ·repeat apply ze
   refine zi [(3,16)] (zF h2 h1 zy) ?_;refine zo rfl (DK ?_);exact zj (zm hd rfl (by rw[bad a1 (by omega)];rfl))
  repeat apply ze
  refine zi [(3,16)] (zt h1 h2) ?_;refine zp rfl (zk ?_)
  by_cases h3:s.q<1
  ·refine ze (zi [(3,28)] (zt h3 zy) ?_);refine zo rfl (DK ?_);exact zj (zm hd rfl (by rw[bad a1 (by omega)];rfl))
  by_cases h4:2147483648<s.q
  ·refine ze (zi [(3,28)] (zF h4 h3 zy) ?_);refine zo rfl (DK ?_);exact zj (zm hd rfl (by rw[bad a1 (by omega)];rfl))
  refine ze (zi [(3,28)] (zt h3 h4) ?_);refine zp rfl (zk (zg ?_));exact zv (k+1,v0) [_] ⟨hc,Zkd ha a3 DB⟩ DF (by simp[zA k (by omega)]) rfl DD
 ·simp at hc;have hk':k=t.length:=DB
  subst hk';rw[Ag]at ha;refine zC (DK ?_);exact zj (zm hd rfl (by cases t with | nil=>rfl | cons a t=>simp[qV,ha]))
theorem Zkg(x:Inst)(t:zO)(ht:t.length<=1048576):Pure prog 237 [.agg (Xu x t)] (B (decide (t.map (·.c)).Nodup)):=by
 refine zx func237 ntmps237 results237 λS nx hd=>?_
 refine DK ?_;intro v0;refine DK ?_;refine λhsuf=>((Xr t ht _ _ jU).mono ?_).v
 rintro _ _ ⟨v1,rfl,rfl⟩;refine⟨_,_,Jq _,jy [] Nat.add_assoc hsuf ?_⟩;rw[<-List.length_map (f:=λs:Stop=>s.c)];refine λhsuf=>((Zec _ DC (by simpa using ht)).mono ?_).v
 rintro _ _ ⟨rfl,rfl⟩;refine⟨_,_,yh _ DC DC,zQ hsuf ?_⟩;exact zj (zm hd rfl rfl)
theorem Zkh(x:Inst)(t:zO)(ht:t.length<=1048576):Pure prog 238 [.agg (Xu x t)] (B (decide (W (zY t)<=x.cap))):=by
 refine zx func238 ntmps238 results238 λS nx hd=>?_
 refine DK ?_;intro v0;refine ze (zB none (Row.pures [0,1,2,3,4,5,6,7] .done) mixed trivial ?_);refine zP (Zd8 _ ht) trivial ?_;exact zj (zm hd rfl rfl)
theorem Zki(x:Inst)(t:zO)(ht:t.length<=1048576)(hs:∀s∈t,y9 s.c):Pure prog 239 [.agg (Xu x t)] (B (decide (W (yE x (t.map (·.c)))<=x.len))):=by
 refine zx func239 ntmps239 results239 λS nx hd=>?_
 refine DK ?_;intro v0;refine ze (zB none (Row.pures [0,1,2,3,4,5,6,7,8,9] .done) mixed trivial ?_);refine zP (Xs _ _ ht hs) trivial ?_;exact zj (zm hd rfl rfl)
abbrev Zed:List PV:=[.fn (.func 236) [] [],I 1,.fn (.func 237) [] [],I 11,.fn (.func 238) [] [],I 12,.fn (.func 239) [] [],I 13]
theorem Zkj:Pure prog 195 [] (.lst 4 Zed):=by
 refine zx func195 ntmps195 results195 λS nx hd=>?_
 refine DK ?_;refine DK ?_;exact zj (zm hd rfl rfl)
theorem Xv(x:Inst)(t:zO)(hx:x.cust.length<=1048576)(ht:t.length<=1048576):Pure prog 150 [.agg (zD x),.agg [L t]] (I (zV x t)):=by
 refine zx func150 ntmps150 results150 λS nx hd=>?_
 refine DK ?_;intro v0 v1
 repeat apply ze
 refine zg ?_;refine zu Zkj ?_;refine zn (zJ (λs:Nat × Nat × Nat=>s.1<=4/\(1<=s.1->qV x t=true)/\(2<=s.1->(t.map (·.c)).Nodup)/\(3<=s.1->W (zY t)<=x.cap)/\(4<=s.1->W (yE x (t.map (·.c)))<=x.len)) (λ(k,v,v')=>[(2,.ptr nx v 0),(3,.ptr (nx+1) v' 0),(7,.lst 4 Zed),(8,I 4),(9,I k)]) (λ(k,v,v')=>[.cells v 25 (zD x),.cells v' 42 [L t]]) (λs=>4-s.1) (0,v0,v1) [] DC DC DC ?_);rintro⟨k,v0,v1⟩ ⟨hk,i1,i2,i3,i4⟩;simp only at hk i1 i2 i3 i4 ⊢;have hsm:1<=k->∀s∈t,y9 s.c:=λh=>Zke hx (by have:=i1 h;unfold qV at this;simp only[Ao]at this;exact this.1)
 match k,hk with
 | 0,_ =>
  refine DK ?_;refine ze (zo rfl (zk (ze (zn (DK ?_)))));intros;refine DK ?_;refine zu (Zkf x t ht) ?_;refine zz rfl (λh1=>?_) (λh1=>?_)
  ·simp at h1;refine DK ?_;exact zj (zm hd rfl (by simp[zV,h1]))
  ·simp at h1;refine zk (zg ?_);exact zv (1,v0,v1) [_] (by simp[h1]) DC DD rfl DD
 | 1,_ =>
  refine DK ?_;refine ze (zo rfl (zk (ze (zn (DK ?_)))));intros;refine DK ?_;refine zu (Zkg x t ht) ?_;refine zz rfl (λh1=>?_) (λh1=>?_)
  ·simp at h1;refine DK ?_;exact zj (zm hd rfl (by simp[zV,h1,i1 (by omega)]))
  ·simp at h1;refine zk (zg ?_);exact zv (2,v0,v1) [_] (by simp[h1,i1 (by omega)]) DC DD rfl DD
 | 2,_ =>
  refine DK ?_;refine ze (zo rfl (zk (ze (zn (DK ?_)))));intros;refine DK ?_;refine zu (Zkh x t ht) ?_;refine zz rfl (λh1=>?_) (λh1=>?_)
  ·simp at h1;refine DK ?_;exact zj (zm hd rfl (by simp[zV,h1,i1 (by omega),i2 (by omega)]))
  ·simp at h1;refine zk (zg ?_);exact zv (3,v0,v1) [_] (by simp[h1,i1 (by omega),i2 (by omega)]) DC DD rfl DD
 | 3,_ =>
  refine DK ?_;refine ze (zo rfl (zk (ze (zn (DK ?_)))));intros;refine DK ?_;refine zu (Zki x t ht (hsm DB)) ?_;have h3:=Dx.2 (i3 DB);refine zz rfl (λh1=>?_) (λh1=>?_)
  ·simp at h1;refine DK ?_;exact zj (zm hd rfl (by simp[zV,h1,i1 (by omega),i2 (by omega),h3]))
  ·simp at h1;refine zk (zg ?_);exact zv (4,v0,v1) [_] (by simp[h1,i1 (by omega),i2 (by omega),i3 (by omega)]) DC DD rfl DD
 | 4,_ =>
  refine DK ?_;refine ze (zp rfl (zC (DK ?_)));exact zj (zm hd rfl (by simp[zV,i1 DB,i2 DB,Dx.2 (i3 DB),Dx.2 (i4 DB)]))
end Go.Proofs.YtcocagkbfpgmiaaGreatDoor.Pv
