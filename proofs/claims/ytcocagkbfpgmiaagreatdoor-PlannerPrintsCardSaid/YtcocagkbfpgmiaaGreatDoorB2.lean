/- Part of a proof, packed. -/
import Derived.Test.YtcocagkbfpgmiaaGreatDoorB1
open Go.Proofs.Tryz
set_option maxRecDepth 100000
set_option maxHeartbeats 3200000
namespace Go.Proofs.YtcocagkbfpgmiaaGreatDoor.Pv
open Go
def PCalls(P:Program)(f:FuncId)(args:List PV)(S:Store)(Q:PV->Store->Prop):Prop :=
 ∀(C:Ctx) (w:World) (vs:Array Value),Sim C S w->args.length=vs.size->(∀(i:Nat) (c:PV) (v:Value),args[i]?=some c->vs[i]?=some v->Rel C S w c v) ->
  Calls P f vs w λe w'=>∃p v S' C',e=.returned v/\Q p S'/\Rel C' S' w' p v/\Sim C' S' w'/\Step C S w C' S' w'
theorem PCalls.mono{P:Program}{f:FuncId}{args:List PV}{S:Store}{Q Q':PV->Store->Prop}(h:PCalls P f args S Q)(a:∀p S',Q p S'->Q' p S'):PCalls P f args S Q':=by
 intro C w vs h1 h2 h3;refine(h C w vs h1 h2 h3).mono ?_
 grind
def PCallsV(P:Program)(V:Ctx->Store->World->Prop)(f:FuncId)(args:List PV)(S:Store)(Q:PV->Store->Prop):Prop :=
 ∀(C:Ctx) (w:World) (vs:Array Value),Sim C S w->V C S w->args.length=vs.size->(∀(i:Nat) (c:PV) (v:Value),args[i]?=some c->vs[i]?=some v->Rel C S w c v) ->
  Calls P f vs w λe w'=>∃p v S' C',e=.returned v/\Q p S'/\Rel C' S' w' p v/\Sim C' S' w'/\Step C S w C' S' w'
theorem PCalls.v{P:Program}{V:Ctx->Store->World->Prop}{f:FuncId}{args:List PV}{S:Store}{Q:PV->Store->Prop}(h:PCalls P f args S Q):PCallsV P V f args S Q:=λC w vs a _=>h C w vs a
theorem PCallsV.mono{P:Program}{V:Ctx->Store->World->Prop}{f:FuncId}{args:List PV}{S:Store}{Q Q':PV->Store->Prop}(h:PCallsV P V f args S Q)(b:∀p S',Q p S'->Q' p S'):PCallsV P V f args S Q':=by
 intro C w vs h1 h2 h3 a;refine(h C w vs h1 h2 h3 a).mono ?_
 grind
def qC(P:Program)(f:FuncId):Prop:=∀(args:Array Value) (w:World),(callFunc f args).run P w=.ok (.enter f args) w
section
variable {P:Program} {r:Rd} {n N:Nat} {Q:Exit->(Nat->PV)->Store->Prop} {F:Nat->PV} {S:Store}
theorem Zb0{f:FuncId}{args:Array Value}{w:World}{R:Ending->World->Prop}(h:Calls P f args w R):CallsIn (Fe r) n P f args w R:=by
 exact(callsIn_wide (n:=n)).2 h
theorem Ze8{o:Oper}{c:Call}{x:Operand}{k:FuncId}{fs cs:List PV}{K:PV->Store->Prop}{R:PV->Store->Prop}(ho:o.op=.call c)(hc:c.callee=.value x)(hx:ev F x=.fn (.func k) fs cs)(hE:qC P k)
  (h:PCallsV P r.V k (fs++c.args.toList.map (ev F)++cs) S R) (hK:∀p S',R p S'->K p S'):PO P r n o F S K:=by
 intro G hG C w a N st next Q' q;have s:x∈o.op.operands:=by simp[ho,Op.operands,Call.operands,hc]
 have t:ev G x=.fn (.func k) fs cs:=(hG x s).trans hx;have g:∀y∈c.args.toList,ev G y=ev F y:=λy hy=>hG y (by simp_all[Op.operands,Call.operands])
 have j:c.args.toList.map (ev F)=c.args.toList.map (ev G):=AM λy hy=>(g y hy).symm
 rw[j]at h;have b:=st.ev x;rw[t]at b;generalize hv:a.eval x=v at b;cases b with
 | fn hf u h1 h2 =>
  rename_i fv cv;have m:(execOp a.eval o).run P w=.ok (.enter k ((fv++c.args.map a.eval)++cv)) w:=by
   unfold execOp;simp only[ho,resolve,hc,hv,Deferred.ofValue,Sem.run_bind,Sem.run_pure,An,invoke];exact hE _ w
  refine qg (x:=.enter k ((fv++c.args.map a.eval)++cv)) (w':=w) DX m ?_;rw[Oper.uponIn_enter];refine⟨λhd=>?_,?_⟩
  ·cases hd
  ·have d:=WC (l:=c.args.toList) st.ev;simp only[Array.toArray_toList]at d;have key:=h C w ((fv++c.args.map a.eval)++cv) st.sim st.v (by simp[hf,u]) (by
    intro i p v f hv
    by_cases q1:i<fs.length
    ·rw[List.append_assoc,As q1]at f;rw[Array.append_assoc,Bq DO]at hv;exact h1 i p v f hv
    ·by_cases z:i<fs.length+(c.args.toList.map (ev G)).length
     ·rw[List.append_assoc,Ak DO,As DO]at f;rw[Array.append_assoc,BQ DO,Bq (by simp at z ⊢;omega)]at hv;rw[<-hf]at hv;exact d.2 _ p v f hv
     ·rw[Ak (by simp at z ⊢;omega),Am]at f;rw[BQ (by simp at z ⊢;omega),Cn]at hv;have e:fs.length+(c.args.toList.map (ev G)).length=fv.size+(c.args.map a.eval).size:=by simp[hf]
      rw[<-e]at hv;exact h2 _ p v f hv)
   refine(Zb0 key).mono ?_
   grind
theorem QH{o:Oper}{c:Call}{x:Operand}{k:FuncId}{fs cs:List PV}{K:PV->Store->Prop}{R:PV->Store->Prop}(ho:o.op=.call c)(hc:c.callee=.value x)(hx:ev F x=.fn (.func k) fs cs)(a:qC P k)
  (h:PCalls P k (fs++c.args.toList.map (ev F)++cs) S R) (b:∀p S',R p S'->K p S'):PO P r n o F S K :=
 Ze8 ho hc hx a h.v b
def uW(args:List PV):Nat->PV:=λi=>args.getD i (.sc undef)
def wT(P:Program)(F:Nat->PV)(S:Store):List ResultVar->Option (List PV)
 | []=>some []
 | .tmp t :: rs=>(wT P F S rs).map (F t :: ·)
 | .cell a t :: rs =>
  match ZN P t S (F a) with
  | some p=>(wT P F S rs).map (p :: ·)
  | none=>none
def zr:List PV->PV
 | [p]=>p
 | ps=>.tup ps
def ZO(P:Program)(rs:List ResultVar)(Q:PV->Store->Prop):Exit->(Nat->PV)->Store->Prop
 | .normal,F,S=>∃ps S',wT P F S rs=some ps/\Q (zr ps) S'/\∀o,S' o=S o\/S' o=.dead
 | .ret,F,S=>∃ps S',wT P F S rs=some ps/\Q (zr ps) S'/\∀o,S' o=S o\/S' o=.dead
 | _,_,_=>False
def WH(a:Act)(x:ResultVar):Sem Value :=
 match x with
 | .tmp t=>pure (a.tmps.getD t undef)
 | .cell x t=>do loadVar t (<-asAddr (a.tmps.getD x undef))
theorem Zlb{C:Ctx}{w:World}{a:Act}(st:St r C S w N F a):∀(rs:List ResultVar) (ps:List PV),wT P F S rs=some ps ->
  ∃vs:List Value,(rs.mapM (WH a)).run P w=.ok vs w/\ps.length=vs.length /\
   ∀(i:Nat) (p:PV) (v:Value),ps[i]?=some p->vs[i]?=some v->Rel C S w p v:=by
 intro rs
 induction rs with
 | nil=>intro ps h;cases h;simp
 | cons x rs k =>
  intro ps h;cases x with
  | tmp t =>
   simp only[wT]at h;obtain⟨f,g,rfl⟩:=Ap.1 h;obtain⟨vs,h1,h2,h3⟩:=k f g;refine⟨a.tmps.getD t undef :: vs,?_,by simp[h2],?_⟩
   ·simp_all[WH]
   ·intro i p v l hv;cases i with
    | zero=>simp only[Bd,Option.some.injEq]at l hv;subst l;subst hv;exact st.fr t
    | succ i=>grind
  | cell y t =>
   simp only[wT]at h;split at h
   ·rename_i s b;obtain⟨f,g,rfl⟩:=Ap.1 h;obtain⟨vs,h1,h2,h3⟩:=k f g;obtain⟨u,o,m⟩:=ZeZ b st.sim (st.fr y);have c:∃n,a.tmps.getD y undef=.pointer (some n):=by
     have d:=st.fr y;generalize a.tmps.getD y undef=u0 at d;unfold ZN at b;split at b
     ·rename_i e;rw[e]at d;cases d with | ptr q=>exact q
     ·rename_i e;rw[e]at d;cases d with | ip=>exact⟨_,rfl⟩
     ·cases b
    obtain⟨n,j⟩:=c;rw[j]at o;refine⟨u :: vs,?_,by simp[h2],?_⟩<;>grind[Instr.loadAt,Instr.sureAddr,Sem.run_bind,Sem.run_pure,Result.andThen_ok,WH,asAddr]
   ·cases h
theorem Zlc{C:Ctx}{w:World}{a:Act}(st:St r C S w N F a){fn:Func}{rs:List ResultVar}(b:fn.results.toList=rs){ps:List PV}(h:wT P F S rs=some ps):
  ∃v,(results fn a.tmps).run P w=.ok v w/\Rel C S w (zr ps) v:=by
 obtain⟨vs,h1,h2,h3⟩:=Zlb (P:=P) st rs ps h;have hm:(fn.results.mapM (WH a)).run P w=.ok vs.toArray w:=by
  rw[<-Array.toArray_toList (xs:=fn.results),List.mapM_toArray,b];simp only[Sem.run_map,h1,An]
 have e:∀g:ResultVar->Sem Value,g=WH a->(fn.results.mapM g).run P w=.ok vs.toArray w:=by rintro g rfl;exact hm
 unfold results;rw[Sem.run_bind,e _ (by funext x;cases x<;>rfl)];simp only[An,Sem.run_pure];refine⟨_,rfl,?_⟩
 match vs,ps,h2 with
 | [v],[p],_=>exact h3 0 p v rfl rfl
 | [],[],_=>exact .tup rfl DP
 | v :: d :: vs,p :: f :: ps,h2 =>
  simp only[BP,Ae];rw[dif_neg DO];exact .tup DO (λi c v hc hv=>h3 i c v hc (by simpa using hv))
theorem Ze9{w:World}{D:Nat}(a:w.heap[D]?=some (.deferred (some [])))(b:Nat)(o:Obj)(hb:w.heap[b]?=some o)(ho:∀x,o≠.deferred x):(w.putObj D (.deferred none)).heap[b]?=some o:=by grind[World.putObj_heap_other]
theorem Zfa{C:Ctx}{w:World}{D:Nat}(e:w.heap[D]?=some (.deferred (some []))){p:PV}{v:Value}(f:Rel C S w p v):Rel C S (w.putObj D (.deferred none)) p v:=by
 have c:=Ze9 e
 induction f with
 | junk v=>exact .junk v
 | sc v=>exact .sc v
 | agg hl h1 _ a=>exact .agg hl h1 a
 | tup hl _ a=>exact .tup hl a
 | lst0=>exact .lst0
 | lst1 hn hm hb b hs h1 _ a=>exact .lst1 hn hm (c _ _ hb DP) b hs h1 a
 | ip hb b hs h1 _ a=>exact .ip (c _ _ hb DP) b hs h1 a
 | nl0=>exact .nl0
 | nl hn hb b hl h1 _ a=>exact .nl hn (c _ _ hb DP) b hl h1 a
 | ptr h1 ho h=>exact .ptr h1 ho h
 | sl h1 ho h=>exact .sl h1 ho h
 | fn hf hc _ _ a d=>exact .fn hf hc a d
 | ifc _ a=>exact .ifc a
 | mp h1 ho h=>exact .mp h1 ho h
theorem Sim.take{C:Ctx}{S:Store}{w:World}(h:Sim C S w){D:Nat}(a:w.heap[D]?=some (.deferred (some [])))(hM:¬C.M S D):Sim C S (w.putObj D (.deferred none)):=by
 have f:=Ze9 a;have d:∀{p v},Rel C S w p v->Rel C S (w.putObj D (.deferred none)) p v:=λg=>Zfa a g
 refine⟨h.lt,h.clk,h.dist,?_,?_⟩
 ·intro o ver e cs hs;rcases h.cells o ver e cs hs with hn | ⟨b,k,c,h1,h2,h3,i,j,l⟩<;>grind
 ·intro o ver es hs;obtain⟨b,k,ms,cl,h1,h2,h3,i⟩:=h.maps o ver es hs
  grind
theorem Marks.take{c:Nat}{C:Ctx}{S:Store}{w:World}{D:Nat}:∀{ds:List Deferred},(∀d∈ds,d≠{ target:=.collected D,args:=#[] })->Marks c C S w ds->Marks c C S (w.putObj D (.deferred none)) ds
 | [],_,_=>trivial
 | d :: ds,a,⟨⟨D',h1,h2,h3,e,f⟩,h⟩=>by
  refine⟨⟨D',h1,h2,?_,e,f⟩,Marks.take (λg b=>a g (by simp[b])) h⟩
  simp_all[Br]
theorem Zld{C0:Ctx}{S0:Store}{w0:World}{fn:Func}{tmps:Array Value}{rs:List ResultVar}{Q:PV->Store->Prop}{S1:Store}{ps:List PV}(g:fn.results.toList=rs)(h1:wT P F S rs=some ps)(n:Q (zr ps) S1)(q:∀o,S1 o=S o\/S1 o=.dead):
  ∀(ds:List Deferred) (C:Ctx) (w:World),Marks w0.heap.size C S w ds->St jB C S w N F { tmps:=tmps,defers:=[] }->Step C0 S0 w0 C S w ->
   LeavesInM (Fe jB) 0 P fn tmps (λe w'=>∃p v S' C',e=.returned v/\Q p S'/\Rel C' S' w' p v/\Sim C' S' w'/\Step C0 S0 w0 C' S' w') ds .returning w:=by
 intro ds
 induction ds with
 | nil =>
  intro C w _ st step;obtain⟨v,hv,c⟩:=Zlc (a:={ tmps:=tmps,defers:=[] }) st g h1;obtain⟨k1,h⟩:=st.sim.kill q;exact⟨v,hv,_,v,S1,C,rfl,n,c.mono h,k1,step.trans h⟩
 | cons d ds r =>
  intro C w ⟨⟨D,x,l,j,s,t⟩,hm⟩ st step;refine⟨by simp,.inl ⟨D,w.putObj D (.deferred none),by rw[l],run_takeDeferred j,?_⟩⟩;have m:=qN j;have f:=st.sim.take j s;refine r C _ (Marks.take (λu k=>l ▸ t u k) hm) ⟨f,st.size,λi=>?_,trivial⟩ ?_
  ·have y:=st.fr i
   simp_all[Zfa]
  ·refine⟨step.os,step.tape,step.output,by simpa using step.size,step.next,step.clock,λb hb hM=>?_,step.vers⟩;obtain⟨k1,h⟩:=step.blocks b hb hM
   grind[World.putObj_heap_other]
theorem Zb1{V:Ctx->Store->World->Prop}{keep:∀{C C':Ctx} {S S':Store} {w w':World},Step C S w C' S' w'->V C S w->V C' S' w'}{f:FuncId}{fn:Func}{c:Code}{rs:List ResultVar}{args:List PV}{Q:PV->Store->Prop}(hf:P.funcs[f]?=some fn)(hb:fn.body=some c)(m:fn.ntmps=N)(g:fn.results.toList=rs)(j:args.length<=N)
  (h:PW P ⟨none,V,keep⟩ 0 N c (ZO P rs Q) (uW args) S):PCallsV P V f args S Q:=by
 intro C w vs q r hl t;refine(callsIn_wide (n:=0)).1 (callsIn_of_wp_marks hf hb trivial ?_ rfl);have st:St ⟨none,V,keep⟩ C S w N (uW args) { tmps:=vs++Array.replicate (fn.ntmps-vs.size) undef,defers:=[] }:=by
  refine⟨q,by simp[m];omega,λi=>?_,r⟩;unfold uW;simp only[A6,Aa]
  by_cases hi:i<args.length
  ·grind
  ·rw[Ao DO,BQ DO,Dp];split<;>exact .sc _
 refine wpIn_mono (h C w _ st) ?_;rintro e l w' ⟨F',S',C',k,b,⟨ms,s,hm⟩,d⟩;have a:(∃ps S'',wT P F' S' rs=some ps/\Q (zr ps) S''/\∀o,S'' o=S' o\/S'' o=.dead) ->
   LeavesInM (Fe jB) 0 P fn l.tmps (λe w'=>∃p v S' C',e=.returned v/\Q p S'/\Rel C' S' w' p v/\Sim C' S' w'/\Step C S w C' S' w') l.defers .returning w':=by
  rintro⟨ps,S'',h1,h2,h3⟩;rw[s,AH];exact Zld g h1 h2 h3 ms C' w' hm ⟨b.sim,b.size,b.fr,trivial⟩ d
 cases e with
 | normal=>exact a k
 | ret=>exact a k
 | _=>exact k.elim
theorem vU{f:FuncId}{fn:Func}{c:Code}{rs:List ResultVar}{args:List PV}{Q:PV->Store->Prop}(hf:P.funcs[f]?=some fn)(hb:fn.body=some c)(d:fn.ntmps=N)(b:fn.results.toList=rs)(a:args.length<=N)
  (h:PW P jB 0 N c (ZO P rs Q) (uW args) S):PCalls P f args S Q :=
 λC w vs e hl g=>Zb1 hf hb d b a h C w vs e trivial hl g
theorem Y1{c:Code}{F':Nat->PV}{S':Store}(f:∀C w a,St r C S w N F a->∃C',St r C' S' w N F' a/\Step C S w C' S' w)(h:PW P r n N c Q F' S'):PW P r n N c Q F S:=by
 intro C w a st;obtain⟨C',d,b⟩:=f C w a st;refine wpIn_mono (h C' w a d) ?_;rintro e i w' ⟨F2,S2,C2,h1,h2,h3,g⟩;exact⟨F2,S2,C2,h1,h2,h3,b.trans g⟩
theorem Zle{c:Code}{F':Nat->PV}(b:∀i,F' i=F i\/F' i=.junk)(h:PW P r n N c Q F' S):PW P r n N c Q F S :=
 Y1 (λC w a st=>⟨C,⟨st.sim,st.size,λi=>by rcases b i with e | e<;>rw[e];exact st.fr i;exact .junk _,st.v⟩,.refl _ _ _⟩) h
def Xn(P:Program)(ops:Array Oper):List Oper->(Nat->PV)->Option (Nat->PV)
 | [],F=>some F
 | o :: os,F =>
  match gd ops F o with
  | none=>none
  | some false=>Xn P ops os (yg F o.dst (.sc undef))
  | some true =>
   match vu P F o with
   | some p=>Xn P ops os (yg F o.dst p)
   | none=>none
theorem Zb2{ops:Array Oper}{K:(Nat->PV)->Store->Prop}:∀(l:List Oper) (F F':Nat->PV),Xn P ops l F=some F'->K F' S->uU P r n [] ops l F S K
 | [],F,F',h,a=>by cases h;exact a
 | o :: os,F,F',h,a=>by
  have hb:V5 [] o=false:=by unfold V5;split<;>rfl
  simp only[Xn]at h;simp only[uU];split at h
  ·cases h
  ·rename_i b;simp only[b];exact Zb2 os _ _ h a
  ·rename_i b;simp only[b,hb,AT,if_false];split at h
   ·rename_i p c;simp only[c];exact Zb2 os _ _ h a
   ·cases h
theorem qY{id:Nat}{ops:Array Oper}{F':Nat->PV}(a:vw N ops=true)(h:Xn P ops ops.toList F=some F')(b:Q .normal F' S):PW P r n N (.region id ops false) Q F S :=
 Ze0 [] a (Zb2 _ _ _ h b)
theorem qb{id:Nat}{ops:Array Oper}(H:List Nat)(a:vw N ops=true)(h:∀K:(Nat->PV)->Store->Prop,(∀F' S',Q .normal F' S'->K F' S')->uU P r n H ops ops.toList F S K):PW P r n N (.region id ops false) Q F S :=
 Ze0 H a (h _ λ_ _ h=>h)
def Jz(P:Program)(ops:Array Oper)(S:Store):List Oper->(Nat->PV)->Option (Nat->PV)
 | [],F=>some F
 | o :: os,F =>
  match gd ops F o with
  | none=>none
  | some false=>Jz P ops S os (yg F o.dst (.sc undef))
  | some true =>
   match vu P F o with
   | some p=>Jz P ops S os (yg F o.dst p)
   | none =>
    match Jy P none S F o with
    | some p=>Jz P ops S os (yg F o.dst p)
    | none=>none
theorem Zlf{id:Nat}{ops:Array Oper}{F':Nat->PV}(hm:P.follows .mixedOrders=true)(d:vw N ops=true)(e:Jw ops=true)(b:wA ops [] [] (Row.pures (List.range ops.size) .done)=true)
  (h:Jz P ops S ops.toList F=some F') (f:Q .normal F' S):PW P r n N (.region id ops true) Q F S:=by
 refine Zac none (Row.pures (List.range ops.size) .done) hm d e b ?_;have key:∀(m k:Nat) (G:Nat->PV),ops.size-k=m->Jz P ops S (ops.toList.drop k) G=some F'->PX P r n ops none S (Row.pures ((List.range ops.size).drop k) .done) G S (Q .normal):=by
  intro m
  induction m with
  | zero =>
   intro k G g a;rw[BU DT]at a ⊢;cases a;exact f
  | succ m i =>
   intro k G g a;have c:k<ops.size:=DO
   rw[ZbW k _ c];have e2:ops.toList.drop k=ops[k] :: ops.toList.drop (k+1):=by
    rw[AJ (by simpa using c)];simp
   grind[Jz,Row.pures,PX]
 exact key ops.size 0 F rfl (by simpa using h)
theorem JA{id:Nat}{ops:Array Oper}(ids:Option (List Nat))(row:Row)(hm:P.follows .mixedOrders=true)(b:vw N ops=true)(c:Jw ops=true)(a:wA ops [] [] row=true)
  (h:∀K:(Nat->PV)->Store->Prop,(∀F' S',Q .normal F' S'->K F' S')->PX P r n ops ids S row F S K):PW P r n N (.region id ops true) Q F S :=
 Zac ids row hm b c a (h _ λ_ _ h=>h)
end
open Go
section
variable {P:Program} {r:Rd} {n N:Nat} {Q:Exit->(Nat->PV)->Store->Prop} {F:Nat->PV} {S:Store}
theorem Zb3{C:Ctx}{w:World}{cs:List PV}{vs:Array Value}(h:RelL C S w cs vs):cs.length<=vs.size/\(∀(i:Nat) (v:Value),i<cs.length->vs[i]?=some v->v.oneCell'=true) /\
  ∀(i:Nat) (p:PV) (v:Value),cs[i]?=some p->vs[i]?=some v->Rel C S w p v :=
 ⟨by rw[h.1];omega,λi v _ hv=>h.2.1 i v hv,h.2.2⟩
theorem Zfb(C:Ctx)(S:Store)(w w':World)(o ver k:Nat)(x:Ob)(hx:x.ver=some ver):Rel (C.put o ver (some (w.heap.size,k))) (S.set o x) w' (.ptr o ver 0) (.pointer (some ⟨w.heap.size,0,none⟩)):=by
 refine .ptr ⟨_,rfl⟩ (by simp only[Ctx.put];omega) λv0 a=>?_
 simp_all[q11,Ctx.put]
theorem Fresh.clock(C:Ctx){S:Store}{j:Nat}(h:S j=.dead):Fresh C S j C.clock:=⟨h,.inr (Ag _)⟩
theorem Zfc{o:Oper}{t:TypeId}{z:Value}{K:PV->Store->Prop}(ho:o.op=.alloc t)(h:Program.zeroOf P t=some z)(h1:z.cells.all (·.oneCell')=true)
  (d:∀C:Ctx,S C.next=.dead->∃id v,Fresh C S id v/\K (.ptr id v 0) (S.set id (.cells v t (jI z)))):PO P r n o F S K:=by
 intro G _ C w a N st next Q' b;have e:=Zb3 (ZeU (C:=C) (S:=S) (w:=w) h1);obtain⟨id,ver,f,d⟩:=d C st.sim.free;obtain⟨k1,g⟩:=st.sim.object' f t z.cells (jI z) e.1 e.2.1 e.2.2;refine qg (x:=.value (.pointer (some ⟨w.heap.size,0,none⟩))) (w':=w.alloc (.cells z.cells t)) (by intro c hc;rw[ho]at hc;cases hc) ?_ (b _ _ _ _ _ d (Zfb C S w _ _ _ _ _ rfl) k1 g);unfold execOp
 simp_all[Instr.alloc,Ju,newVar,newRow]
theorem Zlg{o:Oper}{t:TypeId}{x:Operand}{K:PV->Store->Prop}(ho:o.op=.box t x)(hf:(ev F x).fit=true)
  (d:∀C:Ctx,S C.next=.dead->∃id v,Fresh C S id v/\K (.ptr id v 0) (S.set id (.cells v t (ev F x).cells))):PO P r n o F S K:=by
 intro G h C w a N st next Q' b;have e:ev G x=ev F x:=h x (by simp[ho,Op.operands]);rw[<-e]at hf;simp only[<-e]at d;have f:=Zb3 ((st.ev x).cells' hf);obtain⟨id,ver,g,d⟩:=d C st.sim.free;obtain⟨k1,i⟩:=st.sim.object' g t (a.eval x).cells (ev G x).cells f.1 f.2.1 f.2.2;refine qg (x:=.value (.pointer (some ⟨w.heap.size,0,none⟩))) (w':=w.alloc (.cells (a.eval x).cells t)) (by intro c hc;rw[ho]at hc;cases hc) ?_ (b _ _ _ _ _ d (Zfb C S w _ _ _ _ _ rfl) k1 i)
 simp_all[execOp,Instr.box,newVar,newRow]
theorem WI(C:Ctx)(S:Store)(w w':World)(o ver k sz m cap:Nat)(x:Ob)(hx:x.ver=some ver)(hm:m<=cap)(hM:m<=xk)(hc:cap<=maxLen)(b:cap*sz=k):
  Rel (C.put o ver (some (w.heap.size,k))) (S.set o x) w' (.sl o ver sz 0 m) (.slice (some ⟨w.heap.size,0,none⟩) m cap):=by
 refine .sl ⟨_,_,rfl,hm,hM,hc,λ_=>⟨_,_,rfl⟩⟩ (by simp only[Ctx.put];omega) λv0 a=>?_
 grind[q11,Ctx.put]
def Program.bytesOf'(P:Program)(t:TypeId):Option Nat:=(P.info? t).map (·.bytes)
theorem Zb4{t:TypeId}{b:Nat}(h:Program.bytesOf' P t=some b)(w:World):∃i,(typeInfo t).run P w=.ok i w/\i.bytes=b:=by
 unfold Program.bytesOf' at h;obtain⟨i,hi,rfl⟩:=Ap.1 h
 simp_all[typeInfo]
theorem Zlh{o:Oper}{t e:TypeId}{l c:Operand}{z:Value}{kl kc:IntKind}{a b by_:Nat}{K:PV->Store->Prop}(ho:o.op=.makeSlice t l c)(ht:P.underlying t=some (.slice e))(hl:ev F l=.sc (.int kl (a:Int)))(hc:ev F c=.sc (.int kc (b:Int)))
  (hz:Program.zeroOf P e=some z) (h1:z.cells.all (·.oneCell')=true) (k:z.cells.size=P.cellsOf e) (h0:P.cellsOf e≠0) (m:Program.bytesOf' P e=some by_) (p:a<=b) (hb:b<=140737488355328) (s:b*by_<=281474976710656)
  (u:∀C:Ctx,S C.next=.dead->∃id v,Fresh C S id v/\K (.sl id v (P.cellsOf e) 0 a) (S.set id (.cells v e (qa b z)))):PO P r n o F S K:=by
 intro G hG C w h N st next Q' d;have e1:ev G l=_:=(hG l (by simp_all[Op.operands])).trans hl;have e2:ev G c=_:=(hG c (by simp_all[Op.operands])).trans hc;have r1:=st.ev l;have r2:=st.ev c;rw[e1]at r1;rw[e2]at r2;generalize y:h.eval l=v1 at r1;generalize a0:h.eval c=v2 at r2;cases r1;cases r2;have hr:=Zb3 (ZeW (C:=C) (S:=S) (w:=w) h1 b);obtain⟨id,ver,a1,u⟩:=u C st.sim.free;obtain⟨k1,k2⟩:=st.sim.object' a1 e ((Array.range (b*z.cells.size)).map (z.cells[· % z.cells.size]!)) (qa b z) hr.1 hr.2.1 hr.2.2;obtain⟨i,hi,a2⟩:=Zb4 m w;have f:IntKind.i64.wrap (b:Int)=b:=IntWalk.i64_in _ ⟨by omega,by omega⟩;have g:IntKind.i64.wrap (a:Int)=a:=IntWalk.i64_in _ ⟨by omega,by omega⟩;refine qg (x:=.value (.slice (some ⟨w.heap.size,0,none⟩) a b)) (w':=w.alloc (.cells ((Array.range (b*z.cells.size)).map (z.cells[· % z.cells.size]!)) e)) DW ?_
  (d _ _ _ _ _ u (WI C S w _ _ _ _ _ _ _ _ rfl p (by unfold xk;omega) (by unfold maxLen;omega) DW) k1 k2)
 unfold execOp;simp only[ho,y,a0,Instr.makeSlice,Sem.run_bind,run_underlying ht,An,asInt,asIntOf,Sem.run_pure,hi,a2,g,f];have a3:(by_:Int)*(b:Int)<=281474976710656:=by
  obtain⟨q,hq⟩:∃q,b*by_=q:=⟨_,rfl⟩;have e:(by_:Int)*(b:Int)=(q:Int):=by rw[<-hq,Int.natCast_mul,Int.mul_comm]
  rw[e];rw[hq]at s;omega
 have a5:(2:Int) ^ 48=281474976710656:=rfl;have q1:decide ((b:Int)<0)=false:=decide_eq_false DO;have q2:decide ((by_:Int)*(b:Int) > 2 ^ 48)=false:=decide_eq_false DO;have q3:decide ((a:Int)<0)=false:=decide_eq_false DO;have q4:decide ((a:Int) > (b:Int))=false:=decide_eq_false DO;rw[if_neg (by rw[q1,q2,q3,q4];decide)];simp only[Sem.run_bind,run_askRoom,An,AN,vt h0]
 by_cases j:b=0
 ·subst j;simp only[CY,if_true,Sem.run_pure,An,Sem.run_bind,newRow,run_newObj,Dm,DC,DH]
 ·have a4:b*P.cellsOf e≠0:=Nat.mul_ne_zero j h0;rw[if_neg a4];simp only[Sem.run_bind,Ju hz,An,Sem.run_pure,newRow,run_newObj,DH,k]
theorem Zli{S:Store}{X:Nat->Nat->Prop}(h:∀id,S id=.dead->X id 0):∀C:Ctx,S C.next=.dead->∃id v,Fresh C S id v/\X id v:=λC a=>⟨C.next,0,⟨a,.inl (Ag _)⟩,h _ a⟩
theorem Yk{S:Store}{X:Nat->Nat->Prop}(j:Nat)(a:S j=.dead)(h:∀v,X j v):∀C:Ctx,S C.next=.dead->∃id v,Fresh C S id v/\X id v:=λC _=>⟨j,C.clock,.clock C a,h _⟩
theorem JB{o:Oper}{t:TypeId}{z:Value}{K:PV->Store->Prop}(ho:o.op=.alloc t)(a:Program.zeroOf P t=some z)(h1:z.cells.all (·.oneCell')=true)
  (b:∀id,S id=.dead->K (.ptr id 0 0) (S.set id (.cells 0 t (jI z)))):PO P r n o F S K :=
 Zfc ho a h1 (Zli (X:=λid v=>K (.ptr id v 0) (S.set id (.cells v t (jI z)))) b)
structure SrcOk (P:Program) (w:World) (sz:Nat) (x:Value) (m:Nat) (news:List Value):Prop where
 len:(Builtin.lenOf x).run P w=.ok m w
 cells:(Builtin.firstCells sz m x).run P w=.ok news.toArray w
 cells':(Builtin.firstCells sz m x).run P w.drew=.ok news.toArray w.drew
 size:news.length=m*sz
 one:∀v∈news,v.oneCell'=true
theorem Zb5{t ty e:TypeId}{x:Value}{b:Option Addr}{k cap:Nat}(c:P.underlying t=some (.slice e))(h0:P.cellsOf e≠0){w:World}(hs:SrcOk P w (P.cellsOf e) x 0 [])(d:k<=cap):
  (Builtin.append_ #[t,t] ty #[.slice b k cap,x]).run P w=.ok (.slice b k cap) w:=by
 have a:=vt h0 w;unfold Builtin.append_;simp only[AG,Bd,Bg,Sem.run_bind,run_underlying c,An,a,Sem.run_pure,AT,if_false,hs.len,By];rw[if_pos d];simp only[Di,if_true,Sem.run_bind,hs.cells,An];cases b<;>simp_all[storeCells]
theorem Zlj{t ty e:TypeId}{x:Value}{g k cap m:Nat}{news:List Value}{cur:Array Value}(f:P.underlying t=some (.slice e))(h0:P.cellsOf e≠0){w:World}(hs:SrcOk P w (P.cellsOf e) x m news)
  (h:w.heap[g]?=some (.cells cur e (0,0))) (d:k+m<=cap) (hc:cur.size=cap*P.cellsOf e) :
  (Builtin.append_ #[t,t] ty #[.slice (some ⟨g,0,none⟩) k cap,x]).run P w =
   .ok (.slice (some ⟨g,0,none⟩) (k+m) cap) (w.setRow g (cur.toList.take (k*P.cellsOf e)++news++cur.toList.drop (k*P.cellsOf e+news.length)).toArray):=by
 have c:=vt h0 w;have a:k*P.cellsOf e+0+news.length<=cur.size:=by
  rw[hs.size,hc,By,<-Nat.add_mul];exact Cl _ d
 have b:=run_storeCells_at P g (k*P.cellsOf e) e news 0 cur w h a hs.one;simp only[By]at b;unfold Builtin.append_;simp only[AG,Bd,Bg,Sem.run_bind,run_underlying f,An,c,Sem.run_pure,AT,if_false,hs.len];rw[if_pos d];simp only[Di,if_true,Sem.run_bind,hs.cells,An,Addr.add_plain,AS,b,Sem.run_pure]
theorem Zad{t ty e:TypeId}{x:Value}{b:Option Addr}{k cap m by_:Nat}{z:Value}{olds news:List Value}(l:P.underlying t=some (.slice e))(h0:P.cellsOf e≠0)(n:Program.zeroOf P e=some z)(c:Program.bytesOf' P e=some by_)
  {w:World} (hs:SrcOk P w (P.cellsOf e) x m news) (hold:(Builtin.firstCells (P.cellsOf e) k (.slice b k cap)).run P w.drew=.ok olds.toArray w.drew) (o:cap<k+m) (a:(k+m)*by_<=140737488355328) (p:by_≠0) :
  (Builtin.append_ #[t,t] ty #[.slice b k cap,x]).run P w =
   .ok (.slice (some ⟨w.heap.size,0,none⟩) (k+m) (grownCap w (k+m) cap e)) (w.drew.alloc (.cells (olds.toArray++news.toArray++Builtin.zeroCells z.cells (grownCap w (k+m) cap e-(k+m))) e)):=by
 have f:=vt h0 w;obtain⟨i,hi,d⟩:=Zb4 c w;obtain⟨i2,g,h⟩:=Zb4 c w.drew;have j:Builtin.nextslicecap (k+m) cap*by_<=281474976710656:=growslice_fits o a;unfold Builtin.append_;simp only[AG,Bd,Bg,Sem.run_bind,run_underlying l,An,f,Sem.run_pure,AT,if_false,hs.len];rw[if_neg DO];simp only[Sem.run_bind,hi,An,d];rw[if_neg DX];simp only[Sem.run_bind,hi,An,d];rw[if_neg DO];simp only[Sem.run_bind,run_choose,Question.forced,AT,if_false,An,World.drew_eq];rw[show (Question.appendCap (k+m) cap e).cut (w.tape w.drawn (.appendCap (k+m) cap e))=grownCap w (k+m) cap e from rfl];simp only[g,An,run_askRoom,hold,Di,if_true,hs.cells',Ju n,newRow,Sem.run_bind,run_newObj,Sem.run_pure,DH,World.size_drew]
theorem Zb6{w:World}{b k cap sz:Nat}{c:Array Value}{e:TypeId}{fz:Nat × Nat}(hb:w.heap[b]?=some (.cells c e fz))(o:Nat)(hl:o+k*sz<=c.size):
  (Builtin.firstCells sz k (.slice (some ⟨b,o,none⟩) k cap)).run P w=.ok (c.extract o (o+k*sz)) w:=by
 unfold Builtin.firstCells loadCells;have:=ZeR (P:=P) (o:=o) hb (k*sz) 0 #[] DO;simpa using this
def Yl(S:Store)(sz:Nat)(x:PV):Option (Nat × List PV) :=
 match x with
 | .lst m ds=>if ds.length=m*sz then some (m,ds) else none
 | .sl o ver sz' off m =>
  match S o with
  | .cells v _ cs=>if v=ver/\sz'=sz/\off+m*sz<=cs.length then some (m,(cs.drop off).take (m*sz)) else none
  | _=>none
 | .sc (.slice none 0 0)=>some (0,[])
 | .sc (.string s)=>if sz=1/\s.size<=9223372036854775807 then some (s.size,s.data.toList.map λb=>.sc (.int .u8 (b.toNat:Int))) else none
 | _=>none
theorem Zae{C:Ctx}{w:World}{sz m:Nat}{x:PV}{ds:List PV}{u:Value}(hS:Sim C S w)(h:Yl S sz x=some (m,ds))(z:Rel C S w x u):
  ∃news:List Value,SrcOk P w sz u m news/\RelL C S w ds news.toArray/\m<=xk:=by
 have d:∀(b o cap:Nat) (c:Array Value) (e:TypeId) (fz:Nat × Nat) (ds:List PV),w.heap[b]?=some (.cells c e fz)->ds.length=m*sz->(ds≠[]->o+ds.length<=c.size) ->
   (∀(i:Nat) (v:Value),i<ds.length->c[o+i]?=some v->v.oneCell'=true)->(∀(i:Nat) (p:PV) (v:Value),ds[i]?=some p->c[o+i]?=some v->Rel C S w p v) ->
   ∃news:List Value,SrcOk P w sz (.slice (some ⟨b,o,none⟩) m cap) m news/\RelL C S w ds news.toArray:=by
  intro b o cap c e fz ds hb hl hs h1 hr
  by_cases hd:ds=[]
  ·subst hd;have q:m*sz=0:=by simpa using hl.symm
   refine⟨[],⟨rfl,?_,?_,by simp[q],by simp⟩,by simp[RelL]⟩<;>simp_all[Builtin.firstCells,loadCells,loadCellsFrom]
  ·have j:=hs hd;rw[hl]at j;have a1:w.drew.heap[b]?=some (.cells c e fz):=hb;refine⟨(c.extract o (o+m*sz)).toList,⟨rfl,by rw[Array.toArray_toList];grind[Zb6],by rw[Array.toArray_toList];grind[Zb6],by simp;omega,?_⟩,?_⟩
   ·grind[List.getElem?_of_mem,Array.getElem?_extract]
   ·rw[Array.toArray_toList];refine⟨by simp;omega,λi v hv=>?_,λi p v n hv=>?_⟩<;>grind[Array.getElem?_extract]
 unfold Yl at h;split at h
 ·rename_i m' ds';split at h
  ·rename_i hl;cases h;cases z with
   | lst0 =>
    rename_i cap a;refine⟨[],⟨rfl,?_,?_,by simp,by simp⟩,by simp[RelL],by omega⟩
    ·cases a<;>simp[Builtin.firstCells,loadCells,loadCellsFrom]
    ·cases a<;>simp[Builtin.firstCells,loadCells,loadCellsFrom]
   | lst1 hn hm hb hM hs h1 hr =>
    obtain⟨news,k1,k2⟩:=d _ _ _ _ _ _ ds hb hl hs h1 hr;exact⟨news,k1,k2,hm⟩
  ·cases h
 ·rename_i o ver f off m';split at h
  ·rename_i v e cs hs;split at h
   ·rename_i hc;obtain⟨rfl,rfl,j⟩:=hc;cases h;cases z with
    | sl h1 h2 h3 =>
     obtain⟨a,cap,rfl,q1,q2,q3,q4⟩:=h1;rcases hS.cells o v e cs hs with ⟨hn,l⟩ | ⟨b,k,c,g1,g2,g3,g4,g5,g6⟩
     ·have g:(cs.drop off).take (m*f)=[]:=by rw[l];simp
      rw[g];have q:m*f=0:=by rw[l]at j;simp at j;omega
      refine⟨[],⟨rfl,?_,?_,by simp[q],by simp⟩,by simp[RelL],q2⟩
      ·cases a<;>simp[Builtin.firstCells,loadCells,q,loadCellsFrom]
      ·cases a<;>simp[Builtin.firstCells,loadCells,q,loadCellsFrom]
     ·by_cases g:m=0
      ·subst g;refine⟨[],⟨rfl,?_,?_,by simp,by simp⟩,by simp[RelL],q2⟩
       ·cases a<;>simp[Builtin.firstCells,loadCells,loadCellsFrom]
       ·cases a<;>simp[Builtin.firstCells,loadCells,loadCellsFrom]
      ·have r:a=some ⟨b,off,none⟩:=by
        rcases (h3 v (by rw[hs];rfl)).2 rfl with ⟨z1,z2,_⟩ | ⟨b',k',a',cap',z1,z2,z3,z4⟩
        ·exact absurd z2 g
        ·rw[g1]at z1;cases z1;cases z2;exact z4 g
       subst r;have t:∀(i:Nat) (p:PV),((cs.drop off).take (m*f))[i]?=some p->cs[off+i]?=some p:=by
        intro i p n
        by_cases hi:i<m*f
        ·rw[AL hi,AP]at n;exact n
        ·rw[Ao DT]at n;cases n
       obtain⟨news,k1,k2⟩:=d b off cap c e (0,0) ((cs.drop off).take (m*f)) g2 DT (λ_=>by simp;omega) (λi v hi hv=>g5 (off+i) v (by simp at hi;omega) hv) (λi p v n hv=>g6 (off+i) p v (t i p n) hv)
       grind
   ·cases h
  ·cases h
 ·cases h;cases z;exact⟨[],⟨rfl,by simp[Builtin.firstCells],by simp[Builtin.firstCells],by simp,by simp⟩,by simp[RelL],by omega⟩
 ·rename_i s;split at h
  ·rename_i hc;obtain⟨rfl,hc⟩:=hc;cases h;cases z;have hf:∀W:World,(Builtin.firstCells 1 s.size (.string s)).run P W=.ok (s.data.toList.map λb=>Value.int .u8 (b.toNat:Int)).toArray W:=by
    intro W;simp[Builtin.firstCells];apply Array.ext';simp
   refine⟨_,⟨rfl,hf w,hf w.drew,by simp,λv hv=>by
    obtain⟨b,_,rfl⟩:=Al.1 hv;rfl⟩,⟨by simp,λi v hv=>?_,λi c v hc hv=>?_⟩,by unfold xk;omega⟩
   ·rw[AG,Aj,Ap]at hv;obtain⟨b,_,rfl⟩:=hv;rfl
   ·rw[Aj,Ap]at hc;rw[AG,Aj,Ap]at hv;obtain⟨b,a0,rfl⟩:=hc;obtain⟨b',y,rfl⟩:=hv;rw[a0]at y;cases y;exact .sc _
  ·cases h
 ·cases h
theorem Xo{C:Ctx}{w:World}{cs ds:List PV}{vs us:List Value}(h:RelL C S w cs vs.toArray)(k:RelL C S w ds us.toArray)(rest:List Value):
  (cs++ds).length<=(vs++us++rest).length/\(∀(i:Nat) (v:Value),i<(cs++ds).length->(vs++us++rest)[i]?=some v->v.oneCell'=true) /\
  ∀(i:Nat) (p:PV) (v:Value),(cs++ds)[i]?=some p->(vs++us++rest)[i]?=some v->Rel C S w p v:=by
 obtain⟨h1,h2,h3⟩:=h;obtain⟨k1,a,b⟩:=k;simp only[BP,AG]at h1 h2 h3 k1 a b
 grind
end
open Go
theorem Sim.nilObject'{C:Ctx}{S:Store}{w:World}(h:Sim C S w){o ver:Nat}(hf:Fresh C S o ver)(e:TypeId):
  Sim (C.put o ver none) (S.set o (.cells ver e [])) w/\Step C S w (C.put o ver none) (S.set o (.cells ver e [])) w:=by
 have a:∀i,i≠o->(C.put o ver none).loc i=C.loc i:=λi hi=>by simp_all[Ctx.put]
 have g:(C.put o ver none).loc o=none:=by simp[Ctx.put]
 have st:Step C S w (C.put o ver none) (S.set o (.cells ver e [])) w :=
  Sim.step_new hf rfl _ rfl ⟨rfl,Ag _⟩ rfl (Ag _) (λ_ _=>rfl) (λb k n=>nomatch n)
 refine⟨⟨?_,?_,?_,?_,?_⟩,st⟩
 ·intro i ho
  by_cases hc:i=o
  ·grind[Ctx.put]
  ·rw[q10 _ _ _ _ hc]at ho;have:=h.lt i ho
   grind[Ctx.put]
 ·intro i v hv
  by_cases hc:i=o
  ·subst hc;rw[q11]at hv;cases hv;grind[Ctx.put]
  ·rw[q10 _ _ _ _ hc]at hv;have:=h.clk i v hv
   grind[Ctx.put]
 ·intro i o' b k k' ho c hl d
  by_cases hc:i=o
  ·simp_all
  ·by_cases f:o'=o
   ·simp_all
   ·rw[a i hc]at hl;rw[a o' f]at d;rw[q10 _ _ _ _ hc]at ho;rw[q10 _ _ _ _ f]at c;exact h.dist i o' b k k' ho c hl d
 ·intro i ver q cs' hs
  by_cases hc:i=o
  ·simp_all[q11]
  ·rw[q10 _ _ _ _ hc]at hs;rcases h.cells i ver q cs' hs with hn | ⟨b,k,r,g1,j,g3,g4,s,t⟩
   ·simp_all
   ·exact .inr ⟨b,k,r,(a i hc).trans g1,j,g3,g4,s,λi p v u hv=>(t i p v u hv).mono st⟩
 ·intro i ver es hs
  by_cases hc:i=o
  ·simp_all[q11]
  ·rw[q10 _ _ _ _ hc]at hs;obtain⟨b,k,ms,cl,g1,j,g3,g4⟩:=h.maps i ver es hs;exact⟨b,k,ms,cl,(a i hc).trans g1,j,g3,λi x m l hm=>⟨(g4 i x m l hm).1,(g4 i x m l hm).2.mono st⟩⟩
section
variable {P:Program} {r:Rd} {n N:Nat} {Q:Exit->(Nat->PV)->Store->Prop} {F:Nat->PV} {S:Store}
structure ElemOk (P:Program) (t e:TypeId) (z:Value) (by_:Nat):Prop where
 ty:P.underlying t=some (.slice e)
 pos:P.cellsOf e≠0
 zero:Program.zeroOf P e=some z
 zsize:z.cells.size=P.cellsOf e
 bytes:Program.bytesOf' P e=some by_
 bpos:by_≠0
def Y2(P:Program)(t u:TypeId):Bool:=u == t || (match P.underlying u with | some .string=>true | _=>false)
theorem Zlk{t u ty e:TypeId}(b:P.underlying t=some (.slice e))(a:Y2 P t u=true)(s x:Value)(w:World):(Builtin.append_ #[t,u] ty #[s,x]).run P w=(Builtin.append_ #[t,t] ty #[s,x]).run P w:=by
 unfold Y2 at a;rw[Dc]at a;rcases a with a | a
 ·rw[eq_of_beq a]
 ·have hs:P.underlying u=some .string:=by
   split at a
   ·omega
   ·cases a
  unfold Builtin.append_;simp only[AG,Bd,Bg,Sem.run_bind,run_underlying b,An];cases s with
  | slice base n cap=>simp only[Sem.run_bind,run_underlying b,run_underlying hs,An,Sem.run_pure]
  | _=>rfl
theorem Xp{o:Oper}{s x:Operand}{t u e:TypeId}{a:Act}{w w':World}{v:Value}(ho:o.op=.call { callee:=.builtin .append,args:=#[s,x],argTypes:=#[t,u] })(b:P.underlying t=some (.slice e))(c:Y2 P t u=true)
  (h:(Builtin.append_ #[t,t] o.type #[a.eval s,a.eval x]).run P w=.ok v w'):(execOp a.eval o).run P w=.ok (.value v) w':=by
 rw[<-Zlk b c]at h;unfold execOp
 grind[resolve,invoke,builtin,Sem.run_bind,Sem.run_pure,Result.andThen_ok]
theorem Zb7{o:Oper}{s x:Operand}{t u e:TypeId}{z:Value}{by_ id ver k m:Nat}{cs ds:List PV}{K:PV->Store->Prop}(ho:o.op=.call { callee:=.builtin .append,args:=#[s,x],argTypes:=#[t,u] })(hu:Y2 P t u=true)
  (q:ElemOk P t e z by_) (hs:ev F s=.sl id ver (P.cellsOf e) 0 k) (hid:S id=.cells ver e cs) (hk:k*P.cellsOf e<=cs.length) (hx:Yl S (P.cellsOf e) (ev F x)=some (m,ds)) (hb:(k+m)*by_<=140737488355328) (hm:k+m<=140737488355328)
  (hK:K (.sl id (ver+1) (P.cellsOf e) 0 (k+m)) (S.set id (.cells (ver+1) e (cs.take (k*P.cellsOf e)++ds)))):PO P r n o F S K:=by
 intro G hG C w a N st next Q' a0;have e1:ev G s=_:=(hG s (by simp_all[Op.operands,Call.operands])).trans hs;have e2:ev G x=ev F x:=hG x (by simp_all[Op.operands,Call.operands]);rw[<-e2]at hx;have r1:=st.ev s;rw[e1]at r1;obtain⟨news,f,a4,_⟩:=Zae (P:=P) st.sim hx (st.ev x);have b7:∀c,o.op≠.defer c:=by intro c hc;rw[ho]at hc;cases hc
 have d4:k+m<=xk:=AF hm (by simp[xk]);generalize hv:a.eval s=v at r1;cases r1 with
 | sl h1 h2 h3 =>
  obtain⟨ad,cap,rfl,q1,q2,q3,q4⟩:=h1;have c8:=(h3 ver (by rw[hid];rfl)).2 rfl;have a6:=st.sim.cells id ver e cs hid;have a1:∀(C':Ctx) (w':World) (b8:Option Addr) (y b':Nat),(C.next<=C'.next/\ver+1<C'.clock)->C'.loc id=some (b',y*P.cellsOf e)->b8=some ⟨b',0,none⟩->k+m<=y->y<=maxLen ->
    Rel C' (S.set id (.cells (ver+1) e (cs.take (k*P.cellsOf e)++ds))) w' (.sl id (ver+1) (P.cellsOf e) 0 (k+m)) (.slice b8 (k+m) y):=by
   intro C' w' b8 y b' hn hl d1 d6 d7;refine .sl ⟨_,_,rfl,d6,d4,d7,λ_=>⟨_,_,d1⟩⟩ ⟨Bj h2.1 hn.1,hn.2⟩ λv0 a7=>?_
   rw[q11]at a7;cases a7;exact⟨Ag _,λ_=>.inr ⟨b',_,_,_,hl,rfl,λ_=>⟨d1,rfl⟩,λ_=>d1⟩⟩
  rcases a6 with ⟨hn,d0⟩ | ⟨b,kk,c,g1,g2,g3,g4,g5,g6⟩
  ·-- nothing yet
   have hz:k*P.cellsOf e=0:=by rw[d0]at hk;simpa using hk
   have e4:k=0:=by
    rcases Nat.mul_eq_zero.1 hz with h | h
    ·exact h
    ·exact absurd h q.pos
   rcases c8 with ⟨_,_,_,d8⟩ | ⟨b',k',_,_,z1,_⟩
   ·cases d8;subst d0;simp only[CY,Ds,AQ,AS]at hK hb hm d4 a1
    by_cases d9:m=0
    ·subst d9;have c6:news=[]:=Av (by rw[f.size];simp);have e0:ds=[]:=Av (by rw[a4.1,c6];rfl);subst c6;subst e0;have d:=Xp (P:=P) (a:=a) (w:=w) ho q.ty hu (by rw[hv];exact Zb5 (ty:=o.type) q.ty q.pos f (Cj 0));obtain⟨t1,t2⟩:=st.sim.turn (l:=C.loc id) (ver':=ver+1) (cs':=[]) hid DO (λh=>absurd h DO) (w':=w) ⟨⟨rfl,rfl,rfl,Ag _,λ_ _ _=>rfl⟩,Ag _⟩ (.inl ⟨hn,rfl⟩);refine qg b7 d (a0 _ _ _ _ _ hK ?_ t1 t2);refine .sl ⟨_,_,rfl,Ag _,by omega,by omega,λh=>absurd rfl h⟩ ⟨h2.1,by simp only[Ctx.at];omega⟩ λv0 a7=>?_
     rw[q11]at a7;cases a7;exact⟨Ag _,λ_=>.inl ⟨by simp[Ctx.at,hn],rfl,rfl,rfl⟩⟩
    ·have d:=Xp (P:=P) (a:=a) (w:=w) ho q.ty hu (by
      rw[hv];exact Zad (ty:=o.type) (olds:=[]) q.ty q.pos q.zero q.bytes f (by simp[Builtin.firstCells]) DO (by simpa using hb) q.bpos)
     have d2:m<=grownCap w m 0 e:=by have:=grownCap_ge w m 0 e;exact this
     have d3:grownCap w m 0 e<=maxLen:=grownCap_le_maxLen w m 0 e (by unfold maxLen;omega);simp only[AS]at d;have a8:(#[]++news.toArray++Builtin.zeroCells z.cells (grownCap w m 0 e-m):Array Value).size=grownCap w m 0 e*P.cellsOf e:=by
      simp only[Cn,BP,Ah,AS,size_zeroCells,q.zsize,f.size];rw[<-Nat.add_mul];congr 1;omega
     have g:=Xo (cs:=[]) (vs:=[]) (by simp[RelL]) a4 (Builtin.zeroCells z.cells (grownCap w m 0 e-m)).toList;simp only[AQ]at g;have a2:∀i:Nat,(#[]++news.toArray++Builtin.zeroCells z.cells (grownCap w m 0 e-m):Array Value)[i]?=(news++(Builtin.zeroCells z.cells (grownCap w m 0 e-m)).toList)[i]?:=by
      intro i;rw[<-Array.getElem?_toList];simp
     obtain⟨t1,t2⟩:=st.sim.turn (l:=some (w.heap.size,grownCap w m 0 e*P.cellsOf e)) (ver':=ver+1) (cs':=ds) hid DO (λh=>absurd h DO)
      (w':=w.drew.alloc (.cells (#[]++news.toArray++Builtin.zeroCells z.cells (grownCap w m 0 e-m)) e)) ⟨⟨rfl,rfl,rfl,by simp,λj hj _=>Zr w.drew _ j hj⟩,CO _⟩
      (.inr ⟨w.heap.size,_,_,rfl,.inl (Ag _),YY w.drew _,a8,by rw[<-a8];have:=g.1;simp at this ⊢;omega,λi v hi hv=>g.2.1 i v hi (by rw[<-a2];exact hv),λi p v hp hv=>g.2.2 i p v hp (by rw[<-a2];exact hv)⟩)
     refine qg b7 d (a0 _ _ _ _ _ hK ?_ t1 t2);have:=a1 (C.at id (ver+1) (some (w.heap.size,grownCap w m 0 e*P.cellsOf e))) (w.drew.alloc (.cells (#[]++news.toArray++Builtin.zeroCells z.cells (grownCap w m 0 e-m)) e)) (some ⟨w.heap.size,0,none⟩) (grownCap w m 0 e) w.heap.size ⟨Ag _,by simp only[Ctx.at];omega⟩ (by simp[Ctx.at]) rfl d2 d3;omega
   ·rw[hn]at z1;cases z1
  ·-- it lies in block b
   rcases c8 with ⟨z1,_⟩ | ⟨b',k',b8,y,z1,z2,z3,z4⟩
   ·rw[g1]at z1;cases z1
   ·rw[g1]at z1;cases z1;cases z2;obtain⟨rfl,a9⟩:=z3 rfl;have a5:c.size=cap*P.cellsOf e:=g3.trans a9.symm
    by_cases a3:k+m<=cap
    ·have d:=Xp (P:=P) (a:=a) (w:=w) ho q.ty hu (by rw[hv];exact Zlj (ty:=o.type) q.ty q.pos f g2 a3 a5);have d5:k*P.cellsOf e<=c.size:=by rw[a5];exact Cl _ q1
     have e3:k*P.cellsOf e+news.length<=c.size:=by rw[f.size,a5,<-Nat.add_mul];exact Cl _ a3
     have hold:RelL C S w (cs.take (k*P.cellsOf e)) (c.toList.take (k*P.cellsOf e)).toArray:=by
      refine⟨by simp;omega,λi v hv=>?_,λi p v hp hv=>?_⟩
      ·rw[AG]at hv;have hi:=(Ad.1 hv).1;simp only[Ax]at hi;rw[AL DO,Array.getElem?_toList]at hv;exact g5 i v DO hv
      ·have hi:=(Ad.1 hp).1;simp only[Ax]at hi;rw[AL DO]at hp;rw[AG,AL DO,Array.getElem?_toList]at hv;exact g6 i p v hp hv
     have g:=Xo hold a4 (c.toList.drop (k*P.cellsOf e+news.length));obtain⟨t1,t2⟩:=st.sim.turn (l:=C.loc id) (ver':=ver+1) (cs':=cs.take (k*P.cellsOf e)++ds) hid DO (λh=>absurd h DO)
      (w':=w.setRow b (c.toList.take (k*P.cellsOf e)++news++c.toList.drop (k*P.cellsOf e+news.length)).toArray)
      (by rw[g1];exact⟨⟨rfl,rfl,rfl,by simp,λj hj c6=>setRow_other w b j _ (λe=>c6 (by rw[e];rfl))⟩,Ag _⟩)
      (.inr ⟨b,cap*P.cellsOf e,_,by rw[g1,a9],.inr (by rw[g1];rfl),setRow_heap w b c _ e _ g2,by simp;omega,by have:=g.1;simp at this ⊢;omega,λi v hi hv=>g.2.1 i v hi (by rw[AG]at hv;exact hv),λi p v hp hv=>g.2.2 i p v hp (by rw[AG]at hv;exact hv)⟩)
     refine qg b7 d (a0 _ _ _ _ _ hK ?_ t1 t2);exact a1 _ _ _ cap b ⟨Ag _,by simp only[Ctx.at];omega⟩ (by simp[Ctx.at,g1,a9]) rfl a3 q3
    ·have c7:=Zb6 (P:=P) (w:=w.drew) (b:=b) (k:=k) (cap:=cap) (sz:=P.cellsOf e) (c:=c) (e:=e) (fz:=(0,0)) g2 0 DO;rw[AS]at c7;have d:=Xp (P:=P) (a:=a) (w:=w) ho q.ty hu (by
      rw[hv];exact Zad (ty:=o.type) (olds:=(c.extract 0 (k*P.cellsOf e)).toList) q.ty q.pos q.zero q.bytes f DO DO hb q.bpos)
     have d2:=grownCap_ge w (k+m) cap e;have d3:grownCap w (k+m) cap e<=maxLen:=grownCap_le_maxLen w (k+m) cap e (by unfold maxLen;omega);have d5:k*P.cellsOf e<=c.size:=by rw[a5];exact Cl _ q1
     rw[Array.toArray_toList]at d;have a8:(c.extract 0 (k*P.cellsOf e)++news.toArray++Builtin.zeroCells z.cells (grownCap w (k+m) cap e-(k+m)):Array Value).size=grownCap w (k+m) cap e*P.cellsOf e:=by
      simp only[Cn,BP,size_zeroCells,q.zsize,f.size,Array.size_extract,DM,Bf d5,<-Nat.add_mul];congr 1;omega
     have hold:RelL C S w (cs.take (k*P.cellsOf e)) (c.extract 0 (k*P.cellsOf e)).toList.toArray:=by
      rw[Array.toArray_toList];refine⟨by simp;omega,λi v hv=>?_,λi p v hp hv=>?_⟩
      ·rw[BV]at hv;split at hv
       ·rw[AS]at hv;exact g5 i v DO hv
       ·cases hv
      ·have hi:=(Ad.1 hp).1;simp only[Ax]at hi;rw[AL DO]at hp;rw[BV]at hv;split at hv
       ·rw[AS]at hv;exact g6 i p v hp hv
       omega
     have g:=Xo hold a4 (Builtin.zeroCells z.cells (grownCap w (k+m) cap e-(k+m))).toList;have a2:∀i:Nat,(c.extract 0 (k*P.cellsOf e)++news.toArray++Builtin.zeroCells z.cells (grownCap w (k+m) cap e-(k+m)):Array Value)[i]? =
       ((c.extract 0 (k*P.cellsOf e)).toList++news++(Builtin.zeroCells z.cells (grownCap w (k+m) cap e-(k+m))).toList)[i]?:=by
      intro i;rw[<-Array.getElem?_toList];simp
     obtain⟨t1,t2⟩:=st.sim.turn (l:=some (w.heap.size,grownCap w (k+m) cap e*P.cellsOf e)) (ver':=ver+1) (cs':=cs.take (k*P.cellsOf e)++ds) hid DO (λh=>absurd h DO)
      (w':=w.drew.alloc (.cells (c.extract 0 (k*P.cellsOf e)++news.toArray++Builtin.zeroCells z.cells (grownCap w (k+m) cap e-(k+m))) e)) ⟨⟨rfl,rfl,rfl,by simp,λj hj _=>Zr w.drew _ j hj⟩,CO _⟩
      (.inr ⟨w.heap.size,_,_,rfl,.inl (Ag _),YY w.drew _,a8,by rw[<-a8];have:=g.1;simp at this ⊢;omega,λi v hi hv=>g.2.1 i v hi (by rw[<-a2];exact hv),λi p v hp hv=>g.2.2 i p v hp (by rw[<-a2];exact hv)⟩)
     refine qg b7 d (a0 _ _ _ _ _ hK ?_ t1 t2);exact a1 _ _ _ (grownCap w (k+m) cap e) w.heap.size ⟨Ag _,by simp only[Ctx.at];omega⟩ (by simp[Ctx.at]) rfl d2 d3
theorem Zll{o:Oper}{s x:Operand}{t e:TypeId}{z:Value}{by_ id ver k m:Nat}{cs ds:List PV}{K:PV->Store->Prop}(ho:o.op=.call { callee:=.builtin .append,args:=#[s,x],argTypes:=#[t,t] })
  (a:ElemOk P t e z by_) (hs:ev F s=.sl id ver (P.cellsOf e) 0 k) (hid:S id=.cells ver e cs) (b:k*P.cellsOf e<=cs.length) (hx:Yl S (P.cellsOf e) (ev F x)=some (m,ds)) (hb:(k+m)*by_<=140737488355328) (hm:k+m<=140737488355328)
  (c:K (.sl id (ver+1) (P.cellsOf e) 0 (k+m)) (S.set id (.cells (ver+1) e (cs.take (k*P.cellsOf e)++ds)))):PO P r n o F S K :=
 Zb7 ho (by simp[Y2]) a hs hid b hx hb hm c
theorem Zlm{c:Code}(d e sz:Nat)(k:F d=.sc (.slice none 0 0))(h:∀C:Ctx,S C.next=.dead->∃id v,Fresh C S id v/\PW P r n N c Q (wS F d (.sl id v sz 0 0)) (S.set id (.cells v e []))):PW P r n N c Q F S:=by
 intro C w a st;obtain⟨id,ver,f,h⟩:=h C st.sim.free;obtain⟨k1,g⟩:=st.sim.nilObject' f e;have j:St r (C.put id ver none) (S.set id (.cells ver e [])) w N (wS F d (.sl id ver sz 0 0)) a:=by
  refine⟨k1,st.size,λi=>?_,r.keep g st.v⟩
  by_cases hi:i=d
  ·subst hi;rw[ZeN];have:=st.fr i;rw[k]at this;generalize a.tmps.getD i undef=v at this;cases this;refine .sl ⟨_,_,rfl,Ag _,by unfold xk;omega,by unfold maxLen;omega,λh=>absurd rfl h⟩ (by simp only[Ctx.put];omega) λv0 b=>?_
   rw[q11]at b;cases b;simp[Ctx.put]
  ·rw[ZeO _ _ _ _ hi];exact(st.fr i).mono g
 refine wpIn_mono (h _ w a j) ?_;rintro e m w' ⟨F2,S2,C2,h1,h2,h3,l⟩;exact⟨F2,S2,C2,h1,h2,h3,g.trans l⟩
end
open Go
attribute [simp] Xn Jz uU PX Row.pures Jy yR gd vu jp V1 VV ev QF yg wS VO VM VW ZbU Jt VP ZN Zs Xj VZ VY VX Xk YZ jW PV.cells PV.one PV.fit Value.oneCell' zr wT V5 wJ VT Value.cells jI VS ZM ZbR ZbQ Yi Xl Yl uW
@[simp] theorem ZwO(a b:Int):(a == b)=decide (a=b):=rfl
theorem QI(n:Nat)(z:Value):qa (n+1) z=jI z++qa n z:=by
 unfold qa jI;generalize z.cells=c;rw[Nat.succ_mul,Nat.add_comm,Dj,List.map_append,BX];congr 1
 ·apply A8;intro i
  by_cases h:i<c.size
  ·simp[h,C7 h]
  ·simp[h]
 simp
@[simp] theorem ZwP(z:Value):qa 0 z=[]:=by simp[qa]
@[simp] theorem ZwQ(z:Value):qa 1 z=jI z:=by rw[QI 0 z];simp
@[simp] theorem ZwR(z:Value):qa 2 z=jI z++jI z:=by rw[QI 1 z];simp
@[simp] theorem ZwS(z:Value):qa 3 z=jI z++(jI z++jI z):=by rw[QI 2 z];simp
@[simp] theorem ZwT(z:Value):qa 4 z=jI z++(jI z++(jI z++jI z)):=by rw[QI 3 z];simp
@[simp] theorem ZwU(cs:List PV)(off:Nat):yk cs off []=cs:=by simp[yk]
@[simp] theorem ZwV(c d:PV)(cs ds:List PV):yk (c :: cs) 0 (d :: ds)=d :: yk cs 0 ds:=by simp[yk]
@[simp] theorem ZwW(c d:PV)(cs ds:List PV)(k:Nat):yk (c :: cs) (k+1) (d :: ds)=c :: yk cs k (d :: ds):=by simp[yk,Nat.add_right_comm k 1]
@[simp] theorem ZwX(cs ds:List PV)(off:Nat)(h:off+ds.length<=cs.length):(yk cs off ds).length=cs.length:=by simp[yk];omega
@[simp] theorem Zb8(S:Store)(o:Nat)(x:Ob):S.set o x o=x:=q11 S o x
theorem jK(S:Store)(o i:Nat)(x:Ob)(h:i≠o):S.set o x i=S i:=q10 S o i x h
@[simp] theorem ZwY(S:Store)(o:Nat)(x y:Ob):(S.set o x).set o y=S.set o y:=Store.set_set S o x y
theorem Ym(x:Int)(h1:-9223372036854775808<=x)(h2:x<=9223372036854775807):IntKind.i64.wrap x=x:=IntWalk.i64_in x ⟨h1,h2⟩
def zT(x:Int):Prop:=-9223372036854775808<=x/\x<=9223372036854775807
def yf(x:Int):PV:=.sc (.int .i64 x)
def vx(b:Bool):PV:=.sc (.bool b)
theorem Xq{α:Type}(enc:α->List PV)(k:Nat)(a:∀x,(enc x).length=k):∀(l:List α) (i:Nat),(l.flatMap enc).drop (i*k)=(l.drop i).flatMap enc
 | l,0=>by simp
 | [],i+1=>by simp
 | x :: xs,i+1=>by
  rw[Az,List.drop_succ_cons,<-Xq enc k a xs i,Cs,a,Nat.add_mul,DK]
  simp_all
theorem Zfd{α:Type}(enc:α->List PV)(k:Nat)(a:∀x,(enc x).length=k)(l:List α)(i:Nat)(hi:i<l.length):(l.flatMap enc).drop (i*k)=enc l[i]++(l.drop (i+1)).flatMap enc:=by grind[Xq,List.drop_eq_getElem_cons]
theorem Xr{α:Type}(enc:α->List PV)(k:Nat)(a:∀x,(enc x).length=k):∀(l:List α),(l.flatMap enc).length=l.length*k
 | []=>by simp
 | x :: xs=>by rw[Az,Am,a,Xr enc k a xs,Ae,Nat.add_mul];omega
theorem JC{α:Type}(enc:α->List PV)(k:Nat)(a:∀x,(enc x).length=k):∀(l:List α) (i:Nat),(l.flatMap enc).take (i*k)=(l.take i).flatMap enc
 | l,0=>by simp
 | [],i+1=>by simp
 | x :: xs,i+1=>by
  rw[Az,Dd,Az,<-JC enc k a xs i,List.take_append,a,Nat.add_mul,DK]
  grind
open Go
theorem Sim.turnMap{C:Ctx}{S:Store}{w w':World}(h:Sim C S w){o ver b k:Nat}{es es':List (Value × PV)}(hs:S o=.map ver es)(hl:C.loc o=some (b,k))(f:w.grownBy w' (some b)/\w.drawn<=w'.drawn){ms:Array MapEntry}{cl:Nat}
  (hb:w'.heap[b]?=some (.map ms cl)) (n:es'.length=ms.size) (z:∀(i:Nat) (e:Value × PV) (m:MapEntry),es'[i]?=some e->ms[i]?=some m->m.key=e.1/\Rel C S w e.2 m.val) :
  Sim C (S.set o (.map ver es')) w'/\Step C S w C (S.set o (.map ver es')) w':=by
 have q:S o≠.dead:=by rw[hs];simp
 have g:∀i b' k',i≠o->S i≠.dead->C.loc i=some (b',k')->some b'≠some b:=by
  intro i b' k' hi t l d;cases d;exact hi (h.dist i o b k' k t q l hl)
 have a:∀i,S.set o (.map ver es') i≠.dead->S i≠.dead:=by
  intro i hi
  by_cases hc:i=o
  ·simp_all
  ·simp_all[q10]
 have st:Step C S w C (S.set o (.map ver es')) w':=by
  refine⟨f.1.os,⟨f.1.tape,f.2⟩,f.1.output,f.1.size,Ag _,Ag _,λc hc hM=>⟨f.1.block c hc ?_,?_⟩,?_⟩
  ·intro d;cases d;exact hM ⟨o,k,q,hl⟩
  ·rintro⟨i,k',t,l⟩;exact hM ⟨i,k',a i t,l⟩
  ·intro i v1 hv
   by_cases hc:i=o
   ·subst hc;rw[q11]at hv;cases hv;exact .inr ⟨ver,by rw[hs];rfl,Ag _,λ_=>rfl⟩
   simp_all[q10]
 refine⟨⟨λi hi=>h.lt i (a i hi),λi v hv=>(by
  by_cases hc:i=o
  ·subst hc;rw[q11]at hv;cases hv;exact h.clk i ver (by rw[hs];rfl)
  ·rw[q10 _ _ _ _ hc]at hv;exact h.clk i v hv),λi j b1 k1 k2 hi hj=>h.dist i j b1 k1 k2 (a i hi) (a j hj),?_,?_⟩,st⟩
 ·intro i v' e' ds hi
  by_cases hc:i=o
  ·simp_all
  ·rw[q10 _ _ _ _ hc]at hi;rcases h.cells i v' e' ds hi with hn | ⟨b1,k1,c',g1,r,g3,g4,g5,g6⟩
   ·exact .inl hn
   ·exact .inr ⟨b1,k1,c',g1,(f.1.block b1 (qN r) (g i b1 k1 hc (by rw[hi];simp) g1)).trans r,g3,g4,g5,λj p v hp hv=>(g6 j p v hp hv).mono st⟩
 ·intro i s fs hi
  by_cases hc:i=o
  ·subst hc;rw[q11]at hi;cases hi;exact⟨b,k,ms,cl,hl,hb,n,λj e m d hm=>⟨(z j e m d hm).1,(z j e m d hm).2.mono st⟩⟩
  ·rw[q10 _ _ _ _ hc]at hi;obtain⟨b1,k1,u,y,g1,r,g3,g4⟩:=h.maps i s fs hi;exact⟨b1,k1,u,y,g1,(f.1.block b1 (qN r) (g i b1 k1 hc (by rw[hi];simp) g1)).trans r,g3,λj x m d hm=>⟨(g4 j x m d hm).1,(g4 j x m d hm).2.mono st⟩⟩
theorem Sim.newMap'{C:Ctx}{S:Store}{w:World}(h:Sim C S w){o ver:Nat}(hf:Fresh C S o ver):
  Sim (C.put o ver (some (w.heap.size,0))) (S.set o (.map ver [])) (w.alloc (.map #[] 0))/\Step C S w (C.put o ver (some (w.heap.size,0))) (S.set o (.map ver [])) (w.alloc (.map #[] 0)):=by
 have a:∀i,i≠o->(C.put o ver (some (w.heap.size,0))).loc i=C.loc i:=λi hi=>by simp_all[Ctx.put]
 have c:(C.put o ver (some (w.heap.size,0))).loc o=some (w.heap.size,0):=by simp[Ctx.put]
 have st:Step C S w (C.put o ver (some (w.heap.size,0))) (S.set o (.map ver [])) (w.alloc (.map #[] 0)) :=
  Sim.step_new hf rfl _ rfl ⟨rfl,Ag _⟩ rfl DP (λb hb=>Zr w _ b hb) (λb k x=>by simp_all)
 refine⟨⟨?_,?_,?_,?_,?_⟩,st⟩
 ·intro i ho
  by_cases hc:i=o
  ·grind[Ctx.put]
  ·rw[q10 _ _ _ _ hc]at ho;have:=h.lt i ho
   grind[Ctx.put]
 ·intro i v hv
  by_cases hc:i=o
  ·subst hc;rw[q11]at hv;cases hv;grind[Ctx.put]
  ·rw[q10 _ _ _ _ hc]at hv;have:=h.clk i v hv
   grind[Ctx.put]
 ·intro i j b k k' ho g hl d
  by_cases hc:i=o<;>by_cases f:j=o
  ·omega
  ·subst hc;rw[c]at hl;rw[a j f]at d;rw[q10 _ _ _ _ f]at g;have:=h.M_lt ⟨j,k',g,d⟩
   simp_all
  ·subst f;rw[c]at d;rw[a i hc]at hl;rw[q10 _ _ _ _ hc]at ho;have:=h.M_lt ⟨i,k,ho,hl⟩
   simp_all
  ·rw[a i hc]at hl;rw[a j f]at d;rw[q10 _ _ _ _ hc]at ho;rw[q10 _ _ _ _ f]at g;exact h.dist i j b k k' ho g hl d
 ·intro i ver' q cs' hs
  by_cases hc:i=o
  ·simp_all
  ·rw[q10 _ _ _ _ hc]at hs;rcases h.cells i ver' q cs' hs with hn | ⟨b,k,r,g1,l,g3,g4,s,t⟩
   ·simp_all
   ·exact .inr ⟨b,k,r,(a i hc).trans g1,(Zr w _ b (qN l)).trans l,g3,g4,s,λi p v u hv=>(t i p v u hv).mono st⟩
 ·intro i ver' es hs
  by_cases hc:i=o
  ·grind[q11,YY]
  ·rw[q10 _ _ _ _ hc]at hs;obtain⟨b,k,ms,cl,g1,l,g3,g4⟩:=h.maps i ver' es hs;exact⟨b,k,ms,cl,(a i hc).trans g1,(Zr w _ b (qN l)).trans l,g3,λi e m n hm=>⟨(g4 i e m n hm).1,(g4 i e m n hm).2.mono st⟩⟩
def jC(d:TypeDesc)(k:Value):List (Value × PV)->Nat->Option (Option (Nat × PV))
 | [],_=>some none
 | e :: es,i =>
  match Instr.sameNow d k e.1 with
  | some true=>some (some (i,e.2))
  | some false=>jC d k es (i+1)
  | none=>none
def WJ(d:TypeDesc):Bool :=
 match d with
 | .int _=>true
 | .string=>true
 | .bool=>true
 | _=>false
section
variable {P:Program} {r:Rd} {n N:Nat} {Q:Exit->(Nat->PV)->Store->Prop} {F:Nat->PV} {S:Store}
theorem Zaf{C:Ctx}{w:World}{d:TypeDesc}{k:Value}:∀(es:List (Value × PV)) (ms:List MapEntry) (i:Nat) (a:Option (Nat × PV)),es.length=ms.length ->
  (∀(j:Nat) (e:Value × PV) (m:MapEntry),es[j]?=some e->ms[j]?=some m->m.key=e.1/\Rel C S w e.2 m.val)->jC d k es i=some a ->
  (a=none/\Instr.findNow d k ms i=some none)\/∃j p v,a=some (j,p)/\Instr.findNow d k ms i=some (some (j,v))/\Rel C S w p v
 | [],[],i,a,_,_,h=>by cases h;exact .inl ⟨rfl,rfl⟩
 | e :: es,m :: ms,i,a,hl,b,h=>by
  obtain⟨c,hv⟩:=b 0 e m rfl rfl;simp only[jC]at h;simp only[Instr.findNow,c];split at h
  ·grind
  ·rename_i hs;simp only[hs];exact Zaf es ms (i+1) a (by simpa using hl) (λj e m f hm=>b (j+1) e m (by simpa using f) (by simpa using hm)) h
  ·cases h
theorem Xs{t:TypeId}{d:TypeDesc}(a:P.underlying t=some d)(c:WJ d=true)(b:Bool)(k:Value)(w:World):(Instr.checkKey b 10000 t k).run P w=.ok () w:=by
 show (Instr.checkKey b (9999+1) t k).run P w=_
 unfold Instr.checkKey;simp only[Sem.run_bind,run_underlying a,An];cases d<;>simp[WJ]at c<;>rfl
def Yn(ok:Bool)(z:Value)(res:Option (Nat × PV)):PV :=
 match res with
 | some (_,p)=>if ok=true then .tup [p,.sc (.bool true)] else p
 | none=>if ok=true then .tup [QF z,.sc (.bool false)] else QF z
theorem ZP{o:Oper}{t kt et id ver:Nat}{x i:Operand}{ok:Bool}{k:Value}{d:TypeDesc}{es:List (Value × PV)}{l:Option (Nat × PV)}{z:Value}{K:PV->Store->Prop}(ho:o.op=.lookup t x i ok)(ht:P.underlying t=some (.map kt et))
  (hk:P.underlying kt=some d) (hd:WJ d=true) (hx:ev F x=.mp id ver) (hi:ev F i=.sc k) (hs:S id=.map ver es) (hf:jC d k es 0=some l) (hz:Program.zeroOf P et=some z)
  (hK:K (Yn ok z l) S):PO P r n o F S K:=by
 intro G hG C w a N st next Q' f;have e1:=st.ev x;have e2:=st.ev i;rw[(hG x (by simp[ho,Op.operands])).trans hx]at e1;rw[(hG i (by simp[ho,Op.operands])).trans hi]at e2;generalize s:a.eval x=v1 at e1;generalize u:a.eval i=v2 at e2;cases e2;obtain⟨b,k0,ms,cl,g1,g2,g3,g4⟩:=st.sim.maps id ver es hs;cases e1 with
 | mp h1 h2 h3 =>
  obtain⟨b',rfl⟩:=h1;obtain⟨b2,k2,q1,q2⟩:=(h3 ver (by rw[hs];rfl)).2 rfl;rw[g1]at q1;cases q1;cases q2;have y:∀c,o.op≠.defer c:=by intro c hc;rw[ho]at hc;cases hc
  have h:(getObj b).run P w=.ok (.map ms cl) w:=by
   simp only[getObj,Sem.run,g2]
  have q:=Zaf (C:=C) (w:=w) es ms.toList 0 l DO (λj e m he hm=>g4 j e m he DW) hf;rcases q with ⟨rfl,hn⟩ | ⟨j,p,v,rfl,hn,a0⟩
  ·have g:(execOp a.eval o).run P w=.ok (.value (if ok then .tuple #[z,.bool false] else z)) w:=by
    unfold execOp;simp only[ho,s,u,Instr.lookup,Sem.run_bind,run_underlying ht,An,h,Sem.run_pure,Xs hk hd,Instr.findKey,run_underlying hk,hn,Ju hz]
   refine qg y g (f _ _ _ _ _ hK ?_ st.sim (.refl _ _ _));cases ok
   ·exact VL z
   ·exact .tup rfl (by
     intro i c v hc hv
     match i with
     | 0=>grind[VL]
     | 1=>have hc:some (PV.sc (.bool false))=some c:=hc;have hv:some (Value.bool false)=some v:=hv;cases hc;cases hv;exact .sc _
     | i+2=>simp at hc)
  ·have g:(execOp a.eval o).run P w=.ok (.value (if ok then .tuple #[v,.bool true] else v)) w:=by
    unfold execOp;simp only[ho,s,u,Instr.lookup,Sem.run_bind,run_underlying ht,An,h,Sem.run_pure,Xs hk hd,Instr.findKey,run_underlying hk,hn]
   refine qg y g (f _ _ _ _ _ hK ?_ st.sim (.refl _ _ _));cases ok
   ·exact a0
   ·exact .tup rfl (by
     intro i c v hc hv
     match i with
     | 0=>simp at hc hv;subst hc;subst hv;omega
     | 1=>simp at hc hv;subst hc;subst hv;exact .sc _
     | i+2=>simp at hc)
theorem Zag{d:TypeDesc}{k:Value}:∀(es:List (Value × PV)) (i j:Nat) (p:PV),jC d k es i=some (some (j,p))->i<=j/\j<i+es.length
 | [],_,_,_,h=>by cases h
 | e :: es,i,j,p,h=>by
  simp only[jC]at h;split at h
  ·cases h;simp
  ·have:=Zag es (i+1) j p h;grind
  ·cases h
theorem Zfe{d:TypeDesc}{k:Value}:∀(es:List (Value × PV)) (i j:Nat) (p:PV),jC d k es i=some (some (j,p))->∃e,es[j-i]?=some e/\Instr.sameNow d k e.1=some true
 | [],_,_,_,h=>by cases h
 | e :: es,i,j,p,h=>by
  simp only[jC]at h;split at h
  ·simp_all
  ·obtain⟨a,h1,h2⟩:=Zfe es (i+1) j p h;have:=Zag es (i+1) j p h
   grind
  ·cases h
theorem Zln(a b:ByteArray):(a == b)=true<->a=b:=by
 constructor
 ·intro h;cases a;cases b;have h':(ByteArray.mk _).beq (ByteArray.mk _)=true:=h
  grind[ByteArray.beq]
 ·rintro rfl;cases a
  show (ByteArray.mk _).beq (ByteArray.mk _)=true
  simp[ByteArray.beq]
theorem Zlo{d:TypeDesc}{k k':Value}(h:Instr.sameNow d k k'=some true):Instr.sameBits 10000 k' k=true/\k'=k:=by
 unfold Instr.sameNow at h
 grind[Instr.sameBits,Zln]
theorem Zah{w:World}{b:Nat}{ms:Array MapEntry}{cl:Nat}(h:w.heap[b]?=some (.map ms cl)):(getObj b).run P w=.ok (.map ms cl) w:=by simp_all[getObj,Sem.run]
theorem Zai{w:World}{b:Nat}{ms:Array MapEntry}{cl:Nat}(o:Obj)(h:w.heap[b]?=some (.map ms cl)):(setObj b o).run P w=.ok () (w.putObj b o):=by
 simp only[setObj,Sem.run,h];rfl
theorem Zaj{w:World}{b:Nat}{o':Obj}:w.grownBy (w.putObj b o') (some b)/\w.drawn<=(w.putObj b o').drawn :=
 ⟨⟨rfl,rfl,rfl,by simp,λj _ a=>Br (λe=>a (by rw[e]))⟩,Ag _⟩
def jq(k:Value)(p:PV)(es:List (Value × PV))(res:Option (Nat × PV)):List (Value × PV) :=
 match res with
 | some (j,_)=>es.set j (k,p)
 | none=>es++[(k,p)]
theorem Y3{o:Oper}{t kt et id ver:Nat}{x i y:Operand}{k:Value}{d:TypeDesc}{es:List (Value × PV)}{l:Option (Nat × PV)}{K:PV->Store->Prop}(ho:o.op=.mapUpdate t x i y\/o.op=.insert t x i y)(ht:P.underlying t=some (.map kt et))
  (hk:P.underlying kt=some d) (hd:WJ d=true) (hx:ev F x=.mp id ver) (hi:ev F i=.sc k) (hs:S id=.map ver es) (hf:jC d k es 0=some l)
  (hK:K (.sc undef) (S.set id (.map ver (jq k (ev F y) es l)))):PO P r n o F S K:=by
 intro G hG C w a N st next Q' f;have ops:x∈o.op.operands/\i∈o.op.operands/\y∈o.op.operands:=by rcases ho with ho | ho<;>simp[ho,Op.operands]
 have e1:=st.ev x;have e2:=st.ev i;have e3:=st.ev y;rw[(hG x ops.1).trans hx]at e1;rw[(hG i ops.2.1).trans hi]at e2;rw[hG y ops.2.2]at e3;generalize a5:a.eval x=v1 at e1;generalize a6:a.eval i=v2 at e2;cases e2;obtain⟨b,k0,ms,cl,g1,z,g3,g4⟩:=st.sim.maps id ver es hs;cases e1 with
 | mp h1 h2 h3 =>
  obtain⟨b',rfl⟩:=h1;obtain⟨b2,k2,q1,q2⟩:=(h3 ver (by rw[hs];rfl)).2 rfl;rw[g1]at q1;cases q1;cases q2;have a0:∀c,o.op≠.defer c:=by intro c hc;rcases ho with ho | ho<;>(rw[ho]at hc;cases hc)
  have a1:b<w.heap.size:=qN z;have q:=Zaf (C:=C) (w:=w) es ms.toList 0 l DO (λj e m h hm=>g4 j e m h DW) hf;have a2:∀(w':World),(Instr.mapUpdate t (.map (some b)) k (a.eval y)).run P w=.ok () w'->(execOp a.eval o).run P w=.ok .skip w':=by
   intro w' hw;unfold execOp;rcases ho with ho | ho<;>(simp only[ho,a5,a6,Sem.run_bind,hw,An];rfl)
  rcases q with ⟨rfl,hn⟩ | ⟨j,p,v,rfl,hn,a8⟩
  ·have g:=a2 (w.putObj b (.map (ms.push { key:=k,val:=a.eval y,born:=cl }) (cl+1))) (by
    simp only[Instr.mapUpdate,Sem.run_bind,run_underlying ht,An,Zah z,Xs hk hd,Instr.findKey,run_underlying hk,hn,Sem.run_pure,Zai _ z])
   obtain⟨t1,t2⟩:=st.sim.turnMap (es':=es++[(k,ev F y)]) (ms:=ms.push { key:=k,val:=a.eval y,born:=cl }) (cl:=cl+1) hs g1 Zaj (BW a1) (by simp[g3]) DW;exact qg a0 g (f _ _ _ _ _ hK (.sc _) t1 t2)
  ·obtain⟨e0,a3,s⟩:=Zfe es 0 j p hf;rw[DM]at a3;have a9:=Zag es 0 j p hf;have u:ms[j]?=some (ms[j]' DO):=DP
   have a4:=(g4 j e0 _ a3 u).1;obtain⟨a7,b7⟩:=Zlo s;have g:=a2 (w.putObj b (.map (ms.modify j λe=>{ e with key:=k,val:=a.eval y }) cl)) (by
    simp only[Instr.mapUpdate,Sem.run_bind,run_underlying ht,An,Zah z,Xs hk hd,Instr.findKey,run_underlying hk,hn,Sem.run_pure,u,A4,Option.getD_some,a4,Instr.keyThatStays,a7,if_true,Zai _ z])
   obtain⟨t1,t2⟩:=st.sim.turnMap (es':=es.set j (k,ev F y)) (ms:=ms.modify j λe=>{ e with key:=k,val:=a.eval y }) (cl:=cl) hs g1 Zaj (BW a1) (by simp[g3]) (by
    intro jj e m h hm;rw[BB]at hm;rw[Bu]at h
    by_cases hj:j=jj
    ·subst hj;rw[if_pos rfl]at hm h;rw[u]at hm;rw[if_pos DO]at h;cases h;cases hm;exact⟨rfl,e3⟩
    ·rw[if_neg hj]at hm h;exact g4 jj e m h hm)
   exact qg a0 g (f _ _ _ _ _ hK (.sc _) t1 t2)
def WK(es:List (Value × PV))(res:Option (Nat × PV)):List (Value × PV) :=
 match res with
 | some (j,_)=>es.eraseIdx j
 | none=>es
theorem Zlp{o:Oper}{t kt et id ver:Nat}{x i:Operand}{k:Value}{d:TypeDesc}{es:List (Value × PV)}{h:Option (Nat × PV)}{ts:Array TypeId}{K:PV->Store->Prop}(ho:o.op=.call { callee:=.builtin .delete,args:=#[x,i],argTypes:=ts })(s:ts[0]?=some t)(ht:P.underlying t=some (.map kt et))
  (hk:P.underlying kt=some d) (hd:WJ d=true) (hx:ev F x=.mp id ver) (hi:ev F i=.sc k) (hs:S id=.map ver es) (hf:jC d k es 0=some h)
  (hK:K (.tup []) (S.set id (.map ver (WK es h)))):PO P r n o F S K:=by
 intro G hG C w a N st next Q' f;have ops:x∈o.op.operands/\i∈o.op.operands:=by simp[ho,Op.operands,Call.operands]
 have e1:=st.ev x;have e2:=st.ev i;rw[(hG x ops.1).trans hx]at e1;rw[(hG i ops.2).trans hi]at e2;generalize a3:a.eval x=v1 at e1;generalize a4:a.eval i=v2 at e2;cases e2;obtain⟨b,k0,ms,cl,g1,u,g3,g4⟩:=st.sim.maps id ver es hs;cases e1 with
 | mp h1 h2 h3 =>
  obtain⟨b',rfl⟩:=h1;obtain⟨b2,k2,q1,q2⟩:=(h3 ver (by rw[hs];rfl)).2 rfl;rw[g1]at q1;cases q1;cases q2;have y:∀c,o.op≠.defer c:=by intro c hc;rw[ho]at hc;cases hc
  have z:b<w.heap.size:=qN u;have l:=Zaf (C:=C) (w:=w) es ms.toList 0 h DO (λj e m q hm=>g4 j e m q DW) hf;have a0:∀(w':World),(Builtin.delete_ ts o.type #[.map (some b),k]).run P w=.ok (.tuple #[]) w'->(execOp a.eval o).run P w=.ok (.value (.tuple #[])) w':=by
   intro w' hw;unfold execOp;simp only[ho,a3,a4,resolve,invoke,builtin,Sem.run_bind,Sem.run_pure,An,Dt,AD,Bp,hw]
  rcases l with ⟨rfl,hn⟩ | ⟨j,p,v,rfl,hn,a6⟩
  ·have g:=a0 (w.putObj b (.map ms cl)) (by
    simp only[Builtin.delete_,s,AG,Bd,Bg,Sem.run_bind,run_underlying ht,An,Zah u,Xs hk hd,Instr.findKey,run_underlying hk,hn,Sem.run_pure,Zai _ u])
   obtain⟨t1,t2⟩:=st.sim.turnMap (es':=es) (ms:=ms) (cl:=cl) hs g1 Zaj (BW z) g3 g4;exact qg y g (f _ _ _ _ _ hK (.tup rfl DP) t1 t2)
  ·have a7:=Zag es 0 j p hf;have g:=a0 (w.putObj b (.map (ms.eraseIdxIfInBounds j) cl)) (by
    simp only[Builtin.delete_,s,AG,Bd,Bg,Sem.run_bind,run_underlying ht,An,Zah u,Xs hk hd,Instr.findKey,run_underlying hk,hn,Sem.run_pure,Zai _ u])
   have a1:(ms.eraseIdxIfInBounds j).toList=ms.toList.eraseIdx j:=by
    unfold Array.eraseIdxIfInBounds;rw[dif_pos DO];simp
   have a2:(es.eraseIdx j).length=(ms.eraseIdxIfInBounds j).size:=by
    have a5:es.length=ms.toList.length:=by simpa using g3
    have:(es.eraseIdx j).length=(ms.eraseIdxIfInBounds j).toList.length:=by rw[a1,List.length_eraseIdx,List.length_eraseIdx,a5]
    exact this.trans Array.length_toList
   obtain⟨t1,t2⟩:=st.sim.turnMap (es':=es.eraseIdx j) (ms:=ms.eraseIdxIfInBounds j) (cl:=cl) hs g1 Zaj (BW z) a2 (by
    intro jj e m q hm;rw[<-Array.getElem?_toList,a1,Dx]at hm;rw[Dx]at q;split at q
    ·rename_i hj;rw[if_pos hj]at hm;exact g4 jj e m q (by rw[<-Array.getElem?_toList];exact hm)
    ·rename_i hj;rw[if_neg hj]at hm;exact g4 (jj+1) e m q (by rw[<-Array.getElem?_toList];exact hm))
   exact qg y g (f _ _ _ _ _ hK (.tup rfl DP) t1 t2)
theorem Zlq{o:Oper}{t:TypeId}{K:PV->Store->Prop}(ho:o.op=.makeMap t none)(d:∀C:Ctx,S C.next=.dead->∃id v,Fresh C S id v/\K (.mp id v) (S.set id (.map v []))):PO P r n o F S K:=by
 intro G _ C w a N st next Q' b;obtain⟨id,ver,e,d⟩:=d C st.sim.free;obtain⟨k1,f⟩:=st.sim.newMap' e;refine qg (x:=.value (.map (some w.heap.size))) (w':=w.alloc (.map #[] 0)) DX ?_ (b _ _ _ _ (.mp id ver) d ?_ k1 f)
 ·simp_all[execOp,Instr.makeMap]
 ·refine .mp ⟨_,rfl⟩ (by simp only[Ctx.put];omega) λv0 c=>?_
  rw[q11]at c;cases c;simp[Ctx.put]
def Xt(P:Program)(t:TypeId)(name:String)(k:FuncId):Prop:=∀(v:Value) (w:World),(method (P.types.size+Made.depth) t v name).run P w=.ok (k,v) w
theorem Yo{o:Oper}{c:Call}{x:Operand}{e:String}{t:TypeId}{q:PV}{k:FuncId}{K:PV->Store->Prop}{R:PV->Store->Prop}(ho:o.op=.call c)(hc:c.callee=.invoke x e)(hx:ev F x=.ifc t q)(hM:Xt P t e k)(hE:qC P k)
  (h:PCalls P k (q :: c.args.toList.map (ev F)) S R) (hK:∀p S',R p S'->K p S'):PO P r n o F S K:=by
 intro G hG C w a N st next Q' z;have a0:x∈o.op.operands:=by simp[ho,Op.operands,Call.operands,hc]
 have a1:ev G x=.ifc t q:=(hG x a0).trans hx;have f:∀y∈c.args.toList,ev G y=ev F y:=λy hy=>hG y (by grind[Op.operands,Call.operands])
 have g:c.args.toList.map (ev F)=c.args.toList.map (ev G):=AM λy hy=>(f y hy).symm
 rw[g]at h;have b:=st.ev x;rw[a1]at b;generalize hv:a.eval x=v at b;cases b with
 | ifc hq =>
  rename_i u;have j:(execOp a.eval o).run P w=.ok (.enter k (#[u]++c.args.map a.eval)) w:=by
   unfold execOp;have a2:(#[Value.iface t u]++c.args.map a.eval).extract 1 (#[Value.iface t u]++c.args.map a.eval).size=c.args.map a.eval:=by
    apply Array.ext
    ·simp
    ·simp
   have m:(#[Value.iface t u]++c.args.map a.eval)[0]?=some (.iface t u):=by rw[Bq DP];rfl
   simp only[ho,resolve,hc,hv,Sem.run_bind,Sem.run_pure,An,invoke,Array.append_empty,m,a2,callMethod,run_program,hM u w];exact hE _ w
  refine qg (x:=.enter k (#[u]++c.args.map a.eval)) (w':=w) DW j ?_;rw[Oper.uponIn_enter];refine⟨λhd=>?_,?_⟩
  ·cases hd
  ·have d:=WC (l:=c.args.toList) st.ev;simp only[Array.toArray_toList]at d;have key:=h C w (#[u]++c.args.map a.eval) st.sim DT (by
    intro i p v s hv;cases i with
    | zero =>
     rw[Bq DP]at hv;have s:some q=some p:=s;have hv:some u=some v:=hv;cases s;cases hv;exact hq
    | succ i =>
     rw[Bg]at s;rw[BQ DP]at hv;exact d.2 i p v s (by simpa using hv))
   refine(Zb0 key).mono ?_
   grind
end
open Go
section
variable {P:Program} {r:Rd} {n N:Nat} {Q:Exit->(Nat->PV)->Store->Prop} {F:Nat->PV} {S:Store}
theorem Zff(C:Ctx)(S:Store)(w:World)(o ver sz e:Nat):Rel (C.put o ver none) (S.set o (.cells ver e [])) w (.sl o ver sz 0 0) (.slice none 0 0):=by
 refine .sl ⟨_,_,rfl,Ag _,by unfold xk;omega,by unfold maxLen;omega,λh=>absurd rfl h⟩ (by simp only[Ctx.put];omega) λv0 a=>?_
 rw[q11]at a;cases a;simp[Ctx.put]
theorem qx {f : FuncId} {fn : Func} {c : Code} (hf : P.funcs[f]? = some fn) (hname : (fn.name == "runtime.NumGoroutine") = false) (hb : fn.body = some c) : qC P f := by
 intro args w;have h1 : fn.name ≠ "runtime.NumGoroutine" := by simpa using hname
 simp[callFunc,hf,h1,hb,mark]
def Zb9(x:PV)(t:TypeId)(z:Value):Option PV :=
 match x with
 | .ifc t' p=>if t'=t then some (.tup [p,.sc (.bool true)]) else some (.tup [QF z,.sc (.bool false)])
 | _=>none
theorem Zlr{o:Oper}{x:Operand}{l t:TypeId}{d:TypeDesc}{z:Value}{p:PV}{K:PV->Store->Prop}(ho:o.op=.typeAssert x l t true)(j:P.underlying t=some d)(m:∀ms,d≠.interface ms)(s:Program.zeroOf P t=some z)
  (e:Zb9 (ev F x) t z=some p) (k:K p S):PO P r n o F S K:=by
 intro G y C w a N st next Q' b;have h:=st.ev x;rw[y x (by simp[ho,Op.operands])]at h;have g:∀c,o.op≠.defer c:=by intro c hc;rw[ho]at hc;cases hc
 unfold Zb9 at e;split at e
 ·rename_i t' q he;rw[he]at h;generalize hv:a.eval x=v at h;cases h with
  | ifc hq =>
   rename_i u
   by_cases f:t'=t
   ·rw[if_pos f]at e;cases e;refine qg (x:=.value (.tuple #[u,.bool true])) (w':=w) g ?_ (b _ _ _ _ _ k (.tup rfl ?_) st.sim (.refl _ _ _))
    ·unfold execOp;simp only[ho,hv,Instr.typeAssert,Sem.run_bind,run_underlying j,An]
     simp_all
    ·intro i c v hc hv
     match i with
     | 0=>grind
     | 1=>have hc:some (PV.sc (.bool true))=some c:=hc;have hv:some (Value.bool true)=some v:=hv;cases hc;cases hv;exact .sc _
     | i+2=>simp at hc
   ·rw[if_neg f]at e;cases e;refine qg (x:=.value (.tuple #[z,.bool false])) (w':=w) g ?_ (b _ _ _ _ _ k (.tup rfl ?_) st.sim (.refl _ _ _))
    ·unfold execOp;simp only[ho,hv,Instr.typeAssert,Sem.run_bind,run_underlying j,An];cases d<;>first | exact absurd rfl (m _) | (simp only[f,if_false,if_true,Sem.run_bind,Ju s,An];rfl)
    ·intro i c v hc hv
     match i with
     | 0=>grind[VL]
     | 1=>have hc:some (PV.sc (.bool false))=some c:=hc;have hv:some (Value.bool false)=some v:=hv;cases hc;cases hv;exact .sc _
     | i+2=>simp at hc
 ·cases e
theorem Zls{o:Oper}{s x:Operand}{t u e:TypeId}{z:Value}{by_ m:Nat}{ds:List PV}{K:PV->Store->Prop}(ho:o.op=.call { callee:=.builtin .append,args:=#[s,x],argTypes:=#[t,u] })(hu:Y2 P t u=true)
  (g:ElemOk P t e z by_) (hs:ev F s=.sc (.slice none 0 0)) (hx:Yl S (P.cellsOf e) (ev F x)=some (m,ds)) (hb:m*by_<=140737488355328) (hm:m<=140737488355328)
  (hK:∀C:Ctx,S C.next=.dead->∃id v,Fresh C S id v/\K (.sl id v (P.cellsOf e) 0 m) (S.set id (.cells v e ds))):PO P r n o F S K:=by
 intro G hG C w a N st next Q' f;have e1:ev G s=_:=(hG s (by grind[Op.operands,Call.operands])).trans hs;have e2:ev G x=ev F x:=hG x (by simp[ho,Op.operands,Call.operands]);rw[<-e2]at hx;have r1:=st.ev s;rw[e1]at r1;obtain⟨news,b,h,_⟩:=Zae (P:=P) st.sim hx (st.ev x);have l:∀c,o.op≠.defer c:=by intro c hc;rw[ho]at hc;cases hc
 generalize hv:a.eval s=v at r1;cases r1;obtain⟨id,ver,q,hK⟩:=hK C st.sim.free
 by_cases a0:m=0
 ·subst a0;have y:news=[]:=Av (by rw[b.size];simp);have a1:ds=[]:=Av (by rw[h.1,y];rfl);subst y;subst a1;have d:=Xp (P:=P) (a:=a) (w:=w) ho g.ty hu (by rw[hv];exact Zb5 (ty:=o.type) g.ty g.pos b (Cj 0));obtain⟨t1,t2⟩:=st.sim.nilObject' q e;exact qg l d (f _ _ _ _ _ hK (Zff C S w _ _ _ e) t1 t2)
 ·have d:=Xp (P:=P) (a:=a) (w:=w) ho g.ty hu (by
   rw[hv];exact Zad (ty:=o.type) (olds:=[]) g.ty g.pos g.zero g.bytes b (by simp[Builtin.firstCells]) DO (by simpa using hb) g.bpos)
  have a2:m<=grownCap w m 0 e:=by have:=grownCap_ge w m 0 e;exact this
  have a3:grownCap w m 0 e<=maxLen:=grownCap_le_maxLen w m 0 e (by unfold maxLen;omega);simp only[AS]at d;have a4:(#[]++news.toArray++Builtin.zeroCells z.cells (grownCap w m 0 e-m):Array Value).size=grownCap w m 0 e*P.cellsOf e:=by
   simp only[Cn,BP,Ah,AS,size_zeroCells,g.zsize,b.size];rw[<-Nat.add_mul];congr 1;omega
  have k:=Xo (cs:=[]) (vs:=[]) (by simp[RelL]) h (Builtin.zeroCells z.cells (grownCap w m 0 e-m)).toList;simp only[AQ]at k;have j:∀i:Nat,(#[]++news.toArray++Builtin.zeroCells z.cells (grownCap w m 0 e-m):Array Value)[i]?=(news++(Builtin.zeroCells z.cells (grownCap w m 0 e-m)).toList)[i]?:=by
   intro i;rw[<-Array.getElem?_toList];simp
  obtain⟨d1,d2⟩:=st.sim.drew;obtain⟨t1,t2⟩:=d1.object' q e (#[]++news.toArray++Builtin.zeroCells z.cells (grownCap w m 0 e-m)) ds DW (λi v hi hv=>k.2.1 i v hi (by rw[<-j];exact hv)) (λi p v hp hv=>(k.2.2 i p v hp (by rw[<-j];exact hv)).mono d2);exact qg l d (f _ _ _ _ _ hK (WI C S w _ _ _ _ _ _ _ _ rfl a2 (AF hm (by simp[xk])) a3 a4.symm) t1 (d2.trans t2))
theorem Sim.relabel{C:Ctx}{S:Store}{w:World}(h:Sim C S w){o ver e:Nat}{cs cs':List PV}(hs:S o=.cells ver e cs)(hl:cs'.length=cs.length)
  (g:∀(i:Nat) (a:PV),cs'[i]?=some a->cs[i]?=some a\/∃p,cs[i]?=some p/\∀v,Rel C S w p v->Rel C S w a v) :
  Sim C (S.set o (.cells ver e cs')) w/\Step C S w C (S.set o (.cells ver e cs')) w:=by
 have j:C.at o ver (C.loc o)=C:=by
  have d:=h.clk o ver (by rw[hs];rfl);cases C;simp only[Ctx.at,Ctx.mk.injEq,true_and]at d ⊢;refine⟨?_,by omega⟩;funext i;split
  ·rename_i e;rw[e]
  ·rfl
 have:=h.turn (w':=w) (ver':=ver) (cs':=cs') (l:=C.loc o) hs (Ag _) (λ_=>rfl) ⟨⟨rfl,rfl,rfl,Ag _,λ_ _ _=>rfl⟩,Ag _⟩ (by
  rcases h.cells o ver e cs hs with ⟨h1,h2⟩ | ⟨b,k,c,g1,m,g3,g4,n,f⟩
  ·exact .inl ⟨h1,Av (by rw[hl,h2];rfl)⟩
  ·refine .inr ⟨b,k,c,g1,.inr (by rw[g1];rfl),m,g3,by omega,λi v hi hv=>n i v DO hv,λi p v r hv=>?_⟩;rcases g i p r with q | ⟨s,t,u⟩
   ·exact f i p v q hv
   ·exact u v (f i s v t hv))
 simp_all
theorem Zca{c:Code}{o ver m:Nat}{cs:List PV}(i e sz:Nat)(hs:S o=.cells ver m cs)(hi:cs[i]?=some (.sc (.slice none 0 0)))
  (h:∀C:Ctx,S C.next=.dead->∃id v,Fresh C S id v/\PW P r n N c Q F ((S.set id (.cells v e [])).set o (.cells ver m (cs.set i (.sl id v sz 0 0))))):PW P r n N c Q F S:=by
 intro C w a st;obtain⟨id,p,d,h⟩:=h C st.sim.free;obtain⟨k1,f⟩:=st.sim.nilObject' d e;have g:o≠id:=by
  intro e;have:=d.dead;rw[<-e,hs]at this;cases this
 obtain⟨q,k⟩:=k1.relabel (o:=o) (cs':=cs.set i (.sl id p sz 0 0)) (by rw[q10 _ _ _ _ g];exact hs) DP (by
  intro j t b;rw[Bu]at b;split at b
  ·rename_i l;subst l;split at b
   ·cases b;refine .inr ⟨_,hi,λv hv=>?_⟩;cases hv;simp[Zff]
   ·cases b
  ·exact .inl b)
 refine wpIn_mono (h _ w a ⟨q,st.size,λi=>((st.fr i).mono f).mono k,r.keep k (r.keep f st.v)⟩) ?_;rintro e u w' ⟨F2,S2,C2,h1,h2,h3,s⟩;exact⟨F2,S2,C2,h1,h2,h3,(f.trans k).trans s⟩
end
open Go
def ext(S:Store)(nx:Nat)(obs:List Ob):Store:=λi=>if i<nx then S i else obs.getD (i-nx) .dead
def yd(nx:Nat)(S:Store):Prop:=∀i,nx<=i->S i=.dead
section
variable {S:Store} {nx:Nat} {obs:List Ob}
theorem zJ{i:Nat}(h:i<nx):ext S nx obs i=S i:=by simp[ext,h]
@[simp] theorem zY(k:Nat):ext S nx obs (nx+k)=obs.getD k .dead:=by
 simp only[ext];rw[if_neg DO,AI]
@[simp] theorem uy:ext S nx obs nx=obs.getD 0 .dead:=by simp[ext]
theorem qZ(h:yd nx S):ext S nx []=S:=by
 funext i;simp only[ext];split
 ·rfl
 ·rw[h i DO];rfl
theorem yl{id:Nat}(x:Ob)(h:nx<=id)(hl:id-nx<obs.length):(ext S nx obs).set id x=ext S nx (obs.set (id-nx) x):=by
 funext i;simp only[ext,Store.set]
 grind
theorem jr(x:Ob):(ext S nx obs).set (nx+obs.length) x=ext S nx (obs++[x]):=by
 funext i;simp only[ext,Store.set]
 grind
theorem qq{i:Nat}(x:Ob)(h:i<nx):(ext S nx obs).set i x=ext (S.set i x) nx obs:=by
 funext j;simp only[ext,Store.set]
 grind
theorem Zt:ext S nx obs (nx+obs.length)=.dead:=DP
theorem Zcb(more:List Ob)(o:Nat):ext S nx obs o=ext S nx (obs++more) o\/ext S nx obs o=.dead:=by
 simp only[ext]
 grind
theorem yb(h:yd nx S)(o:Nat):S o=ext S nx obs o\/S o=.dead:=by
 simp only[ext]
 by_cases h2:o<nx
 ·simp_all
 ·exact .inr (h o DO)
theorem xB:yd (nx+obs.length) (ext S nx obs):=by
 intro i hi;simp only[ext]
 grind
end
def Spec(P:Program)(f:FuncId)(args:List PV)(S:Store)(Q:PV->Store->Prop):Prop:=qC P f/\PCalls P f args S Q
def SpecV(P:Program)(V:Ctx->Store->World->Prop)(f:FuncId)(args:List PV)(S:Store)(Q:PV->Store->Prop):Prop:=qC P f/\PCallsV P V f args S Q
theorem Spec.v{P:Program}{V:Ctx->Store->World->Prop}{f:FuncId}{args:List PV}{S:Store}{Q:PV->Store->Prop}(h:Spec P f args S Q):SpecV P V f args S Q:=⟨h.1,h.2.v⟩
theorem SpecV.mono{P:Program}{V:Ctx->Store->World->Prop}{f:FuncId}{args:List PV}{S:Store}{Q Q':PV->Store->Prop}(h:SpecV P V f args S Q)(a:∀p S',Q p S'->Q' p S'):SpecV P V f args S Q':=⟨h.1,h.2.mono a⟩
theorem Spec.mono{P:Program}{f:FuncId}{args:List PV}{S:Store}{Q Q':PV->Store->Prop}(h:Spec P f args S Q)(a:∀p S',Q p S'->Q' p S'):Spec P f args S Q':=⟨h.1,h.2.mono a⟩
def Pure(P:Program)(f:FuncId)(args:List PV)(p:PV):Prop:=∀S,Spec P f args S (λq S'=>q=p/\S'=S)
section
variable (P:Program) (r:Rd) (n nx:Nat)
def WL(t:TypeId):Option (TypeId × Nat × Nat) :=
 match P.underlying t with
 | some (.slice e) =>
  match Program.zeroOf P e with
  | some z =>
   match Program.bytesOf' P e with
   | some b=>if P.cellsOf e≠0/\z.cells.size=P.cellsOf e/\b≠0 then some (e,P.cellsOf e,b) else none
   | none=>none
  | none=>none
 | _=>none
def QJ(S:Store)(obs:List Ob)(F:Nat->PV)(o:Oper):Option (Prop × PV × Store × List Ob) :=
 match o.op with
 | .load t x=>match ZN P t (ext S nx obs) (ev F x) with | some p=>some (True,p,S,obs) | none=>none
 | .store t x y =>
  match ev F x with
  | .ptr id ver off =>
   match ext S nx obs id with
   | .cells v e cs =>
    if v=ver/\(ev F y).cells.length=P.cellsOf t/\P.cellsOf t≠0/\(ev F y).fit=true then
     (if nx<=id then some (off+(ev F y).cells.length<=cs.length,.sc undef,S,obs.set (id-nx) (.cells v e (yk cs off (ev F y).cells)))
      else some (off+(ev F y).cells.length<=cs.length,.sc undef,S.set id (.cells v e (yk cs off (ev F y).cells)),obs))
    else none
   | _=>none
  | _=>none
 | .call c =>
  match c.callee with
  | .builtin .append =>
   match c.args.toList,c.argTypes.toList with
   | [s,x],[t,t'] =>
    match ev F s with
    | .sl id ver sz 0 k =>
     match ext S nx obs id with
     | .cells v e cs =>
      match WL P t with
      | some (e',sz',by_) =>
       match Yl (ext S nx obs) sz (ev F x) with
       | some (m,ds) =>
        if v=ver/\e'=e/\sz'=sz/\Y2 P t t'=true then
         (if nx<=id then some (k*sz<=cs.length/\(k+m)*by_<=140737488355328,.sl id (ver+1) sz 0 (k+m),S,obs.set (id-nx) (.cells (ver+1) e (cs.take (k*sz)++ds)))
          else some (k*sz<=cs.length/\(k+m)*by_<=140737488355328,.sl id (ver+1) sz 0 (k+m),S.set id (.cells (ver+1) e (cs.take (k*sz)++ds)),obs))
        else none
       | none=>none
      | none=>none
     | _=>none
    | _=>none
   | _,_=>none
  | _=>none
 | _=>none
def QK(S:Store)(obs:List Ob)(F:Nat->PV)(o:Oper):Option (Prop × (Nat->PV) × (Nat->Ob)) :=
 match o.op with
 | .alloc t =>
  match Program.zeroOf P t with
  | some z=>if z.cells.all (·.oneCell')=true then some (True,λv=>.ptr (nx+obs.length) v 0,λv=>.cells v t (jI z)) else none
  | none=>none
 | .box t x=>if (ev F x).fit=true then some (True,λv=>.ptr (nx+obs.length) v 0,λv=>.cells v t (ev F x).cells) else none
 | .makeSlice t l c =>
  match ev F l,ev F c with
  | .sc (.int _ a),.sc (.int _ b) =>
   match P.underlying t with
   | some (.slice e) =>
    match Program.zeroOf P e with
    | some z =>
     match Program.bytesOf' P e with
     | some by_=>if z.cells.all (·.oneCell')=true/\z.cells.size=P.cellsOf e/\P.cellsOf e≠0 then
       some (0<=a/\a<=b/\b<=140737488355328/\b.toNat * by_<=281474976710656,λv=>.sl (nx+obs.length) v (P.cellsOf e) 0 a.toNat,λv=>.cells v e (qa b.toNat z)) else none
     | none=>none
    | none=>none
   | _=>none
  | _,_=>none
 | .makeMap _ none=>some (True,λv=>.mp (nx+obs.length) v,λv=>.map v [])
 | .call c =>
  match c.callee with
  | .builtin .append =>
   match c.args.toList,c.argTypes.toList with
   | [s,x],[t,t'] =>
    match ev F s with
    | .sc (.slice none 0 0) =>
     match WL P t with
     | some (e,sz,by_) =>
      match Yl (ext S nx obs) sz (ev F x) with
      | some (m,ds)=>if Y2 P t t'=true then some (m*by_<=140737488355328,λv=>.sl (nx+obs.length) v sz 0 m,λv=>.cells v e ds) else none
      | none=>none
     | none=>none
    | _=>none
   | _,_=>none
  | _=>none
 | _=>none
def Y4(F:Nat->PV)(o:Oper):Option (FuncId × List PV) :=
 match o.op with
 | .call c =>
  match c.callee with
  | .value x=>match ev F x with | .fn (.func k) fs cs=>some (k,fs++c.args.toList.map (ev F)++cs) | _=>none
  | _=>none
 | _=>none
def XS(ops:Array Oper)(K:(Nat->PV)->Store->List Ob->Prop):List Oper->(Nat->PV)->Store->List Ob->Prop
 | [],F,S,obs=>K F S obs
 | o :: os,F,S,obs =>
  match gd ops F o with
  | none=>False
  | some false=>XS ops K os (yg F o.dst (.sc undef)) S obs
  | some true=>PO P r n o F (ext S nx obs) (λp S'=>∃S1 obs1,S'=ext S1 nx obs1/\XS ops K os (yg F o.dst p) S1 obs1)
def gsl:List (Nat × Nat)->Nat->Option Nat
 | [],_=>none
 | (a,p) :: l,i=>if i=a then some p else gsl l i
def gdD(D:List (Nat × Nat))(F:Nat->PV)(o:Oper):Option Bool :=
 match o.guard with
 | none=>some true
 | some (j,want) =>
  match gsl D j with
  | none=>some false
  | some d=>match F d with
   | .sc v=>match v with
    | .bool b=>some (b == want)
    | _=>some false
   | _=>none
def uX(ops:Array Oper)(D:List (Nat × Nat)):Bool :=
 ops.toList.all λo=>match o.guard with
 | none=>true
 | some (j,_)=>decide ((ops[j]?).bind (·.dst)=gsl D j)
def Xu(D:List (Nat × Nat))(Gc:List Oper->(Nat->PV)->Store->List Ob->Option Nat->FuncId->List PV->Prop)(Gh:List Oper->(Nat->PV)->Store->List Ob->Oper->Prop)(X:(Nat->PV)->Store->List Ob->Prop)
  (o:Oper) (os:List Oper) (F:Nat->PV) (S:Store) (obs:List Ob):Prop :=
 match gdD D F o with
 | none=>False
 | some false=>X (yg F o.dst (.sc undef)) S obs
 | some true =>
  match vu P F o with
  | some p=>X (yg F o.dst p) S obs
  | none =>
   match QJ P nx S obs F o with
   | some (A,p,S',obs')=>A/\X (yg F o.dst p) S' obs'
   | none =>
    match QK P nx S obs F o with
    | some (A,pf,of)=>A/\∀v,X (yg F o.dst (pf v)) S (obs++[of v])
    | none =>
     match Y4 F o with
     | some (f,args)=>Gc os F S obs o.dst f args
     | none=>Gh os F S obs o
def XR(D:List (Nat × Nat))(K:(Nat->PV)->Store->List Ob->Prop)(Gc:List Oper->(Nat->PV)->Store->List Ob->Option Nat->FuncId->List PV->Prop)(Gh:List Oper->(Nat->PV)->Store->List Ob->Oper->Prop):
  List Oper->(Nat->PV)->Store->List Ob->Prop
 | [],F,S,obs=>K F S obs
 | o :: os,F,S,obs=>Xu P nx D Gc Gh (XR D K Gc Gh os) o os F S obs
end
section
variable {P:Program} {r:Rd} {n nx N:Nat} {Q:Exit->(Nat->PV)->Store->Prop} {F:Nat->PV} {S:Store} {obs:List Ob}
theorem Zcc{t e:TypeId}{sz by_:Nat}(h:WL P t=some (e,sz,by_)):∃z,ElemOk P t e z by_/\sz=P.cellsOf e:=by
 unfold WL at h;split at h
 ·rename_i d a;split at h
  ·rename_i z c;split at h
   ·rename_i b hb;split at h
    ·rename_i hc;cases h;exact⟨z,⟨a,hc.1,c,hc.2.1,hb,hc.2.2⟩,rfl⟩
    ·cases h
   ·cases h
  ·cases h
 ·cases h
theorem Zlt{o:Oper}{K K':PV->Store->Prop}(h:PO P r n o F S K)(b:∀p S',K p S'->K' p S'):PO P r n o F S K' :=
 λG c C w a N st next Q' hn=>h G c C w a N st next Q' λv w' C' S' p d=>hn v w' C' S' p (b p S' d)
theorem Zcd{c:Call}{s x:Operand}{t t':TypeId}(hc:c.callee=.builtin .append)(h1:c.args.toList=[s,x])(h2:c.argTypes.toList=[t,t']):c={ callee:=.builtin .append,args:=#[s,x],argTypes:=#[t,t'] }:=by
 have a:c.args=#[s,x]:=by apply BK.1;simpa using h1
 have e2:c.argTypes=#[t,t']:=by apply BK.1;simpa using h2
 cases c;simp_all
theorem Zfg{o:Oper}{A:Prop}{p:PV}{S':Store}{a:List Ob}{K:PV->Store->Prop}(h:QJ P nx S obs F o=some (A,p,S',a))(i:A)(g:K p (ext S' nx a)):PO P r n o F (ext S nx obs) K:=by
 unfold QJ at h;split at h
 ·rename_i t x ho;split at h
  ·rename_i q hq;cases h;exact Xm (p:=p) (S':=ext S nx obs) (by grind[jp]) g
  ·cases h
 ·rename_i t x y ho;split at h
  ·rename_i id ver off hx;split at h
   ·rename_i v e cs hs;split at h
    ·rename_i hc;obtain⟨c1,c2,c3,c4⟩:=hc;have d:∀T,(off+(ev F y).cells.length<=cs.length)->(ext S nx obs).set id (.cells v e (yk cs off (ev F y).cells))=T->K (.sc undef) T->PO P r n o F (ext S nx obs) K:=by
      intro T w e1 g;refine Xm (p:=.sc undef) (S':=T) ?_ g;unfold jp;rw[ho];simp only[Xl,hx,hs];rw[if_pos ⟨c1,c2,c3,w,c4⟩,e1];rfl
     split at h
     ·rename_i hid;cases h;refine d _ i (yl _ hid ?_) g;rcases Bh (id-nx) obs.length with q | q
      ·exact q
      ·exfalso;simp only[ext]at hs;rw[if_neg DO,Aa,Ao q]at hs;cases hs
     grind[qq]
    ·cases h
   ·cases h
  ·cases h
 ·rename_i c ho;split at h
  ·rename_i b;split at h
   ·rename_i s x t t' h1 h2;split at h
    ·rename_i id ver sz k a0;split at h
     ·rename_i v e cs hs;split at h
      ·rename_i e' a3 by_ f;split at h
       ·rename_i m ds u;split at h
        ·rename_i hc;obtain⟨rfl,rfl,rfl,hu⟩:=hc;split at h
         ·rename_i hid;cases h;obtain⟨z,j,rfl⟩:=Zcc f;obtain⟨a1,l⟩:=i;have a4:id-nx<obs.length:=by
           rcases Bh (id-nx) obs.length with q | q
           ·exact q
           ·exfalso;simp only[ext]at hs;rw[if_neg DO,Aa,Ao q]at hs;cases hs
          have ha:k+m<=140737488355328:=AF (CF _ (B3 j.bpos)) l;rw[Zcd b h1 h2]at ho
          grind[Zb7,yl]
         ·rename_i hid;cases h;obtain⟨z,j,rfl⟩:=Zcc f;obtain⟨a1,l⟩:=i;have ha:k+m<=140737488355328:=AF (CF _ (B3 j.bpos)) l;rw[Zcd b h1 h2]at ho
          grind[Zb7,qq]
        ·cases h
       ·cases h
      ·cases h
     ·cases h
    ·cases h
   ·cases h
  ·cases h
 ·cases h
theorem Zfh{o:Oper}{A:Prop}{u:Nat->PV}{w:Nat->Ob}{K:PV->Store->Prop}(h:QK P nx S obs F o=some (A,u,w))(i:A)(hK:∀v,K (u v) (ext S nx (obs++[w v]))):PO P r n o F (ext S nx obs) K:=by
 unfold QK at h;split at h
 ·rename_i t ho;split at h
  ·rename_i z j;split at h
   ·rename_i h1;cases h;exact Zfc ho j h1 (Yk (X:=λid v=>K (.ptr id v 0) ((ext S nx obs).set id (.cells v t (jI z)))) _ Zt λv=>by simp_all[jr])
   ·cases h
  ·cases h
 ·rename_i t x ho;split at h
  ·rename_i h1;cases h;exact Zlg ho h1 (Yk (X:=λid v=>K (.ptr id v 0) ((ext S nx obs).set id (.cells v t (ev F x).cells))) _ Zt λv=>by grind[jr])
  ·cases h
 ·rename_i t l c ho;split at h
  ·rename_i k1 a k2 b hl hc;split at h
   ·rename_i e ht;split at h
    ·rename_i z j;split at h
     ·rename_i by_ k
      split at h
      ·rename_i d;obtain⟨c1,c2,c3⟩:=d;cases h;obtain⟨y,a2,a3,a4⟩:=i;obtain⟨a',rfl⟩:=Ay y;obtain⟨b',rfl⟩:=Ay (Int.le_trans y a2);simp only[AN]at hK a4;exact Zlh ho ht hl hc j c1 c2 c3 k DO DO a4 (Yk (X:=λid v=>K (.sl id v (P.cellsOf e) 0 a') ((ext S nx obs).set id (.cells v e (qa b' z)))) _ Zt λv=>by grind[jr])
      ·cases h
     ·cases h
    ·cases h
   ·cases h
  ·cases h
 ·rename_i t ho;cases h;exact Zlq ho (Yk (X:=λid v=>K (.mp id v) ((ext S nx obs).set id (.map v []))) _ Zt λv=>by simp_all[jr])
 ·rename_i c ho;split at h
  ·rename_i f;split at h
   ·rename_i s x t t' h1 h2;split at h
    ·rename_i p;split at h
     ·rename_i e sz by_ q;split at h
      ·rename_i m ds g;split at h
       ·rename_i hc;cases h;obtain⟨z,hE,rfl⟩:=Zcc q;have ha:m<=140737488355328:=AF (CF _ (B3 hE.bpos)) i;rw[Zcd f h1 h2]at ho;exact Zls ho hc hE p g i ha (Yk (X:=λid v=>K (.sl id v (P.cellsOf e) 0 m) ((ext S nx obs).set id (.cells v e ds))) _ Zt λv=>by grind[jr])
       ·cases h
      ·cases h
     ·cases h
    ·cases h
   ·cases h
  ·cases h
 ·cases h
theorem Zce{o:Oper}{f:FuncId}{args:List PV}{K:PV->Store->Prop}(h:Y4 F o=some (f,args))(b:SpecV P r.V f args S K):PO P r n o F S K:=by
 unfold Y4 at h;split at h
 ·rename_i c ho;split at h
  ·rename_i x a;split at h
   ·rename_i k fs cs hx;cases h;exact Ze8 ho a hx b.1 b.2 λ_ _ h=>h
   ·cases h
  ·cases h
 ·cases h
theorem Zlu{ops:Array Oper}{D:List (Nat × Nat)}(h:uX ops D=true){o:Oper}(ho:o∈ops.toList)(F:Nat->PV):gd ops F o=gdD D F o:=by
 unfold uX at h;rw[Aw]at h;have:=h o ho
 grind[gd,gdD]
theorem Xv{D:List (Nat × Nat)}{ops:Array Oper}(c:uX ops D=true){K:(Nat->PV)->Store->List Ob->Prop}{Gc:List Oper->(Nat->PV)->Store->List Ob->Option Nat->FuncId->List PV->Prop}{Gh:List Oper->(Nat->PV)->Store->List Ob->Oper->Prop}
  (hc:∀os F S obs d f args,Gc os F S obs d f args->os <:+ ops.toList->SpecV P r.V f args (ext S nx obs) (λp S'=>∃S1 a,S'=ext S1 nx a/\XS P r n nx ops K os (yg F d p) S1 a))
  (e:∀os F S obs o,Gh os F S obs o->os <:+ ops.toList->PO P r n o F (ext S nx obs) (λp S'=>∃S1 a,S'=ext S1 nx a/\XS P r n nx ops K os (yg F o.dst p) S1 a)) :
  ∀(l:List Oper) (F:Nat->PV) (S:Store) (obs:List Ob),l <:+ ops.toList->XR P nx D K Gc Gh l F S obs->XS P r n nx ops K l F S obs
 | [],F,S,obs,_,h=>h
 | o :: os,F,S,obs,hs,h=>by
  have b:os <:+ ops.toList:=(List.suffix_cons o os).trans hs;unfold XR Xu at h;rw[<-Zlu c (hs.subset DP) F]at h;unfold XS;split at h
  ·omega
  ·exact Xv c hc e os _ _ _ b h
  ·split at h
   ·rename_i p i;exact V4 i ⟨S,obs,rfl,Xv c hc e os _ _ _ b h⟩
   ·split at h
    ·rename_i A p S' g hm;exact Zfg hm h.1 ⟨S',g,rfl,Xv c hc e os _ _ _ b h.2⟩
    ·split at h
     ·rename_i A j k hm;exact Zfh hm h.1 λv=>⟨S,_,rfl,Xv c hc e os _ _ _ b (h.2 v)⟩
     ·split at h
      ·rename_i f args hf;exact Zce hf (hc _ _ _ _ _ _ _ h b)
      ·exact e _ _ _ _ _ h b
theorem wK{ops:Array Oper}{K:(Nat->PV)->Store->List Ob->Prop}{l:List Oper}{D:List (Nat × Nat)}(hs:l <:+ ops.toList)(b:uX ops D=true)
  (h:∀(Gc:List Oper->(Nat->PV)->Store->List Ob->Option Nat->FuncId->List PV->Prop) (Gh:List Oper->(Nat->PV)->Store->List Ob->Oper->Prop),
   (∀os F S obs d f args,(os <:+ ops.toList->SpecV P r.V f args (ext S nx obs) (λp S'=>∃S1 a,S'=ext S1 nx a/\XS P r n nx ops K os (yg F d p) S1 a))->Gc os F S obs d f args) ->
   (∀os F S obs o,(os <:+ ops.toList->PO P r n o F (ext S nx obs) (λp S'=>∃S1 a,S'=ext S1 nx a/\XS P r n nx ops K os (yg F o.dst p) S1 a))->Gh os F S obs o) ->
   ∀X:List Oper->(Nat->PV)->Store->List Ob->Prop,(∀F S obs,X [] F S obs=K F S obs)->(∀o os F S obs,X (o :: os) F S obs=Xu P nx D Gc Gh (X os) o os F S obs)->X l F S obs):XS P r n nx ops K l F S obs :=
 Xv b (λ_ _ _ _ _ _ _ h=>h) (λ_ _ _ _ _ h=>h) l F S obs hs (h _ _ (λ_ _ _ _ _ _ _ h=>h) (λ_ _ _ _ _ h=>h) _ (λ_ _ _=>rfl) (λ_ _ _ _ _=>rfl))
theorem Zfi{ops:Array Oper}{Q':Exit->Act->World->Prop}(u:∀o∈ops,∀d,o.dst=some d->d<N){K:(Nat->PV)->Store->List Ob->Prop}{C0:Ctx}{S0:Store}{w0:World}{ds:List Deferred}
  (y:∀F' S' b C' w' i,K F' S' b->St r C' (ext S' nx b) w' N F' i->i.defers=ds->Step C0 S0 w0 C' (ext S' nx b) w'->Q' .normal i w') :
  ∀(m k:Nat) (F:Nat->PV) (S:Store) (obs:List Ob) (C:Ctx) (w:World) (a:Act),ops.size-k=m->XS P r n nx ops K (ops.toList.drop k) F S obs->St r C (ext S nx obs) w N F a->a.defers=ds->Step C0 S0 w0 C (ext S nx obs) w ->
   wpOpsIn (Fe r) n P ops Q' ((List.range ops.size).drop k) a w:=by
 intro m
 induction m with
 | zero =>
  intro k F S obs C w a hm h st l step;have z:(List.range ops.size).drop k=[]:=BU DT;have e2:ops.toList.drop k=[]:=BU DT;rw[z];rw[e2]at h;exact y F S obs C w a h st l step
 | succ m q =>
  intro k F S obs C w a hm h st l step;have s:k<ops.size:=DO
  rw[ZbW k _ s];have e2:ops.toList.drop k=ops[k] :: ops.toList.drop (k+1):=by
   rw[AJ DO];simp
  rw[e2]at h;have f:ops[k]?=some ops[k]:=DP
  have e:∀x,ops[k].dst=some x->x<N:=u _ (Dn s);rw[wpOpsIn_cons];unfold wpOpIn;rw[f];dsimp only;unfold XS at h;split at h
  ·exact h.elim
  ·rename_i j;rw[QG st j];simp only[AT,if_false];exact⟨λ_ _=>trivial,q (k+1) _ _ _ C w _ DO h (st.put (.refl _ _ _) st.sim e (.sc _)) (by simp_all[WD]) step⟩
  ·rename_i j;rw[QG st j];simp only[if_true];refine h F (λ_ _=>rfl) C w a N st _ _ ?_;rintro v w' C' S' p ⟨S1,t,rfl,hp⟩ g hs c;exact q (k+1) _ _ _ C' w' _ DO hp (st.put c hs e g) (by simp_all[WD]) (step.trans c)
theorem Zlv{id:Nat}{ops:Array Oper}(g:vw N ops=true)(h:∀K:(Nat->PV)->Store->List Ob->Prop,(∀F' S' b,Q .normal F' (ext S' nx b)->K F' S' b)->XS P r n nx ops K ops.toList F S obs):PW P r n N (.region id ops false) Q F (ext S nx obs):=by
 intro C w a st;refine wpIn_region ?_;have:=Zfi (Q':=λe d w'=>∃F' S' C',Q e F' S'/\St r C' S' w' N F' d/\Defs w.heap.size a.defers C' S' w' d.defers/\Step C (ext S nx obs) w C' S' w') (V6 g)
  (λF' S' b C' w' d i f j c=>⟨F',_,C',i,f,.of_eq j,c⟩) ops.size 0 F S obs C w a rfl (K:=λF' S' b=>Q .normal F' (ext S' nx b)) (by simpa using h _ λ_ _ _ h=>h) st rfl (.refl _ _ _)
 simpa using this
theorem xL{id:Nat}{ops:Array Oper}(D:List (Nat × Nat))(c:vw N ops=true)(e:uX ops D=true)
  (h:∀(K:(Nat->PV)->Store->List Ob->Prop) (Gc:List Oper->(Nat->PV)->Store->List Ob->Option Nat->FuncId->List PV->Prop) (Gh:List Oper->(Nat->PV)->Store->List Ob->Oper->Prop),
   (∀F' S' b,Q .normal F' (ext S' nx b)->K F' S' b) ->
   (∀os F S obs d f args,(os <:+ ops.toList->SpecV P r.V f args (ext S nx obs) (λp S'=>∃S1 a,S'=ext S1 nx a/\XS P r n nx ops K os (yg F d p) S1 a))->Gc os F S obs d f args) ->
   (∀os F S obs o,(os <:+ ops.toList->PO P r n o F (ext S nx obs) (λp S'=>∃S1 a,S'=ext S1 nx a/\XS P r n nx ops K os (yg F o.dst p) S1 a))->Gh os F S obs o) ->
   ∀X:List Oper->(Nat->PV)->Store->List Ob->Prop,(∀F S obs,X [] F S obs=K F S obs)->(∀o os F S obs,X (o :: os) F S obs=Xu P nx D Gc Gh (X os) o os F S obs)->X ops.toList F S obs):PW P r n N (.region id ops false) Q F (ext S nx obs) :=
 Zlv c λK g=>wK (Dv _) e λGc Gh hc i X h0 j=>h K Gc Gh g hc i X h0 j
end
open Go
section
variable (P:Program) (nx:Nat)
def Xw(ops:Array Oper)(ids:Option (List Nat))(S0:Store)(Gp:Row->(Nat->PV)->Store->List Ob->Option Nat->FuncId->List PV->Prop)(X:(Nat->PV)->Store->List Ob->Prop)(i:Nat)(is:Row)(F:Nat->PV)(S:Store)(obs:List Ob):Prop :=
 match ops[i]? with
 | none=>False
 | some o =>
  match gd ops F o with
  | none=>False
  | some false=>X (yg F o.dst (.sc undef)) S obs
  | some true =>
   match vu P F o with
   | some p=>X (yg F o.dst p) S obs
   | none =>
    match Jy P ids S0 F o with
    | some p=>X (yg F o.dst p) S obs
    | none =>
     match Y4 F o with
     | some (f,args)=>Gp is F S obs o.dst f args
     | none=>False
def Xx(ops:Array Oper)(ids:Option (List Nat))(S0:Store)(Gc:Row->(Nat->PV)->Store->List Ob->Option Nat->FuncId->List PV->Prop)(Gh:Row->(Nat->PV)->Store->List Ob->Oper->Prop)(X:(Nat->PV)->Store->List Ob->Prop)(i:Nat)(is:Row)(F:Nat->PV)(S:Store)(obs:List Ob):Prop :=
 match ops[i]? with
 | none=>False
 | some o =>
  match gd ops F o with
  | none=>False
  | some false=>X (yg F o.dst (.sc undef)) S obs
  | some true =>
   match QJ P nx S obs F o with
   | some (A,p,S',obs')=>A/\yR ids S0 (ext S' nx obs')/\X (yg F o.dst p) S' obs'
   | none =>
    match QK P nx S obs F o with
    | some (A,pf,of)=>A/\∀v,yR ids S0 (ext S nx (obs++[of v]))/\X (yg F o.dst (pf v)) S (obs++[of v])
    | none =>
     match Y4 F o with
     | some (f,args)=>Gc is F S obs o.dst f args
     | none=>Gh is F S obs o
def XD(ops:Array Oper)(ids:Option (List Nat))(S0:Store)(K:(Nat->PV)->Store->List Ob->Prop)(Gp Gc:Row->(Nat->PV)->Store->List Ob->Option Nat->FuncId->List PV->Prop)(Gh:Row->(Nat->PV)->Store->List Ob->Oper->Prop):
  Row->(Nat->PV)->Store->List Ob->Prop
 | .done,F,S,obs=>K F S obs
 | .stop,_,_,_=>True
 | .pure i is,F,S,obs=>Xw P ops ids S0 Gp (XD ops ids S0 K Gp Gc Gh is) i is F S obs
 | .alt i is more,F,S,obs=>Xx P nx ops ids S0 Gc Gh (XD ops ids S0 K Gp Gc Gh is) i is F S obs/\XD ops ids S0 K Gp Gc Gh more F S obs
end
def KX(nx:Nat)(K:(Nat->PV)->Store->List Ob->Prop)(F:Nat->PV)(T:Store):Prop:=∃S obs,T=ext S nx obs/\K F S obs
section
variable {P:Program} {r:Rd} {n nx N:Nat} {Q:Exit->(Nat->PV)->Store->Prop} {F:Nat->PV} {S:Store} {obs:List Ob}
theorem Zlw{o:Oper}{A:Prop}{p:PV}{S':Store}{a:List Ob}(h:QJ P nx S obs F o=some (A,p,S',a))(d:A):
  jp P F (ext S nx obs) o=some (p,ext S' nx a)\/jp P F (ext S nx obs) o=none:=by
 unfold QJ at h;split at h
 ·rename_i t x ho;split at h
  ·rename_i q f;cases h;left;unfold jp;rw[ho];simp only[f,A4]
  ·cases h
 ·rename_i t x y ho;split at h
  ·rename_i id ver off hx;split at h
   ·rename_i v e cs hs;split at h
    ·rename_i hc;obtain⟨c1,c2,c3,c4⟩:=hc;have b:∀T,(off+(ev F y).cells.length<=cs.length)->(ext S nx obs).set id (.cells v e (yk cs off (ev F y).cells))=T->jp P F (ext S nx obs) o=some (.sc undef,T):=by
      intro T g i;unfold jp;rw[ho];simp only[Xl,hx,hs];rw[if_pos ⟨c1,c2,c3,g,c4⟩,i];rfl
     left;split at h
     ·rename_i hid;cases h;refine b _ d (yl _ hid ?_);rcases Bh (id-nx) obs.length with q | q
      ·exact q
      ·exfalso;simp only[ext]at hs;rw[if_neg DO,Aa,Ao q]at hs;cases hs
     ·rename_i hid;cases h;exact b _ d (qq _ DO)
    ·cases h
   ·cases h
  ·cases h
 ·rename_i c ho;right;unfold jp;rw[ho]
 simp
theorem Zlx{o:Oper}{x:Prop × (Nat->PV) × (Nat->Ob)}(h:QK P nx S obs F o=some x)(T:Store):jp P F T o=none:=by grind[QK,jp]
theorem Zly{o:Oper}{x:FuncId × List PV}(h:Y4 F o=some x)(T:Store):jp P F T o=none:=by grind[Y4,jp]
theorem Y5{ops:Array Oper}{ids:Option (List Nat)}{S0:Store}{K:(Nat->PV)->Store->List Ob->Prop}{Gp Gc:Row->(Nat->PV)->Store->List Ob->Option Nat->FuncId->List PV->Prop}{Gh:Row->(Nat->PV)->Store->List Ob->Oper->Prop}
  (c:∀a F S obs d f args,Gp a F S obs d f args->∃p,Pure P f args p/\PX P r n ops ids S0 a (yg F d p) (ext S nx obs) (KX nx K))
  (hc:∀a F S obs d f args,Gc a F S obs d f args->SpecV P r.V f args (ext S nx obs) (λp S'=>yR ids S0 S'/\PX P r n ops ids S0 a (yg F d p) S' (KX nx K)))
  (g:∀a F S obs o,Gh a F S obs o->jp P F (ext S nx obs) o=none/\PO P r n o F (ext S nx obs) (λp S'=>yR ids S0 S'/\PX P r n ops ids S0 a (yg F o.dst p) S' (KX nx K))) :
  ∀(row:Row) (F:Nat->PV) (S:Store) (obs:List Ob),XD P nx ops ids S0 K Gp Gc Gh row F S obs->PX P r n ops ids S0 row F (ext S nx obs) (KX nx K)
 | .done,F,S,obs,h=>⟨S,obs,rfl,h⟩
 | .stop,_,_,_,_=>trivial
 | .pure i a,F,S,obs,h=>by
  unfold XD Xw at h;unfold PX;cases ho:ops[i]? with
  | none=>simp only[ho]at h
  | some o =>
   simp only[ho]at h ⊢;cases j:gd ops F o with
   | none=>simp only[j]at h
   | some b =>
    cases b with
    | false=>simp only[j]at h ⊢;exact Y5 c hc g a _ _ _ h
    | true =>
     simp only[j]at h ⊢;cases h1:vu P F o with
     | some p=>simp only[h1]at h ⊢;exact Y5 c hc g a _ _ _ h
     | none =>
      simp only[h1]at h ⊢;cases h2:Jy P ids S0 F o with
      | some p=>simp only[h2]at h ⊢;exact Y5 c hc g a _ _ _ h
      | none =>
       simp only[h2]at h ⊢;cases h3:Y4 F o with
       | none=>simp only[h3]at h
       | some q =>
        obtain⟨f,args⟩:=q;simp only[h3]at h;obtain⟨p,s,t⟩:=c _ _ _ _ _ _ _ h;exact⟨p,λS' _=>Zce h3 (s S').v,t⟩
 | .alt i a more,F,S,obs,h=>by
  unfold XD Xx at h;unfold PX;obtain⟨h,k⟩:=h;refine⟨?_,Y5 c hc g more _ _ _ k⟩;cases ho:ops[i]? with
  | none=>simp only[ho]at h
  | some o =>
   simp only[ho]at h ⊢;cases j:gd ops F o with
   | none=>simp only[j]at h
   | some b =>
    cases b with
    | false=>simp only[j]at h ⊢;exact Y5 c hc g a _ _ _ h
    | true =>
     simp only[j]at h ⊢;cases hm:QJ P nx S obs F o with
     | some x =>
      obtain⟨A,p,S',m⟩:=x;simp only[hm]at h;obtain⟨u,w,h⟩:=h;have key:=Y5 c hc g a _ _ _ h;rcases Zlw hm u with e | e<;>grind[Zfg]
     | none =>
      simp only[hm]at h;cases l:QK P nx S obs F o with
      | some x =>
       obtain⟨A,y,z⟩:=x;simp only[l]at h;simp only[Zlx l];exact Zfh l h.1 λv=>⟨(h.2 v).1,Y5 c hc g a _ _ _ (h.2 v).2⟩
      | none =>
       grind[Zly,Zce]
theorem Zfj{ops:Array Oper}{ids:Option (List Nat)}{S0:Store}{K:(Nat->PV)->Store->List Ob->Prop}{row:Row}
  (h:∀(Gp Gc:Row->(Nat->PV)->Store->List Ob->Option Nat->FuncId->List PV->Prop) (Gh:Row->(Nat->PV)->Store->List Ob->Oper->Prop),
   (∀a F S obs d f args p,Pure P f args p->PX P r n ops ids S0 a (yg F d p) (ext S nx obs) (KX nx K)->Gp a F S obs d f args) ->
   (∀a F S obs d f args,SpecV P r.V f args (ext S nx obs) (λp S'=>yR ids S0 S'/\PX P r n ops ids S0 a (yg F d p) S' (KX nx K))->Gc a F S obs d f args) ->
   (∀a F S obs o,jp P F (ext S nx obs) o=none->PO P r n o F (ext S nx obs) (λp S'=>yR ids S0 S'/\PX P r n ops ids S0 a (yg F o.dst p) S' (KX nx K))->Gh a F S obs o) ->
   ∀X:Row->(Nat->PV)->Store->List Ob->Prop,(∀F S obs,X .done F S obs=K F S obs)->(∀F S obs,X .stop F S obs=True)->(∀i a F S obs,X (.pure i a) F S obs=Xw P ops ids S0 Gp (X a) i a F S obs) ->
   (∀i a more F S obs,X (.alt i a more) F S obs=(Xx P nx ops ids S0 Gc Gh (X a) i a F S obs/\X more F S obs))->X row F S obs):PX P r n ops ids S0 row F (ext S nx obs) (KX nx K) :=
 Y5 (Gp:=λa F S obs d f args=>∃p,Pure P f args p/\PX P r n ops ids S0 a (yg F d p) (ext S nx obs) (KX nx K)) (Gh:=λa F S obs o=>jp P F (ext S nx obs) o=none/\PO P r n o F (ext S nx obs) (λp S'=>yR ids S0 S'/\PX P r n ops ids S0 a (yg F o.dst p) S' (KX nx K)))
  (λ_ _ _ _ _ _ _ h=>h) (λ_ _ _ _ _ _ _ h=>h) (λ_ _ _ _ _ h=>h) row F S obs
  (h _ _ _ (λ_ _ _ _ _ _ _ p h1 h2=>⟨p,h1,h2⟩) (λ_ _ _ _ _ _ _ h=>h) (λ_ _ _ _ _ h1 h2=>⟨h1,h2⟩) _ (λ_ _ _=>rfl) (λ_ _ _=>rfl) (λ_ _ _ _ _=>rfl) (λ_ _ _ _ _ _=>rfl))
theorem Zfk{ops:Array Oper}{ids:Option (List Nat)}{S0:Store}:∀(row:Row) (F:Nat->PV) (T:Store),PX P r n ops ids S0 row F T (KX nx λF' S' a=>Q .normal F' (ext S' nx a))->PX P r n ops ids S0 row F T (Q .normal):=by
 have e:(KX nx λF' S' a=>Q .normal F' (ext S' nx a))=λF' T=>(∃S' a,T=ext S' nx a)/\Q .normal F' T:=by
  funext F' T;apply propext;constructor
  ·rintro⟨S',a,rfl,h⟩;grind
  ·rintro⟨⟨S',a,rfl⟩,h⟩;exact⟨S',a,rfl,h⟩
 intro row
 induction row with
 | done=>simp_all
 | stop=>simp
 | pure i f j =>
  intro F T h;unfold PX at h ⊢;cases ho:ops[i]? with
  | none=>simp_all
  | some o =>
   simp only[ho]at h ⊢;cases c:gd ops F o with
   | none=>simp only[c]at h
   | some b =>
    cases b<;>grind
 | alt i f more g d =>
  intro F T h;unfold PX at h ⊢;refine⟨?_,d _ _ h.2⟩;have h:=h.1;cases ho:ops[i]? with
  | none=>simp_all
  | some o =>
   simp only[ho]at h ⊢;cases c:gd ops F o with
   | none=>simp only[c]at h
   | some b =>
    cases b with
    | false=>grind
    | true =>
     simp only[c]at h ⊢
     grind[Zlt]
theorem Zlz{id:Nat}{ops:Array Oper}(ids:Option (List Nat))(row:Row)(hm:P.follows .mixedOrders=true)(m:vw N ops=true)(q:Jw ops=true)(l:wA ops [] [] row=true)
  (h:∀(K:(Nat->PV)->Store->List Ob->Prop) (Gp Gc:Row->(Nat->PV)->Store->List Ob->Option Nat->FuncId->List PV->Prop) (Gh:Row->(Nat->PV)->Store->List Ob->Oper->Prop),
   (∀F' S' j,Q .normal F' (ext S' nx j)->K F' S' j) ->
   (∀k F' S' j d f args p,Pure P f args p->PX P r n ops ids (ext S nx obs) k (yg F' d p) (ext S' nx j) (KX nx K)->Gp k F' S' j d f args) ->
   (∀k F' S' j d f args,SpecV P r.V f args (ext S' nx j) (λp T=>yR ids (ext S nx obs) T/\PX P r n ops ids (ext S nx obs) k (yg F' d p) T (KX nx K))->Gc k F' S' j d f args) ->
   (∀k F' S' j o,jp P F' (ext S' nx j) o=none->PO P r n o F' (ext S' nx j) (λp T=>yR ids (ext S nx obs) T/\PX P r n ops ids (ext S nx obs) k (yg F' o.dst p) T (KX nx K))->Gh k F' S' j o) ->
   ∀X:Row->(Nat->PV)->Store->List Ob->Prop,(∀F S obs,X .done F S obs=K F S obs)->(∀F S obs,X .stop F S obs=True)->(∀i k F' S' j,X (.pure i k) F' S' j=Xw P ops ids (ext S nx obs) Gp (X k) i k F' S' j) ->
   (∀i k more F' S' j,X (.alt i k more) F' S' j=(Xx P nx ops ids (ext S nx obs) Gc Gh (X k) i k F' S' j/\X more F' S' j))->X row F S obs):PW P r n N (.region id ops true) Q F (ext S nx obs):=by
 refine Zac ids row hm m q l ?_;have:=Zfj (P:=P) (r:=r) (n:=n) (nx:=nx) (ops:=ops) (ids:=ids) (S0:=ext S nx obs) (K:=λF' S' j=>Q .normal F' (ext S' nx j)) (row:=row) (F:=F) (S:=S) (obs:=obs) (λGp Gc Gh a b c X d e f g=>h _ Gp Gc Gh (λ_ _ _ h=>h) a b c X d e f g);exact Zfk row F _ this
def fr:List (Nat × PV)->Nat->PV
 | [],_=>.junk
 | (a,p) :: l,i=>if i=a then p else fr l i
theorem Zfl{l:List (Nat × PV)}(h:∀x∈l,F x.1=x.2)(i:Nat):fr l i=F i\/fr l i=.junk:=by induction l<;>grind[fr]
theorem Xy{c:Code}{T T':Store}(d:∀o,T' o=T o\/T' o=.dead)(h:PW P r n N c Q F T'):PW P r n N c Q F T :=
 Y1 (λC w a st=>by
  obtain⟨k1,b⟩:=st.sim.kill d;exact⟨C,⟨k1,st.size,λi=>(st.fr i).mono b,r.keep b st.v⟩,b⟩) h
theorem Zfm{c:Code}(L:List (Nat × PV)){more:List Ob}(a:∀x∈L,F x.1=x.2)(h:PW P r n N c Q (fr L) (ext S nx obs)):PW P r n N c Q F (ext S nx (obs++more)) :=
 Zle (F':=fr L) (Zfl a) (Xy (Zcb more) h)
def At{σ:Type}(nx:Nat)(I:σ->Prop)(L:σ->List (Nat × PV))(B:σ->Store)(T:σ->List Ob)(F:Nat->PV)(S:Store):Prop :=
 ∃s more,I s/\(∀x∈L s,F x.1=x.2)/\S=ext (B s) nx (T s++more)
theorem zZ{σ:Type}{I:σ->Prop}{L:σ->List (Nat × PV)}{B:σ->Store}{T:σ->List Ob}(s:σ)(more:List Ob)(hI:I s)(a:∀x∈L s,F x.1=x.2)(b:B s=S)(c:T s++more=obs):At nx I L B T F (ext S nx obs) :=
 ⟨s,more,hI,a,by rw[b,c]⟩
def Zcf{σ:Type}(nx:Nat)(I:σ->Prop)(L:σ->List (Nat × PV))(B:σ->Store)(T:σ->List Ob)(μ:σ->Nat)(m:Nat)(F:Nat->PV)(S:Store):Prop :=
 ∃s more,I s/\μ s<m/\(∀x∈L s,F x.1=x.2)/\S=ext (B s) nx (T s++more)
theorem zu{σ:Type}{I:σ->Prop}{L:σ->List (Nat × PV)}{B:σ->Store}{T:σ->List Ob}{μ:σ->Nat}{m:Nat}(s:σ)(more:List Ob)(hI:I s)(hm:μ s<m)(a:∀x∈L s,F x.1=x.2)(b:B s=S)(c:T s++more=obs):
  Zcf nx I L B T μ m F (ext S nx obs):=⟨s,more,hI,hm,a,by rw[b,c]⟩
theorem jX{σ:Type}(I:σ->Prop)(L:σ->List (Nat × PV))(B:σ->Store)(T:σ->List Ob)(μ:σ->Nat){c:Code}{S0:Store}(h0:At nx I L B T F S0)
  (round:∀s,I s->PW P r n N c (YZ (Zcf nx I L B T μ (μ s)) Q) (fr (L s)) (ext (B s) nx (T s))):PW P r n N (.loop c) Q F S0:=by
 obtain⟨s0,a,d,f,rfl⟩:=h0;refine ZbX (λF' S' m=>∃s more,I s/\m=μ s/\(∀x∈L s,F' x.1=x.2)/\S'=ext (B s) nx (T s++more)) (μ s0) ⟨s0,a,d,rfl,f,rfl⟩ ?_;rintro m F1 S1 ⟨s,more,hI,rfl,h,rfl⟩;refine Zfm (L s) h (WE (round s hI) ?_);intro e F' S' g;cases e with
 | normal =>
  obtain⟨s',b,h1,h2,h3,i⟩:=g;exact⟨μ s',⟨s',b,h1,rfl,h3,i⟩,h2⟩
 | _=>exact g
theorem zK{σ:Type}(I:σ->Prop)(L:σ->List (Nat × PV))(T:σ->List Ob)(μ:σ->Nat)(s0:σ){c:Code}(more:List Ob)(hI:I s0)(a:∀x∈L s0,F x.1=x.2)(b:T s0++more=obs)
  (round:∀s,I s->PW P r n N c (YZ (Zcf nx I L (λ_=>S) T μ (μ s)) Q) (fr (L s)) (ext S nx (T s))):PW P r n N (.loop c) Q F (ext S nx obs) :=
 jX I L (λ_=>S) T μ (zZ s0 more hI a rfl b) round
theorem Zfn {f : FuncId} {fn : Func} {c : Code} {rs : List ResultVar} {args : List PV} {Q : PV → Store → Prop} (hf : P.funcs[f]? = some fn) (hname : (fn.name == "runtime.NumGoroutine") = false) (hb : fn.body = some c) (hN : fn.ntmps = N) (hrs : fn.results.toList = rs) (hargs : args.length ≤ N)
  (h:∀nx,yd nx S->PW P jB 0 N c (ZO P rs Q) (uW args) (ext S nx [])):Spec P f args S Q:=by
 refine⟨qx hf hname hb,?_⟩;intro C w vs a;have b:yd C.next S:=λi hi=>by
  cases hs:S i with
  | dead=>rfl
  | cells v e cs=>have:=a.lt i (by rw[hs];simp);omega
  | map v es=>have:=a.lt i (by rw[hs];simp);omega
 have:=h C.next b;rw[qZ b]at this;exact vU hf hb hN hrs hargs this C w vs a
theorem ZlA {f : FuncId} {fn : Func} {c : Code} {rs : List ResultVar} {args : List PV} {Q : PV → Store → Prop} (hd : yd nx S) (hf : P.funcs[f]? = some fn) (hname : (fn.name == "runtime.NumGoroutine") = false) (hb : fn.body = some c) (hN : fn.ntmps = N) (hrs : fn.results.toList = rs) (hargs : args.length ≤ N)
  (h:PW P jB 0 N c (ZO P rs Q) (uW args) (ext S nx [])):Spec P f args S Q:=by
 refine⟨qx hf hname hb,?_⟩
 simp_all[qZ,vU]
theorem ZlB {f : FuncId} {fn : Func} {c : Code} {rs : List ResultVar} {args : List PV} {v : PV} (hf : P.funcs[f]? = some fn) (hname : (fn.name == "runtime.NumGoroutine") = false) (hb : fn.body = some c) (hN : fn.ntmps = N) (hrs : fn.results.toList = rs) (hargs : args.length ≤ N)
  (h:∀S nx,yd nx S->PW P jB 0 N c (ZO P rs (λp S'=>p=v/\S'=S)) (uW args) (ext S nx [])):Pure P f args v :=
 λS=>Zfn hf hname hb hN hrs hargs (h S)
theorem zm{rs:List ResultVar}{v:PV}{ps:List PV}(a:yd nx S)(h1:wT P F (ext S nx obs) rs=some ps)(h2:zr ps=v):
  ∃ps S',wT P F (ext S nx obs) rs=some ps/\(zr ps=v/\S'=S)/\∀o,S' o=ext S nx obs o\/S' o=.dead :=
 ⟨ps,S,h1,⟨h2,rfl⟩,yb a⟩
theorem DZ{r:Rd}{n N:Nat}{Q:Exit->(Nat->PV)->Store->Prop}{rs:List ResultVar}{v:PV}{ps:List PV}(a:yd nx S)(b:Q .ret F (ext S nx obs)=(∃ps S',wT P F (ext S nx obs) rs=some ps/\(zr ps=v/\S'=S)/\∀o,S' o=ext S nx obs o\/S' o=.dead):=by exact rfl)(h1:wT P F (ext S nx obs) rs=some ps:=by simp;rfl)(h2:zr ps=v:=by exact rfl):PW P r n N .ret Q F (ext S nx obs):=zj (b▸zm a h1 h2)
theorem JD(a:yd nx S){j:Nat}{x:Ob}(b:obs[j]?=some x)(o:Nat):S.set (nx+j) x o=ext S nx obs o\/S.set (nx+j) x o=.dead:=by grind[q11,zY,q10,yb]
theorem q9{c:Code}(d e sz:Nat)(a:F d=.sc (.slice none 0 0))(h:∀v,PW P r n N c Q (wS F d (.sl (nx+obs.length) v sz 0 0)) (ext S nx (obs++[.cells v e []]))):PW P r n N c Q F (ext S nx obs) :=
 Zlm d e sz a (Yk (X:=λid v=>PW P r n N c Q (wS F d (.sl id v sz 0 0)) ((ext S nx obs).set id (.cells v e []))) _ Zt λv=>by rw[jr];exact h v)
theorem jd{c:Code}{ver a:Nat}{cs:List PV}(j i e sz:Nat)(d:obs[j]?=some (.cells ver a cs))(hi:cs[i]?=some (.sc (.slice none 0 0)))
  (h:∀v,PW P r n N c Q F (ext S nx (obs.set j (.cells ver a (cs.set i (.sl (nx+obs.length) v sz 0 0)))++[.cells v e []]))):PW P r n N c Q F (ext S nx obs):=by
 have b:j<obs.length:=(Ad.1 d).1;refine Zca (o:=nx+j) i e sz DX hi (Yk (X:=λid v=>PW P r n N c Q F (((ext S nx obs).set id (.cells v e [])).set (nx+j) (.cells ver a (cs.set i (.sl id v sz 0 0))))) _ Zt λv=>?_);rw[jr,yl _ DO DT,AI,List.set_append_left _ _ b];exact h v
theorem Yp{c:Code}{T:Store}(d:Nat)(b:F d=.sc (.slice none 0 0))(h:PW P r n N c Q (wS F d (.lst 0 [])) T):PW P r n N c Q F T :=
 Y1 (λC w a st=>⟨C,⟨st.sim,st.size,λi=>by
  by_cases hi:i=d
  ·subst hi;rw[ZeN];have:=st.fr i;rw[b]at this;generalize a.tmps.getD i undef=v at this;cases this;exact .lst0
  ·rw[ZeO _ _ _ _ hi];exact st.fr i,st.v⟩,.refl _ _ _⟩) h
def qO(id ver:Nat)(cs:List PV)(p:PV):PV :=
 match p with
 | .sl o v sz 0 k=>if o=id/\v=ver/\k*sz=cs.length then .lst k cs else .sl o v sz 0 k
 | p=>p
def wB(id ver:Nat)(cs:List PV)(x:Ob):Ob :=
 match x with
 | .cells v e ds=>.cells v e (ds.map (qO id ver cs))
 | x=>x
theorem Zfo(id ver:Nat)(cs:List PV)(x:Ob):(wB id ver cs x).ver=x.ver:=by cases x<;>rfl
theorem Zam{C:Ctx}{S T:Store}{w:World}{id ver e:Nat}{cs:List PV}(l:Sim C S w)(hid:S id=.cells ver e cs)(z:T id=.dead)(a:∀o,T o≠.dead->S o≠.dead)(st:Step C S w C T w){p:PV}{u:Value}
  (h:Rel C S w p u):Rel C T w (qO id ver cs p) u:=by
 unfold qO;split
 ·rename_i o v sz k;split
  ·rename_i hc;obtain⟨rfl,rfl,hk⟩:=hc;cases h with
   | sl h1 h2 h3 =>
    obtain⟨ad,cap,rfl,m,n,q3,q4⟩:=h1;have d:∀b k',C.loc o=some (b,k')->¬C.M T b:=by
     rintro b k' hl ⟨i,q,hi,f⟩
     by_cases g:i=o
     ·simp_all
     ·exact g (l.dist i o b q k' (a i hi) (by rw[hid];simp) f hl)
    rcases (h3 v (by rw[hid];rfl)).2 rfl with ⟨z1,z2,_,z4⟩ | ⟨b,k',ad',cap',z1,z2,z3,z4⟩
    ·subst z2;have:cs=[]:=Av DO;subst this;cases z4;exact .lst0
    ·cases z2;rcases l.cells o v e cs hid with ⟨hn,_⟩ | ⟨b2,kk,c,g1,r,g3,g4,s,t⟩
     ·simp_all
     ·rw[g1]at z1;cases z1;obtain⟨rfl,_⟩:=z3 rfl;exact .lst1 m n r (d _ _ g1) (λ_=>by omega) (λj v x hv=>s j v x (by simpa using hv)) (λj p v y hv=>(t j p v y (by simpa using hv)).mono st)
  ·exact h.mono st
 ·exact h.mono st
theorem yh{c:Code}(j:Nat){ver e:Nat}{cs:List PV}(hj:obs[j]?=some (.cells ver e cs))(h:PW P r n N c Q (λi=>qO (nx+j) ver cs (F i)) (ext S nx ((obs.map (wB (nx+j) ver cs)).set j .dead))):PW P r n N c Q F (ext S nx obs):=by
 have y:j<obs.length:=(Ad.1 hj).1;refine Y1 (F':=λi=>qO (nx+j) ver cs (F i)) (S':=ext S nx ((obs.map (wB (nx+j) ver cs)).set j .dead)) (λC w a st=>?_) h;have hid:ext S nx obs (nx+j)=.cells ver e cs:=by rw[zY,Aa,hj];rfl
 have hT:ext S nx ((obs.map (wB (nx+j) ver cs)).set j .dead) (nx+j)=.dead:=by rw[zY,Aa,AW (by simpa using y)];rfl
 -- what stands under each number
 have g:∀o,ext S nx ((obs.map (wB (nx+j) ver cs)).set j .dead) o=.dead\/(o<nx/\ext S nx ((obs.map (wB (nx+j) ver cs)).set j .dead) o=ext S nx obs o)\/(nx<=o/\ext S nx ((obs.map (wB (nx+j) ver cs)).set j .dead) o=wB (nx+j) ver cs (ext S nx obs o)):=by
  intro o
  by_cases ho:o<nx
  ·simp_all[zJ]
  ·by_cases a0:o=nx+j
   ·simp_all
   ·refine .inr (.inr ⟨by omega,?_⟩);simp only[ext];rw[if_neg ho,if_neg ho,Aa,Aa,AZ DO,Aj];cases obs[o-nx]?<;>rfl
 generalize a1:ext S nx ((obs.map (wB (nx+j) ver cs)).set j .dead)=T at *;generalize a2:ext S nx obs=S1 at *;have l:∀o v,(T o).ver=some v->(S1 o).ver=some v:=by
  intro o v hv;rcases g o with q | ⟨_,q⟩ | ⟨_,q⟩
  ·rw[q]at hv;cases hv
  ·simp_all
  ·simp_all[Zfo]
 have f:∀o,T o≠.dead->S1 o≠.dead:=by
  intro o ho hd;rcases g o with q | ⟨_,q⟩ | ⟨_,q⟩
  ·exact ho q
  ·simp_all
  ·rw[hd]at q;exact ho q
 have hM:∀b,C.M T b->C.M S1 b:=λb ⟨o,k,ho,hl⟩=>⟨o,k,f o ho,hl⟩
 have d:Step C S1 w C T w:=⟨rfl,⟨rfl,Ag _⟩,rfl,Ag _,Ag _,Ag _,λb _ hb=>⟨rfl,λh=>hb (hM b h)⟩,λo v1 hv=>.inr ⟨v1,l o v1 hv,Ag _,λ_=>rfl⟩⟩;have s:∀{p u},Rel C S1 w p u->Rel C T w (qO (nx+j) ver cs p) u:=λh=>Zam st.sim hid hT f d h
 refine⟨C,⟨⟨λo ho=>st.sim.lt o (f o ho),λo v hv=>st.sim.clk o v (l o v hv),λo o' b k k' ho z=>st.sim.dist o o' b k k' (f o ho) (f o' z),?_,?_⟩,st.size,λi=>s (st.fr i),r.keep d st.v⟩,d⟩
 ·intro o v e' ds ho;rcases g o with q | ⟨_,q⟩ | ⟨_,q⟩
  ·simp_all
  ·rw[q]at ho;rcases st.sim.cells o v e' ds ho with hn | ⟨b,k,c,h1,h2,h3,t,h5,h6⟩
   ·exact .inl hn
   ·exact .inr ⟨b,k,c,h1,h2,h3,t,h5,λi p u hp hu=>(h6 i p u hp hu).mono d⟩
  ·rw[q]at ho;cases hs:S1 o with
   | dead=>simp_all
   | map v es=>rw[hs]at ho;cases ho
   | cells v2 e2 ds2 =>
    rw[hs]at ho;cases ho;rcases st.sim.cells o _ _ ds2 hs with ⟨h1,h2⟩ | ⟨b,k,c,h1,h2,h3,t,h5,h6⟩<;>grind
 ·intro o v es ho;have hs:S1 o=.map v es:=by
   rcases g o with q | ⟨_,q⟩ | ⟨_,q⟩
   ·simp_all
   ·simp_all
   ·rw[q]at ho;cases hs:S1 o with
    | dead=>simp_all
    | map v es=>rw[hs]at ho;exact ho
    | cells v2 e2 ds2=>rw[hs]at ho;cases ho
  obtain⟨b,k,ms,cl,h1,h2,h3,t⟩:=st.sim.maps o v es hs;exact⟨b,k,ms,cl,h1,h2,h3,λi x m hx hm=>⟨(t i x m hx hm).1,(t i x m hx hm).2.mono d⟩⟩
end
open Go
attribute [simp] V3 Yj gsl gdD Xu Xw Xx Y2 QJ QK Y4 WL fr qO wB
abbrev I(x:Int):PV:=.sc (.int .i64 x)
abbrev B(b:Bool):PV:=.sc (.bool b)
def PV.nosl:PV->Bool
 | .sl _ _ _ _ _=>false
 | _=>true
class Enc (α:Type) where
 enc:α->List PV
 sz:Nat
 len:∀x,(enc x).length=sz
 nosl:∀x,(enc x).all PV.nosl=true
theorem ZlC(id v:Nat)(cs:List PV)(p:PV)(h:p.nosl=true):qO id v cs p=p:=by
 cases p<;>first | rfl | cases h
@[simp] theorem ZwZ{α:Type}[Enc α](id v:Nat)(cs:List PV)(l:List α):(l.flatMap Enc.enc).map (qO id v cs)=l.flatMap Enc.enc:=by
 rw[AM (g:=λp=>p),List.map_id'];intro p a;obtain⟨x,_,hx⟩:=BL.1 a;exact ZlC _ _ _ _ (Aw.1 (Enc.nosl x) p hx)
abbrev L{α:Type}[Enc α](l:List α):PV:=.lst l.length (l.flatMap Enc.enc)
theorem js{α:Type}[Enc α](l:List α):(l.flatMap Enc.enc).length=l.length*Enc.sz α:=Xr Enc.enc _ Enc.len l
theorem Y6{α:Type}[Enc α](l:List α):(l.flatMap Enc.enc).take (l.length*Enc.sz α)=l.flatMap Enc.enc:=by simp[JC,Enc.len]
theorem Zcg{α:Type}[Enc α]{l:List α}{k:Nat}(h:k<l.length):(l.flatMap Enc.enc).drop (k*Enc.sz α)=Enc.enc l[k]++(l.drop (k+1)).flatMap Enc.enc:=Zfd Enc.enc _ Enc.len l k h
instance:Enc Int:=⟨λx=>[I x],1,λ_=>rfl,λ_=>rfl⟩
@[simp] theorem Zw0(x:Int):Enc.enc x=[I x]:=rfl
@[simp high] theorem jL(l:List Int):(l.flatMap Enc.enc).length=l.length:=(js l).trans (BO _)
@[simp high] theorem ZlD(l:List Int):(l.flatMap Enc.enc).take l.length=l.flatMap Enc.enc:=Af (Cw (jL l))
theorem el{α:Type}[Enc α](n:Nat)(hn:Enc.sz α=n)(l:List α)(k:Nat)(h:k<l.length):
  ∃s tl,l[k]?=some s/\l.drop k=s :: l.drop (k+1)/\l.take (k+1)=l.take k++[s]/\(∀j,j<=n->(l.flatMap Enc.enc).drop (k*n+j)=(Enc.enc s).drop j++tl)/\(l.flatMap Enc.enc).drop (k*n)=Enc.enc s++tl:=by
 subst hn;have h0:=Zcg h;refine⟨l[k],(l.drop (k+1)).flatMap Enc.enc,Ac h,AJ h,by simp,λj a=>?_,h0⟩;rw[<-List.drop_drop,h0,B7 (by simp_all[Enc.len])]
theorem zN{α:Type}[Enc α](hn:Enc.sz α=1)(l:List α)(k:Nat)(h:k<l.length):
  ∃s tl,l[k]?=some s/\l.drop k=s :: l.drop (k+1)/\l.take (k+1)=l.take k++[s]/\(l.flatMap Enc.enc).drop k=Enc.enc s++tl:=by
 obtain⟨s,tl,a,b,a3,_,c⟩:=el 1 hn l k h
 simp_all
theorem zo{P:Program}{r:Rd}{n N:Nat}{Q:Exit->(Nat->PV)->Store->Prop}{F:Nat->PV}{S:Store}{c:Operand}{x y:Code}(hc:ev F c=.sc (.bool true))(h:PW P r n N x Q F S):PW P r n N (.cond c x y) Q F S :=
 zA hc (λ_=>h) (λe=>nomatch e)
theorem zp{P:Program}{r:Rd}{n N:Nat}{Q:Exit->(Nat->PV)->Store->Prop}{F:Nat->PV}{S:Store}{c:Operand}{x y:Code}(hc:ev F c=.sc (.bool false))(h:PW P r n N y Q F S):PW P r n N (.cond c x y) Q F S :=
 zA hc (λe=>nomatch e) (λ_=>h)
theorem wr(x:Int)(h1:-9223372036854775808<=x)(h2:x<=9223372036854775807):IntKind.i64.wrap x=x:=Ym x h1 h2
theorem zy(k:Nat)(h:k<9223372036854775807):IntKind.i64.wrap ((k:Int)+1)=((k+1:Nat):Int):=by grind[Ym]
abbrev W(x:Int):Int:=IntKind.i64.wrap x
@[simp] theorem Zw1:W 0=0:=rfl
theorem Yq(a b:Int):W (W a+b)=W (a+b):=by grind[IntKind.wrap_i64]
theorem Zfp(a b:Int):W (a+W b)=W (a+b):=by grind[IntKind.wrap_i64]
theorem W_W(a:Int):W (W a)=W a:=by simp[AA]
theorem Zan{P:Program}{f:FuncId}{args:List PV}{sz k e:Nat}{cs:List PV}(j:Nat)
  (h:∀S nx,yd nx S->Spec P f args S (λp S'=>∃v,p=.sl (nx+j) v sz 0 k/\S'=S.set (nx+j) (.cells v e cs))) (s:k*sz=cs.length):Pure P f args (.lst k cs):=by
 intro S;refine⟨(h (λ_=>.dead) 0 (λ_ _=>rfl)).1,?_⟩;intro C w vs l hl r;have m:yd C.next S:=λi hi=>by
  cases hs:S i with
  | dead=>rfl
  | cells v e cs=>have:=l.lt i (by rw[hs];simp);omega
  | map v es=>have:=l.lt i (by rw[hs];simp);omega
 refine((h S C.next m).2 C w vs l hl r).mono ?_;rintro t w' ⟨p,u,S',C',rfl,⟨v,rfl,rfl⟩,c,a,b⟩;have d:=m (C.next+j) DO;have g:∀o,S o=S.set (C.next+j) (.cells v e cs) o\/S o=.dead:=by
  intro o
  by_cases ho:o=C.next+j
  ·subst ho;exact .inr d
  ·exact .inl (q10 _ _ _ _ ho).symm
 obtain⟨k1,n⟩:=a.kill g;refine⟨.lst k cs,u,S,C',rfl,⟨rfl,rfl⟩,?_,k1,b.trans n⟩;have:=Zam a (q11 _ _ _) d (λo ho=>by
  rcases g o with q | q
  ·rw[<-q];exact ho
  ·exact absurd q ho) n c
 simp_all
theorem Xz{S:Store}{nx:Nat}{obs:List Ob}(x:Ob):(ext S nx obs).set (nx+obs.length+1) x=ext S nx (obs++[.dead,x]):=by
 have e:ext S nx obs=ext S nx (obs++[.dead]):=by
  funext i;simp only[ext];split
  ·rfl
  ·rw[Aa,Aa]
   by_cases h3:i-nx<obs.length
   ·rw[As h3]
   ·rw[Ao DO]
    by_cases a:i-nx=obs.length
    ·rw[Ak DO,a];simp
    ·rw[Ao DT]
 rw[e];have:=jr (S:=S) (nx:=nx) (obs:=obs++[.dead]) x
 grind
theorem yn{P:Program}{r:Rd}{n nx N:Nat}{Q:Exit->(Nat->PV)->Store->Prop}{F:Nat->PV}{S:Store}{obs:List Ob}{c:Code}{ver d:Nat}{cs:List PV}(j i:Nat)(f:obs[j]?=some (.cells ver d cs))(hi:cs[i]?=some (.sc (.slice none 0 0)))
  (h:PW P r n N c Q F (ext S nx (obs.set j (.cells ver d (cs.set i (.lst 0 [])))))):PW P r n N c Q F (ext S nx obs):=by
 have g:j<obs.length:=(Ad.1 f).1;refine Y1 (F':=F) (S':=ext S nx (obs.set j (.cells ver d (cs.set i (.lst 0 []))))) (λC w a st=>?_) h;have hs:ext S nx obs (nx+j)=.cells ver d cs:=by rw[zY,Aa,f];rfl
 have:=st.sim.relabel (cs':=cs.set i (.lst 0 [])) hs DP (by
  intro k l b;rw[Bu]at b;split at b
  ·rename_i e;subst e;split at b
   ·cases b;refine .inr ⟨_,hi,λv hv=>?_⟩;cases hv;exact .lst0
   ·cases b
  ·exact .inl b)
 rw[yl _ DO DO,AI]at this;exact⟨C,⟨this.1,st.size,λk=>(st.fr k).mono this.2,r.keep this.2 st.v⟩,this.2⟩
theorem qy{P:Program}{r:Rd}{n nx N:Nat}{Q Q2:Exit->(Nat->PV)->Store->Prop}{F:Nat->PV}{σ:Type}(I:σ->Prop)(L:σ->List (Nat × PV))(B:σ->Store)(T:σ->List Ob){x y:Code}{S0:Store}
  (h1:PW P r n N x (YZ (At nx I L B T) Q) F S0) (h2:∀s,I s->PW P r n N y Q2 (fr (L s)) (ext (B s) nx (T s))):PW P r n N x (YZ (PW P r n N y Q2) Q) F S0:=by
 refine WE h1 ?_;intro e F' S' a;cases e with
 | normal =>
  obtain⟨s,more,hI,b,rfl⟩:=a;exact Zfm (L s) b (h2 s hI)
 | _=>exact a
theorem ZlF{P:Program}{r:Rd}{n nx N:Nat}{Q:Exit->(Nat->PV)->Store->Prop}{F:Nat->PV}{S:Store}{obs:List Ob}{c:Code}(a more:List Ob)(b:obs=a++more)(h:PW P r n N c Q F (ext S nx a)):PW P r n N c Q F (ext S nx obs):=by subst b;exact Xy (Zcb more) h
def Wk(p q:PV):Prop:=∀(C:Ctx) (S:Store) (w:World) (v:Value),Rel C S w p v->Rel C S w q v
theorem Wk.rfl{p:PV}:Wk p p:=λ_ _ _ _ h=>h
theorem Wk.nil:Wk (.sc (.slice none 0 0)) (.lst 0 []):=λ_ _ _ _ h=>by cases h;exact .lst0
inductive WkL:List PV->List PV->Prop where
 | nil:WkL [] []
 | cons {p q:PV} {l m:List PV} (h:Wk p q) (t:WkL l m):WkL (p :: l) (q :: m)
theorem WkL.len{l m:List PV}(h:WkL l m):l.length=m.length:=by induction h<;>simp_all
theorem WkL.at{l m:List PV}(h:WkL l m):∀(i:Nat) (q:PV),m[i]?=some q->∃p,l[i]?=some p/\Wk p q:=by induction h<;>grind
theorem ZlG{P:Program}{f:FuncId}{args a:List PV}{S:Store}{Q:PV->Store->Prop}(b:WkL args a)(h:Spec P f a S Q):Spec P f args S Q:=by
 refine⟨h.1,λC w vs c hl d=>h.2 C w vs c (b.len ▸ hl) λi q v e hv=>?_⟩;obtain⟨p,g,j⟩:=b.at i q e;exact j _ _ _ _ (d i p v g hv)
open Go
theorem Zfq{w:World}{D:Nat}{x y:Obj}(a:w.heap[D]?=some x)(b:Nat)(o:Obj)(hb:w.heap[b]?=some o)(ho:o≠x):(w.putObj D y).heap[b]?=some o:=by grind[World.putObj_heap_other]
def Obj.odd(x:Obj):Prop:=(∀c e f,x≠.cells c e f)/\(∀m k,x≠.map m k)
theorem Zao(r:Loop):Obj.odd (.loop r):=⟨λ_ _ _ e=>(by cases e),λ_ _ e=>(by cases e)⟩
theorem Zch{C:Ctx}{S:Store}{w:World}{D:Nat}{x y:Obj}(f:w.heap[D]?=some x)(hx:Obj.odd x){p:PV}{v:Value}(g:Rel C S w p v):Rel C S (w.putObj D y) p v:=by
 have c:=Zfq (y:=y) f
 induction g with
 | junk v=>exact .junk v
 | sc v=>exact .sc v
 | agg hl h1 _ a=>exact .agg hl h1 a
 | tup hl _ a=>exact .tup hl a
 | lst0=>exact .lst0
 | lst1 hn hm hb b hs h1 _ a=>exact .lst1 hn hm (c _ _ hb (λe=>hx.1 _ _ _ e.symm)) b hs h1 a
 | ip hb b hs h1 _ a=>exact .ip (c _ _ hb (λe=>hx.1 _ _ _ e.symm)) b hs h1 a
 | nl0=>exact .nl0
 | nl hn hb b hl h1 _ a=>exact .nl hn (c _ _ hb (λe=>hx.1 _ _ _ e.symm)) b hl h1 a
 | ptr h1 ho h=>exact .ptr h1 ho h
 | sl h1 ho h=>exact .sl h1 ho h
 | fn hf hc _ _ a d=>exact .fn hf hc a d
 | ifc _ a=>exact .ifc a
 | mp h1 ho h=>exact .mp h1 ho h
theorem Sim.put{C:Ctx}{S:Store}{w:World}(h:Sim C S w){D:Nat}{x y:Obj}(f:w.heap[D]?=some x)(hx:Obj.odd x):Sim C S (w.putObj D y):=by
 have a:=Zfq (y:=y) f;refine⟨h.lt,h.clk,h.dist,?_,?_⟩
 ·intro o ver e cs hs;rcases h.cells o ver e cs hs with hn | ⟨b,k,c,h1,h2,h3,d,j,l⟩
  ·exact .inl hn
  ·exact .inr ⟨b,k,c,h1,a _ _ h2 (λe=>hx.1 _ _ _ e.symm),h3,d,j,λi p v n hv=>Zch f hx (l i p v n hv)⟩
 ·intro o ver es hs;obtain⟨b,k,ms,cl,h1,h2,h3,d⟩:=h.maps o ver es hs;exact⟨b,k,ms,cl,h1,a _ _ h2 (λe=>hx.2 _ _ e.symm),h3,λi e m g hm=>⟨(d i e m g hm).1,Zch f hx (d i e m g hm).2⟩⟩
theorem Step.around{C1 C2 C3:Ctx}{S1 S2 S3:Store}{d w2 f:World}{l:Nat}{g h:Obj}(s1:Step C1 S1 d C2 S2 w2)(s2:Step C2 S2 (w2.putObj l h) C3 S3 f)(hl:d.heap[l]?=some g)(hM:¬C1.M S1 l):
  Step C1 S1 d C3 S3 (f.putObj l g):=by
 have i:=qN hl;have z1:=s1.size;have z2:=s2.size;simp only[World.putObj_size]at z2;refine⟨s2.os.trans s1.os,⟨s2.tape.1.trans s1.tape.1,AF s1.tape.2 s2.tape.2⟩,s2.output.trans s1.output,by simp;omega,AF s1.next s2.next,AF s1.clock s2.clock,λb hb e=>?_,?_⟩
 ·obtain⟨k1,j⟩:=s1.blocks b hb e;obtain⟨k,m⟩:=s2.blocks b DT j
  grind[World.putObj_heap_same,World.putObj_heap_other]
 ·intro o v1 hv;rcases s2.vers o v1 hv with q | ⟨v0,a,b,c⟩
  ·have h1:=s1.next;have h2:=s1.clock;omega
  ·rcases s1.vers o v0 a with q | ⟨u,n,b',p⟩<;>grind
theorem Step.beyond{C C':Ctx}{S S':Store}{w w':World}{l:Nat}(o:Obj)(h:Step C S w C' S' w')(hl:w.heap.size<=l):Step C S w C' S' (w'.putObj l o) :=
 ⟨h.os,h.tape,h.output,by simpa using h.size,h.next,h.clock,λb hb hM=>by
  obtain⟨k1,a⟩:=h.blocks b hb hM
  grind[World.putObj_heap_other],h.vers⟩
def PYield(P:Program)(V:Ctx->Store->World->Prop)(l:Nat)(args:List PV)(S:Store)(Q:Store->Prop):Prop :=
 ∀(C:Ctx) (w:World) (vs:Array Value),Sim C S w->V C S w->args.length=vs.size->(∀(i:Nat) (c:PV) (v:Value),args[i]?=some c->vs[i]?=some v->Rel C S w c v) ->
  YieldAt (Fe jB) 0 P l vs w λe w'=>∃S' C',e=.returned (.bool true)/\Q S'/\Sim C' S' w'/\Step C S w C' S' w'
abbrev xC(l:Nat):PV:=.sc (.func (.yield l) #[] #[])
def QL(P:Program)(k:FuncId)(caps:List PV)(xs:List (List PV)):Prop :=
 qC P k/\∀(l:Nat) (V:Ctx->Store->World->Prop) (_:∀{C C':Ctx} {S S':Store} {w w':World},Step C S w C' S' w'->V C S w->V C' S' w') (m:Nat) (J:Nat->Store->Prop),(∀i A,J i A->yd m A) ->
  (∀i A obs x,xs[i]?=some x->J i A->PYield P V l x (ext A m obs) (λT=>∃A',J (i+1) A'/\T=ext A' m obs)) ->
  ∀A,J 0 A->PCallsV P V k (xC l :: caps) A (λ_ T=>J xs.length T)
section
variable {P:Program} {n nx N:Nat} {Q:Exit->(Nat->PV)->Store->Prop} {F:Nat->PV} {S:Store} {obs:List Ob}
theorem XA{V:Ctx->Store->World->Prop}{keep:∀{C C':Ctx} {S S':Store} {w w':World},Step C S w C' S' w'->V C S w->V C' S' w'}{o:Oper}{c:Call}{x:Operand}{l:Nat}{K:PV->Store->Prop}{R:Store->Prop}
  (ho:o.op=.call c) (hc:c.callee=.value x) (hx:ev F x=xC l) (h:PYield P V l (c.args.toList.map (ev F)) S R) (q:∀S',R S'->K (.sc (.bool true)) S'):PO P ⟨none,V,keep⟩ 0 o F S K:=by
 intro G n C w a N st next Q' f;have j:x∈o.op.operands:=by simp[ho,Op.operands,Call.operands,hc]
 have k:ev G x=xC l:=(n x j).trans hx;have g:c.args.toList.map (ev F)=c.args.toList.map (ev G):=AM λy p=>(n y (by grind[Op.operands,Call.operands])).symm
 rw[g]at h;have d:=st.ev x;rw[k]at d;generalize hv:a.eval x=v at d;cases d;have b:=WC (l:=c.args.toList) st.ev;simp only[Array.toArray_toList]at b;obtain⟨fn,tmps,assign,body,p,r⟩:=h C w (c.args.map a.eval) st.sim st.v b.1 b.2;have i:(execOp a.eval o).run P w=.ok (.round l fn tmps assign body) w:=by
  unfold execOp;simp only[ho,resolve,hc,hv,Deferred.ofValue,Sem.run_bind,Sem.run_pure,An,invoke];have:(#[]:Array Value)++c.args.map a.eval=c.args.map a.eval:=DP
  rw[this];exact p
 refine qg (x:=.round l fn tmps assign body) (w':=w) DW i ?_;rw[Oper.uponIn_round];refine⟨λs=>(by cases s),r.mono ?_⟩;rintro e w' ⟨S',C',rfl,t,hs,m⟩;exact f _ w' C' S' _ (q _ t) (.sc _) hs m
theorem WM {f : FuncId} {fn : Func} {c : Code} {rs : List ResultVar} {caps : List PV} {xs : List (List PV)} (hf : P.funcs[f]? = some fn) (hname : (fn.name == "runtime.NumGoroutine") = false) (hb : fn.body = some c) (hN : fn.ntmps = N) (hrs : fn.results.toList = rs) (hargs : caps.length + 1 ≤ N)
  (h:∀(l:Nat) (V:Ctx->Store->World->Prop) (keep:∀{C C':Ctx} {S S':Store} {w w':World},Step C S w C' S' w'->V C S w->V C' S' w') (nx:Nat) (J:Nat->Store->Prop),(∀i A,J i A->yd nx A) ->
   (∀i A obs x,xs[i]?=some x->J i A->PYield P V l x (ext A nx obs) (λT=>∃A',J (i+1) A'/\T=ext A' nx obs)) ->
   ∀A,J 0 A->PW P ⟨none,V,keep⟩ 0 N c (ZO P rs (λ_ T=>J xs.length T)) (uW (xC l :: caps)) (ext A nx [])):QL P f caps xs:=by
 refine⟨qx hf hname hb,λl V keep m J a d A b=>?_⟩;have:=h l V keep m J a d A b;rw[qZ (a 0 A b)]at this;exact Zb1 hf hb hN hrs DO this
theorem Zu{rs:List ResultVar}{ps:List PV}{J:Store->Prop}{A:Store}(a:yd nx A)(h1:wT P F (ext A nx obs) rs=some ps)(b:J A):
  ∃ps S',wT P F (ext A nx obs) rs=some ps/\J S'/\∀o,S' o=ext A nx obs o\/S' o=.dead:=⟨ps,A,h1,b,yb a⟩
def WN(F:Nat->PV):List Nat->List PV->Nat->PV
 | p :: ps,x :: xs=>WN (wS F p x) ps xs
 | _,_=>F
theorem Zfr{C:Ctx}{w:World}:∀(ps:List Nat) (vs:List Value) (xs:List PV) (F:Nat->PV) (t:Array Value),t.size=N->(∀p∈ps,p<N)->xs.length=vs.length->(∀i,Rel C S w (F i) (t.getD i undef)) ->
  (∀(i:Nat) (c:PV) (v:Value),xs[i]?=some c->vs[i]?=some v->Rel C S w c v) ->
  ((ps.zip vs).foldl (λt (p,v)=>t.setIfInBounds p v) t).size=N/\∀i,Rel C S w (WN F ps xs i) (((ps.zip vs).foldl (λt (p,v)=>t.setIfInBounds p v) t).getD i undef)
 | [],_,_,F,t,a,_,_,b,_=>⟨a,b⟩
 | p :: ps,[],[],F,t,a,_,_,b,_=>⟨a,b⟩
 | p :: ps,v :: vs,x :: xs,F,t,a,e,hl,b,hx=>by
  refine Zfr ps vs xs (wS F p x) (t.setIfInBounds p v) (by simp[a]) (λq f=>e q (by simp[f])) (by simpa using hl) (λi=>?_) λi c v hc hv=>hx (i+1) c v (by simpa using hc) (by simpa using hv)
  have d:p<t.size:=by rw[a];exact e p DP
  simp only[wS,A6];rw[Db]
  by_cases h:i=p
  ·subst h;simp[d];exact hx 0 x v rfl rfl
  grind[Array.getD_eq_getD_getElem?]
def ird(l:Nat):Rd:=⟨some l,λ_ _ _=>True,λ_ _=>trivial⟩
def Zfs{σ:Type}(nx:Nat)(I:Nat->σ->Prop)(B:σ->Store)(T:σ->List Ob)(i:Nat)(more:List Ob):Exit->(Nat->PV)->Store->Prop
 | .normal,_,S=>∃s extra,I i s/\S=ext (B s) nx (T s++more++extra)
 | _,_,_=>False
theorem wU{σ:Type}{I:Nat->σ->Prop}{B:σ->Store}{T:σ->List Ob}{i:Nat}{more:List Ob}(s:σ)(a:List Ob)(hI:I i s)(b:B s=S)(c:T s++more++a=obs):Zfs nx I B T i more .normal F (ext S nx obs):=⟨s,a,hI,by rw[b,c]⟩
theorem Zap{k:Nat}(obs more:List Ob)(a:k=nx+obs.length):ext (ext S nx obs) k more=ext S nx (obs++more):=by
 subst a;funext i;simp only[ext]
 grind
theorem JE{V:Ctx->Store->World->Prop}{keep:∀{C C':Ctx} {S S':Store} {w w':World},Step C S w C' S' w'->V C S w->V C' S' w'}{g:Operand}{ps:Array Tmp}{assign body:Code}{k:FuncId}{a8:List PV}{xs:List (List PV)}{σ:Type}
  (I:Nat->σ->Prop) (L:List (Nat × PV)) (B:σ->Store) (T:σ->List Ob) (s0:σ)
  (hit:QL P k a8 xs) (hg:ev F g=.fn (.func k) [] a8) (d9:∀x∈xs,x.length=ps.size) (e0:∀p∈ps.toList,p<N) (hL:∀x∈L,F x.1=x.2) (h0:I 0 s0) (hB:B s0=S) (hT:T s0=obs) (hl:∀i s,I i s->(T s).length=obs.length)
  (round:∀l i s more x,I i s->xs[i]?=some x->PW P (ird l) 0 N assign (YZ (PW P (ird l) 0 N body (Zfs nx I B T (i+1) more)) (λ_ _ _=>False)) (WN (fr L) ps.toList x) (ext (B s) nx (T s++more)))
  (done:∀s,I xs.length s->Q .normal F (ext (B s) nx (T s))):PW P ⟨none,V,keep⟩ 0 N (.rangeFunc g ps assign body) Q F (ext S nx obs):=by
 intro C w a st;refine wpIn_rangeFunc ?_;intro fn f8;obtain⟨b,d⟩:∃b:LoopState->Option Code->Loop,b=λst pe=>{ state:=st,pending:=pe,fn,tmps:=a.tmps,params:=ps,assign,body,defers:=w.heap.size }:=⟨_,rfl⟩
 obtain⟨k1,j1,m1⟩:=st.sim.alloc (.deferred (some []));obtain⟨k2,j2,m2⟩:=k1.alloc (.loop (b .ready none));rw[World.size_alloc]at m2;obtain⟨W1,a0⟩:∃W1,(w.alloc (.deferred (some []))).alloc (.loop (b .ready none))=W1:=⟨_,rfl⟩;rw[a0]at k2 j2;have e1:W1.heap[w.heap.size+1]?=some (.loop (b .ready none)):=by
  rw[<-a0];have:=YY (w.alloc (.deferred (some []))) (.loop (b .ready none));rwa[World.size_alloc]at this
 have e4:W1.heap[w.heap.size]?=some (.deferred (some [])):=by
  rw[<-a0,Zr _ _ _ DP];exact YY w _
 have h:Step C (ext S nx obs) w C (ext S nx obs) W1:=j1.trans j2
 -- what is known all the while
 obtain⟨V0,m⟩:∃V0:Ctx->Store->World->Prop,∀C' S' w',V0 C' S' w'<->w'.heap[w.heap.size+1]?=some (.loop (b .ready none))/\w'.heap[w.heap.size]?=some (.deferred (some []))/\¬C'.M S' (w.heap.size+1)/\¬C'.M S' w.heap.size/\Step C (ext S nx obs) w C' S' w':=⟨_,λ_ _ _=>Iff.rfl⟩;have n:∀{C1 C2:Ctx} {S1 S2:Store} {w1 w2:World},Step C1 S1 w1 C2 S2 w2->V0 C1 S1 w1->V0 C2 S2 w2:=by
  intro C1 C2 S1 S2 w1 w2 q hv;obtain⟨a1,a2,a3,a4,a5⟩:=(m _ _ _).1 hv;obtain⟨b1,b2⟩:=q.blocks _ (qN a1) a3;obtain⟨c1,c2⟩:=q.blocks _ (qN a2) a4;exact(m _ _ _).2 ⟨b1.trans a1,c1.trans a2,b2,c2,a5.trans q⟩
 have d0:V0 C (ext S nx obs) W1:=(m _ _ _).2 ⟨e1,e4,m2,m1,h⟩;have b7:=st.ev g;rw[hg]at b7;generalize e5:a.eval g=gv at b7;cases b7 with
 | fn e6 e7 f9 e8 =>
 rename_i fv lb;obtain rfl:fv=#[]:=Array.eq_empty_of_size_eq_zero e6.symm;have e9:∀i A,(∃s,I i s/\A=ext (B s) nx (T s))->yd (nx+obs.length) A:=by
  rintro i A ⟨s,hs,rfl⟩;rw[<-hl i s hs];exact xB
 have f0:∀i A more x,xs[i]?=some x->(∃s,I i s/\A=ext (B s) nx (T s))->PYield P V0 (w.heap.size+1) x (ext A (nx+obs.length) more) (λT'=>∃A',(∃s,I (i+1) s/\A'=ext (B s) nx (T s))/\T'=ext A' (nx+obs.length) more):=by
  rintro i A more x hx ⟨s,hs,rfl⟩;rw[Zap _ _ (by rw[hl i s hs])];intro C1 w1 vs f1 f2 f7 d1;obtain⟨a1,a2,a3,a4,a5⟩:=(m _ _ _).1 f2;have g0:=d9 x (Ab hx);have hy:=run_yield (P:=P) (args:=vs) a1 (by rw[d];simp only;omega);rw[d]at hy;simp only at hy;have d2:=Zfr (N:=N) (S:=ext (B s) nx (T s++more)) (C:=C1) (w:=w1) ps.toList vs.toList x (fr L) a.tmps st.size e0 DO (λi=>by
   rcases Zfl hL i with e | e
   ·rw[e];exact(st.fr i).mono a5
   ·rw[e];exact .junk _) (by simpa using d1)
  have b8:(ps.zip vs).foldl (λtmps (t,a)=>tmps.setIfInBounds t a) a.tmps=(ps.toList.zip vs.toList).foldl (λt (p,v)=>t.setIfInBounds p v) a.tmps:=by
   rw[<-Array.foldl_toList,Array.toList_zip]
  rw[b8]at hy;refine⟨fn,_,assign,body,hy,roundIn_of_wpIn trivial ?_⟩;have d3:St (ird (w.heap.size+1)) C1 (ext (B s) nx (T s++more)) w1 N (WN (fr L) ps.toList x) { tmps:=(ps.toList.zip vs.toList).foldl (λt (p,v)=>t.setIfInBounds p v) a.tmps,defers:=[] }:=⟨f1,d2.1,d2.2,trivial⟩;refine wpIn_mono (round (w.heap.size+1) i s more x hs hx C1 w1 _ d3) ?_;rintro e g1 w2 ⟨F2,S2,C2,hq,c6,g2,u⟩;cases e with
  | normal =>
   have e2:=u.blocks _ (qN a1) a3;have a7:=e2.1.trans a1;refine⟨_,run_beginRound a7 (by rw[d]),?_⟩;have d4:=c6.sim.put (y:=.loop { b .ready none with state:=.busy }) a7 (Zao _);refine wpIn_mono (hq C2 _ _ ⟨d4,c6.size,λj=>Zch a7 (Zao _) (c6.fr j),trivial⟩) ?_;rintro e g3 w3 ⟨F3,S3,C3,d5,f3,g4,z⟩;cases e with
   | normal =>
    obtain⟨s',c7,d6,rfl⟩:=d5;have a9:(w2.putObj (w.heap.size+1) (.loop { b .ready none with state:=.busy })).heap[w.heap.size+1]?=some (.loop { b .ready none with state:=.busy }):=BW (qN a7);have e3:=z.blocks (w.heap.size+1) (qN a9) e2.2;have d7:=e3.1.trans a9;have f:=run_endRound (P:=P) none d7;have c8:=Zcb (S:=B s') (nx:=nx) (obs:=T s'++more) c7;obtain⟨q1,q2⟩:=f3.sim.kill c8;have f4:({ { b .ready none with state:=LoopState.busy } with state:=if (none:Option Code).isNone then .ready else .done,pending:=none }:Loop)=b .ready none:=by rw[d];rfl
    rw[f4]at f;refine⟨_,_,f,_,C3,rfl,⟨_,⟨s',d6,rfl⟩,by rw[Zap _ _ (by rw[hl _ s' d6])]⟩,?_,?_⟩
    ·exact q1.put d7 (Zao _)
    ·have g5:=u.around (z.trans q2) a1 a3;omega
   | _=>exact d5.elim
  | _=>exact hq.elim
 have f5:=hit.2 (w.heap.size+1) V0 n (nx+obs.length) (λi A=>∃s,I i s/\A=ext (B s) nx (T s)) e9 f0 (ext S nx obs) ⟨s0,h0,by rw[hB,hT]⟩ C W1 (#[.func (.yield (w.heap.size+1)) #[] #[]]++lb) k2 d0 (by simp[e7];omega) (by
  intro i c v hc hv;cases i with
  | zero =>
   rw[Bq DP]at hv;simp at hc hv;subst hc;subst hv;exact .sc _
  | succ i =>
   rw[BQ DP]at hv;exact(e8 i c v (by simpa using hc) (by simpa using hv)).mono h)
 refine⟨w.heap.size+1,[{ target:=.collected w.heap.size,args:=#[] }],W1,{ target:=.fn (.func k) lb,args:=#[.func (.yield (w.heap.size+1)) #[] #[]] },W1,k,
  #[.func (.yield (w.heap.size+1)) #[] #[]]++lb,W1,?_,?_,?_,?_,λhd=>(by cases hd),?_⟩
 ·rw[<-a0,d];exact run_enterLoop_outer _ _ _ _ _
 ·simp only[resolve,e5];simp[go_sem]
 ·intro f' _;trivial
 ·simp only[invoke];exact hit.1 _ _
 refine(Zb0 (r:=⟨none,V,keep⟩) f5).mono ?_;rintro e w' ⟨p,v,S',C',rfl,⟨s,hs,rfl⟩,_,d8,q⟩;obtain⟨a1,a2,a3,a4,a5⟩:=(m _ _ _).1 (n q d0);have f:=run_endLoop (P:=P) a1 (by rw[d];simp);have f6:(b .ready none).pending=none:=by rw[d]
 rw[f6]at f;have a6:=λo=>a5.beyond (l:=w.heap.size+1) o DO
 refine⟨none,_,f,F,_,C',done s hs,⟨d8.put a1 (Zao _),st.size,λi=>(st.fr i).mono (a6 _),keep (a6 _) st.v⟩,⟨[{ target:=.collected w.heap.size,args:=#[] }],rfl,⟨_,Ag _,rfl,?_,a4,by simp⟩,trivial⟩,a6 _⟩;rw[Br DO];exact a2
end
def XB(id ver:Nat)(cs:List PV)(p:PV):PV :=
 match p with
 | .sl o v sz 0 k=>if o=id/\v=ver/\k*sz=cs.length then .lst k cs else .sl o v sz 0 k
 | .ptr o v off=>if o=id/\v=ver/\off<=cs.length then .ip (cs.drop off) else .ptr o v off
 | p=>p
def JF(id ver:Nat)(cs:List PV)(p:PV):PV :=
 match p with
 | .fn f fs cap=>.fn f (fs.map (XB id ver cs)) (cap.map (XB id ver cs))
 | p=>XB id ver cs p
def Yr(id ver:Nat)(cs:List PV)(x:Ob):Ob :=
 match x with
 | .cells v e ds=>.cells v e (ds.map (JF id ver cs))
 | x=>x
theorem ZlH(id ver:Nat)(cs:List PV)(x:Ob):(Yr id ver cs x).ver=x.ver:=by cases x<;>rfl
theorem Zcj{C:Ctx}{S T:Store}{w:World}{id ver e:Nat}{cs:List PV}(l:Sim C S w)(hid:S id=.cells ver e cs)(hT:T id=.dead)(g:∀o,T o≠.dead->S o≠.dead)(st:Step C S w C T w){p:PV}{u:Value}
  (h:Rel C S w p u):Rel C T w (XB id ver cs p) u:=by
 unfold XB;split
 ·rename_i o v sz k;split
  ·rename_i hc;obtain⟨rfl,rfl,x⟩:=hc;cases h with
   | sl h1 h2 h3 =>
    obtain⟨ad,cap,rfl,y,z,q3,q4⟩:=h1;have a:∀b k',C.loc o=some (b,k')->¬C.M T b:=by
     rintro b k' hl ⟨i,n,hi,d⟩
     by_cases f:i=o
     ·simp_all
     ·exact f (l.dist i o b n k' (g i hi) (by rw[hid];simp) d hl)
    rcases (h3 v (by rw[hid];rfl)).2 rfl with ⟨z1,z2,_,z4⟩ | ⟨b,k',ad',cap',z1,z2,z3,z4⟩
    ·subst z2;have:cs=[]:=Av DO;subst this;cases z4;exact .lst0
    ·cases z2;rcases l.cells o v e cs hid with ⟨hn,_⟩ | ⟨b2,kk,c,g1,q,g3,g4,r,s⟩
     ·simp_all
     ·rw[g1]at z1;cases z1;obtain⟨rfl,_⟩:=z3 rfl;exact .lst1 y z q (a _ _ g1) (λ_=>by omega) (λj v t hv=>r j v t (by simpa using hv)) (λj p v m hv=>(s j p v m (by simpa using hv)).mono st)
  ·exact h.mono st
 ·rename_i o v off;split
  ·rename_i hc;obtain⟨rfl,rfl,x⟩:=hc;cases h with
   | ptr h1 h2 h3 =>
    obtain⟨b,k',z1,z2⟩:=(h3 v (by rw[hid];rfl)).2 rfl;have a:¬C.M T b:=by
     rintro⟨i,n,hi,d⟩
     by_cases f:i=o
     ·simp_all
     ·exact f (l.dist i o b n k' (g i hi) (by rw[hid];simp) d z1)
    rcases l.cells o v e cs hid with ⟨hn,_⟩ | ⟨b2,kk,c,g1,q,g3,g4,r,s⟩
    ·simp_all
    ·rw[g1]at z1;cases z1;subst z2;refine .ip q a (λ_=>by simp;omega) (λj v t hv=>r (off+j) v (by simp at t;omega) hv) (λj p v m hv=>?_);rw[AP]at m;exact(s (off+j) p v m hv).mono st
  ·exact h.mono st
 ·exact h.mono st
theorem ZlI{C:Ctx}{S T:Store}{w:World}{id ver e:Nat}{cs:List PV}(d:Sim C S w)(hid:S id=.cells ver e cs)(f:T id=.dead)(b:∀o,T o≠.dead->S o≠.dead)(st:Step C S w C T w){p:PV}{u:Value}
  (h:Rel C S w p u):Rel C T w (JF id ver cs p) u:=by
 unfold JF;split
 ·cases h with
  | fn hf hc h1 h2 =>
   refine .fn (by simpa using hf) (by simpa using hc) (λi c v hc hv=>?_) (λi c v hc hv=>?_)
   ·rw[Aj]at hc;obtain⟨c0,a,rfl⟩:=Ap.1 hc;exact Zcj d hid f b st (h1 i c0 v a hv)
   ·rw[Aj]at hc;obtain⟨c0,a,rfl⟩:=Ap.1 hc;exact Zcj d hid f b st (h2 i c0 v a hv)
 grind[Zcj]
section
variable {P:Program} {r:Rd} {n nx N:Nat} {Q:Exit->(Nat->PV)->Store->Prop} {F:Nat->PV} {S:Store} {obs:List Ob}
theorem wL{c:Code}(j:Nat){ver e:Nat}{cs:List PV}(hj:obs[j]?=some (.cells ver e cs))(h:PW P r n N c Q (λi=>JF (nx+j) ver cs (F i)) (ext S nx ((obs.map (Yr (nx+j) ver cs)).set j .dead))):PW P r n N c Q F (ext S nx obs):=by
 have y:j<obs.length:=(Ad.1 hj).1;refine Y1 (F':=λi=>JF (nx+j) ver cs (F i)) (S':=ext S nx ((obs.map (Yr (nx+j) ver cs)).set j .dead)) (λC w a st=>?_) h;have hid:ext S nx obs (nx+j)=.cells ver e cs:=by rw[zY,Aa,hj];rfl
 have hT:ext S nx ((obs.map (Yr (nx+j) ver cs)).set j .dead) (nx+j)=.dead:=by rw[zY,Aa,AW (by simpa using y)];rfl
 -- what stands under each number
 have g:∀o,ext S nx ((obs.map (Yr (nx+j) ver cs)).set j .dead) o=.dead\/(o<nx/\ext S nx ((obs.map (Yr (nx+j) ver cs)).set j .dead) o=ext S nx obs o)\/(nx<=o/\ext S nx ((obs.map (Yr (nx+j) ver cs)).set j .dead) o=Yr (nx+j) ver cs (ext S nx obs o)):=by
  intro o
  by_cases ho:o<nx
  ·simp_all[zJ]
  ·by_cases a0:o=nx+j
   ·simp_all
   ·refine .inr (.inr ⟨by omega,?_⟩);simp only[ext];rw[if_neg ho,if_neg ho,Aa,Aa,AZ DO,Aj];cases obs[o-nx]?<;>rfl
 generalize a1:ext S nx ((obs.map (Yr (nx+j) ver cs)).set j .dead)=T at *;generalize a2:ext S nx obs=S1 at *;have l:∀o v,(T o).ver=some v->(S1 o).ver=some v:=by
  intro o v hv;rcases g o with q | ⟨_,q⟩ | ⟨_,q⟩
  ·rw[q]at hv;cases hv
  ·simp_all
  ·simp_all[ZlH]
 have f:∀o,T o≠.dead->S1 o≠.dead:=by
  intro o ho hd;rcases g o with q | ⟨_,q⟩ | ⟨_,q⟩
  ·exact ho q
  ·simp_all
  ·rw[hd]at q;exact ho q
 have hM:∀b,C.M T b->C.M S1 b:=λb ⟨o,k,ho,hl⟩=>⟨o,k,f o ho,hl⟩
 have d:Step C S1 w C T w:=⟨rfl,⟨rfl,Ag _⟩,rfl,Ag _,Ag _,Ag _,λb _ hb=>⟨rfl,λh=>hb (hM b h)⟩,λo v1 hv=>.inr ⟨v1,l o v1 hv,Ag _,λ_=>rfl⟩⟩;have s:∀{p u},Rel C S1 w p u->Rel C T w (JF (nx+j) ver cs p) u:=λh=>ZlI st.sim hid hT f d h
 refine⟨C,⟨⟨λo ho=>st.sim.lt o (f o ho),λo v hv=>st.sim.clk o v (l o v hv),λo o' b k k' ho z=>st.sim.dist o o' b k k' (f o ho) (f o' z),?_,?_⟩,st.size,λi=>s (st.fr i),r.keep d st.v⟩,d⟩
 ·intro o v e' ds ho;rcases g o with q | ⟨_,q⟩ | ⟨_,q⟩
  ·simp_all
  ·rw[q]at ho;rcases st.sim.cells o v e' ds ho with hn | ⟨b,k,c,h1,h2,h3,t,h5,h6⟩
   ·exact .inl hn
   ·exact .inr ⟨b,k,c,h1,h2,h3,t,h5,λi p u hp hu=>(h6 i p u hp hu).mono d⟩
  ·rw[q]at ho;cases hs:S1 o with
   | dead=>simp_all
   | map v es=>rw[hs]at ho;cases ho
   | cells v2 e2 ds2 =>
    rw[hs]at ho;cases ho;rcases st.sim.cells o _ _ ds2 hs with ⟨h1,h2⟩ | ⟨b,k,c,h1,h2,h3,t,h5,h6⟩<;>grind
 ·intro o v es ho;have hs:S1 o=.map v es:=by
   rcases g o with q | ⟨_,q⟩ | ⟨_,q⟩
   ·simp_all
   ·simp_all
   ·rw[q]at ho;cases hs:S1 o with
    | dead=>simp_all
    | map v es=>rw[hs]at ho;exact ho
    | cells v2 e2 ds2=>rw[hs]at ho;cases ho
  obtain⟨b,k,ms,cl,h1,h2,h3,t⟩:=st.sim.maps o v es hs;exact⟨b,k,ms,cl,h1,h2,h3,λi x m hx hm=>⟨(t i x m hx hm).1,(t i x m hx hm).2.mono d⟩⟩
end
theorem Zft{P:Program}{f:FuncId}{args:List PV}{sz k e:Nat}{cs:List PV}(j:Nat)
  (h:∀S nx,yd nx S->Spec P f args S (λp S'=>∃v,p=.agg [.sl (nx+j) v sz 0 k]/\S'=S.set (nx+j) (.cells v e cs))) (y:k*sz=cs.length):Pure P f args (.agg [.lst k cs]):=by
 intro S;refine⟨(h (λ_=>.dead) 0 (λ_ _=>rfl)).1,?_⟩;intro C w vs l hl s;have n:yd C.next S:=λi hi=>by
  cases hs:S i with
  | dead=>rfl
  | cells v e cs=>have:=l.lt i (by rw[hs];simp);omega
  | map v es=>have:=l.lt i (by rw[hs];simp);omega
 refine((h S C.next n).2 C w vs l hl s).mono ?_;rintro z w' ⟨p,u,S',C',rfl,⟨v,rfl,rfl⟩,d,a,b⟩;have m:=n (C.next+j) DO;have g:∀o,S o=S.set (C.next+j) (.cells v e cs) o\/S o=.dead:=by
  intro o
  by_cases ho:o=C.next+j
  ·simp_all
  ·simp_all[q10]
 obtain⟨k1,r⟩:=a.kill g;refine⟨.agg [.lst k cs],u,S,C',rfl,⟨rfl,rfl⟩,?_,k1,b.trans r⟩;cases d with
 | agg t h1 h2 =>
  refine .agg DO h1 λi c x hc hv=>?_
  cases i with
  | succ i=>simp at hc
  | zero =>
   simp at hc;subst hc;have:=Zam a (q11 _ _ _) m (λo ho=>by
    rcases g o with q | q
    ·rw[<-q];exact ho
    ·exact absurd q ho) r (h2 0 _ x rfl hv)
   simp_all
theorem Zfu{S:Store}{nx:Nat}{obs:List Ob}(k:Nat):ext S nx obs=ext S nx (obs++List.replicate k .dead):=by
 funext i;simp only[ext]
 grind
theorem WO{S:Store}{nx:Nat}{obs:List Ob}(k:Nat)(x:Ob):(ext S nx obs).set (nx+obs.length+k) x=ext S nx (obs++List.replicate k .dead++[x]):=by
 rw[Zfu k];have:=jr (S:=S) (nx:=nx) (obs:=obs++List.replicate k .dead) x
 grind
theorem Sim.few{C:Ctx}{S:Store}{w:World}(h:Sim C S w){o ver e:Nat}{cs:List PV}(hs:S o=.cells ver e cs)(m:Nat):Sim C (S.set o (.cells ver e (cs.take m))) w/\Step C S w C (S.set o (.cells ver e (cs.take m))) w:=by
 have a:∀i,S.set o (.cells ver e (cs.take m)) i≠.dead->S i≠.dead:=by
  intro i hi
  by_cases q:i=o
  ·simp_all
  ·simp_all[q10]
 have r:∀i,(S.set o (.cells ver e (cs.take m)) i).ver=(S i).ver:=by
  intro i
  by_cases q:i=o
  ·subst q;rw[q11,hs];rfl
  ·simp_all[q10]
 have st:Step C S w C (S.set o (.cells ver e (cs.take m))) w:=⟨rfl,⟨rfl,Ag _⟩,rfl,Ag _,Ag _,Ag _,λb _ hM=>⟨rfl,λ⟨i,k,hi,hl⟩=>hM ⟨i,k,a i hi,hl⟩⟩,
  λi v1 hv=>.inr ⟨v1,by simp_all,Ag _,λ_=>rfl⟩⟩
 refine⟨⟨λi hi=>h.lt i (a i hi),λi v hv=>h.clk i v DX,λi s b k k' hi g=>h.dist i s b k k' (a i hi) (a s g),?_,?_⟩,st⟩
 ·intro i u y ds hi
  by_cases q:i=o
  ·subst q;rw[q11]at hi;cases hi;rcases h.cells i _ _ _ hs with ⟨h1,h2⟩ | ⟨b,k,c,h1,h2,h3,f,l,n⟩
   ·simp_all
   ·refine .inr ⟨b,k,c,h1,h2,h3,by simp;omega,λj v t hv=>l j v (by simp at t;omega) hv,λj p v d hv=>?_⟩;rw[BI]at d;split at d
    ·exact(n j p v d hv).mono st
    ·cases d
  ·rw[q10 _ _ _ _ q]at hi;rcases h.cells i _ _ _ hi with hn | ⟨b,k,c,h1,h2,h3,f,l,n⟩
   ·exact .inl hn
   ·exact .inr ⟨b,k,c,h1,h2,h3,f,l,λj p v d hv=>(n j p v d hv).mono st⟩
 ·intro i v es hi
  by_cases q:i=o
  ·simp_all
  ·rw[q10 _ _ _ _ q]at hi;obtain⟨b,k,ms,cl,h1,h2,h3,f⟩:=h.maps i v es hi;exact⟨b,k,ms,cl,h1,h2,h3,λj x m hx hm=>⟨(f j x m hx hm).1,(f j x m hx hm).2.mono st⟩⟩
theorem ZlJ{P:Program}{r:Rd}{n nx N:Nat}{Q:Exit->(Nat->PV)->Store->Prop}{F:Nat->PV}{S:Store}{obs:List Ob}{c:Code}{ver e:Nat}{cs:List PV}(j m:Nat)(b:obs[j]?=some (.cells ver e cs))
  (h:PW P r n N c Q F (ext S nx (obs.set j (.cells ver e (cs.take m))))):PW P r n N c Q F (ext S nx obs):=by
 have d:j<obs.length:=(Ad.1 b).1;refine Y1 (F':=F) (S':=ext S nx (obs.set j (.cells ver e (cs.take m)))) (λC w a st=>?_) h;have hs:ext S nx obs (nx+j)=.cells ver e cs:=by rw[zY,Aa,b];rfl
 have:=st.sim.few hs m;rw[yl _ DO DO,AI]at this;exact⟨C,⟨this.1,st.size,λk=>(st.fr k).mono this.2,r.keep this.2 st.v⟩,this.2⟩
@[simp] theorem ZlK{α:Type}(l m:List α)(k:Nat)(d:α):(l++m).getD (l.length+k) d=m.getD k d:=DW
@[simp] theorem Zw2{α:Type}(l m:List α)(d:α):(l++m).getD l.length d=m.getD 0 d:=ZlK l m 0 d
@[simp] theorem ZlL{α:Type}(l m:List α)(k:Nat)(x:α):(l++m).set (l.length+k) x=l++m.set k x:=DP
@[simp] theorem Zw3{α:Type}(l m:List α)(x:α):(l++m).set l.length x=l++m.set 0 x:=ZlL l m 0 x
@[simp low] theorem Zw4(a b:Int):(a != b)=!decide (a=b):=rfl
attribute [simp] XB JF Yr WN
open Go
theorem zq{a b:Prop}(x:a)(y:b):a/\b:=⟨x,y⟩
theorem zF{a b c:Prop}(x:a)(y:b)(z:c):a/\b/\c:=⟨x,y,z⟩
theorem zS{a b c d:Prop}(x:a)(y:b)(z:c)(u:d):a/\b/\c/\d:=⟨x,y,z,u⟩
theorem yr{a b c d e:Prop}(x:a)(y:b)(z:c)(u:d)(v:e):a/\b/\c/\d/\e:=⟨x,y,z,u,v⟩
theorem zW{a b c d e f:Prop}(x:a)(y:b)(z:c)(u:d)(v:e)(w:f):a/\b/\c/\d/\e/\f:=⟨x,y,z,u,v,w⟩
abbrev KT:=(Nat->PV)->Store->List Ob->Prop
abbrev CT:=List Oper->(Nat->PV)->Store->List Ob->Option Nat->FuncId->List PV->Prop
abbrev HT:=List Oper->(Nat->PV)->Store->List Ob->Oper->Prop
section
variable {P:Program} {r:Rd} {n nx N:Nat} {Q:Exit->(Nat->PV)->Store->Prop} {F:Nat->PV} {S:Store} {obs:List Ob} {A:Prop} {R:KT->CT->HT->Prop}
abbrev XQ(P:Program)(nx:Nat)(D:List (Nat × Nat))(l:List Oper)(F:Nat->PV)(S:Store)(obs:List Ob)(R:KT->CT->HT->Prop):Prop :=
 ∀(K:KT) (Gc:CT) (Gh:HT) (X:List Oper->KT),(∀F S obs,X [] F S obs=K F S obs)->(∀o os F S obs,X (o :: os) F S obs=Xu P nx D Gc Gh (X os) o os F S obs)->R K Gc Gh->X l F S obs
abbrev CQ(P:Program)(r:Rd)(n nx:Nat)(ops:Array Oper)(K:KT):CT:=λos F S obs d f args=>os <:+ ops.toList->SpecV P r.V f args (ext S nx obs) (λp S'=>∃S1 obs1,S'=ext S1 nx obs1/\XS P r n nx ops K os (yg F d p) S1 obs1)
abbrev HQ(P:Program)(r:Rd)(n nx:Nat)(ops:Array Oper)(K:KT):HT:=λos F S obs o=>os <:+ ops.toList->PO P r n o F (ext S nx obs) (λp S'=>∃S1 obs1,S'=ext S1 nx obs1/\XS P r n nx ops K os (yg F o.dst p) S1 obs1)
theorem Zaq{id:Nat}{ops:Array Oper}(f:vw N ops=true)(h:XS P r n nx ops (λF' S' b=>Q .normal F' (ext S' nx b)) ops.toList F S obs):PW P r n N (.region id ops false) Q F (ext S nx obs):=by
 intro C w a st;refine wpIn_region ?_;have:=Zfi (Q':=λe d w'=>∃F' S' C',Q e F' S'/\St r C' S' w' N F' d/\Defs w.heap.size a.defers C' S' w' d.defers/\Step C (ext S nx obs) w C' S' w') (V6 f)
  (λF' S' b C' w' d g st i c=>⟨F',_,C',g,st,.of_eq i,c⟩) ops.size 0 F S obs C w a rfl (K:=λF' S' b=>Q .normal F' (ext S' nx b)) (by simpa using h) st rfl (.refl _ _ _)
 simpa using this
theorem JG{ops:Array Oper}{K:KT}{l:List Oper}{D:List (Nat × Nat)}(hs:l <:+ ops.toList)(a:uX ops D=true)(b:XQ P nx D l F S obs R)(h:R K (CQ P r n nx ops K) (HQ P r n nx ops K)):XS P r n nx ops K l F S obs :=
 Xv a (Gc:=CQ P r n nx ops K) (Gh:=HQ P r n nx ops K) (λ_ _ _ _ _ _ _ h=>h) (λ_ _ _ _ _ h=>h) l F S obs hs (b K _ _ (XR P nx D K _ _) (λ_ _ _=>rfl) (λ_ _ _ _ _=>rfl) h)
theorem zi{id:Nat}{ops:Array Oper}(D:List (Nat × Nat))(a:A)
  (h:R (λF' S' b=>Q .normal F' (ext S' nx b)) (CQ P r n nx ops λF' S' b=>Q .normal F' (ext S' nx b)) (HQ P r n nx ops λF' S' b=>Q .normal F' (ext S' nx b)))
  (d:vw N ops=true:=by rfl) (e:uX ops D=true:=by rfl)
  (f:A->XQ P nx D ops.toList F S obs R:=by intro a K Gc Gh X c g h;simp -implicitDefEqProofs [c,g,a];exact h):PW P r n N (.region id ops false) Q F (ext S nx obs) :=
 Zaq d (JG (Dv _) e (f a) h)
theorem zg{id:Nat}{ops:Array Oper}
  (h:R (λF' S' a=>Q .normal F' (ext S' nx a)) (CQ P r n nx ops λF' S' a=>Q .normal F' (ext S' nx a)) (HQ P r n nx ops λF' S' a=>Q .normal F' (ext S' nx a)))
  (c:vw N ops=true:=by rfl) (d:uX ops []=true:=by rfl)
  (e:XQ P nx [] ops.toList F S obs R:=by intro K Gc Gh X b f h;simp -implicitDefEqProofs [b,f];exact h):PW P r n N (.region id ops false) Q F (ext S nx obs) :=
 Zaq c (JG (Dv _) d e h)
theorem DY{y:Code}{id:Nat}{ops:Array Oper}
  (h:R (λF' S' a=>(YZ (PW P r n N y Q) Q) .normal F' (ext S' nx a)) (CQ P r n nx ops λF' S' a=>(YZ (PW P r n N y Q) Q) .normal F' (ext S' nx a)) (HQ P r n nx ops λF' S' a=>(YZ (PW P r n N y Q) Q) .normal F' (ext S' nx a)))
  (c:vw N ops=true:=by rfl) (d:uX ops []=true:=by rfl)
  (e:XQ P nx [] ops.toList F S obs R:=by intro K Gc Gh X b f h;simp -implicitDefEqProofs [b,f];exact h):PW P r n N (.seq (.region id ops false) y) Q F (ext S nx obs):=ze (zg h c d e)
theorem yW{ops:Array Oper}{os:List Oper}{K:KT}{d:Option Nat}{f:FuncId}{args:List PV}{v:PV}(D:List (Nat × Nat))(c:Pure P f args v)(a:A)
  (h:R K (CQ P r n nx ops K) (HQ P r n nx ops K)) (e:uX ops D=true:=by rfl)
  (g:A->XQ P nx D os (yg F d v) S obs R:=by intro a K Gc Gh X b i h;simp -implicitDefEqProofs [b,i,a];exact h):CQ P r n nx ops K os F S obs d f args :=
 λhs=>((c _).mono (by rintro _ _ ⟨rfl,rfl⟩;exact⟨_,_,rfl,JG hs e (g a) h⟩)).v
theorem zv{ops:Array Oper}{os:List Oper}{K:KT}{d:Option Nat}{f:FuncId}{args:List PV}{v:PV}(b:Pure P f args v)
  (h:R K (CQ P r n nx ops K) (HQ P r n nx ops K)) (c:uX ops []=true:=by rfl)
  (e:XQ P nx [] os (yg F d v) S obs R:=by intro K Gc Gh X a g h;simp -implicitDefEqProofs [a,g];exact h):CQ P r n nx ops K os F S obs d f args :=
 λhs=>((b _).mono (by rintro _ _ ⟨rfl,rfl⟩;exact⟨_,_,rfl,JG hs c e h⟩)).v
theorem xl{ops:Array Oper}{os:List Oper}{K:KT}(D:List (Nat × Nat))(a:A)(hs:os <:+ ops.toList)
  (h:R K (CQ P r n nx ops K) (HQ P r n nx ops K)) (c:uX ops D=true:=by rfl)
  (d:A->XQ P nx D os F S obs R:=by intro a K Gc Gh X b e h;simp -implicitDefEqProofs [b,e,a];exact h):XS P r n nx ops K os F S obs:=JG hs c (d a) h
theorem zR{ops:Array Oper}{os:List Oper}{K:KT}(hs:os <:+ ops.toList)
  (h:R K (CQ P r n nx ops K) (HQ P r n nx ops K)) (b:uX ops []=true:=by rfl)
  (c:XQ P nx [] os F S obs R:=by intro K Gc Gh X a d h;simp -implicitDefEqProofs [a,d];exact h):XS P r n nx ops K os F S obs:=JG hs b c h
end
section
abbrev PT:=Row->(Nat->PV)->Store->List Ob->Option Nat->FuncId->List PV->Prop
abbrev HT':=Row->(Nat->PV)->Store->List Ob->Oper->Prop
variable {P:Program} {r:Rd} {n nx N:Nat} {Q:Exit->(Nat->PV)->Store->Prop} {F:Nat->PV} {S:Store} {obs:List Ob} {A:Prop} {R:KT->PT->PT->HT'->Prop}
abbrev YQ(P:Program)(nx:Nat)(ops:Array Oper)(ids:Option (List Nat))(S0:Store)(row:Row)(F:Nat->PV)(S:Store)(obs:List Ob)(R:KT->PT->PT->HT'->Prop):Prop :=
 ∀(K:KT) (Gp Gc:PT) (Gh:HT') (X:Row->KT),(∀F S obs,X .done F S obs=K F S obs)->(∀F S obs,X .stop F S obs=True)->(∀i is F S obs,X (.pure i is) F S obs=Xw P ops ids S0 Gp (X is) i is F S obs) ->
  (∀i is more F S obs,X (.alt i is more) F S obs=(Xx P nx ops ids S0 Gc Gh (X is) i is F S obs/\X more F S obs))->R K Gp Gc Gh->X row F S obs
abbrev GP(P:Program)(r:Rd)(n nx:Nat)(ops:Array Oper)(ids:Option (List Nat))(S0:Store)(K:KT):PT:=λis F S obs d f args=>∃p,Pure P f args p/\PX P r n ops ids S0 is (yg F d p) (ext S nx obs) (KX nx K)
abbrev GC(P:Program)(r:Rd)(n nx:Nat)(ops:Array Oper)(ids:Option (List Nat))(S0:Store)(K:KT):PT:=λis F S obs d f args=>SpecV P r.V f args (ext S nx obs) (λp S'=>yR ids S0 S'/\PX P r n ops ids S0 is (yg F d p) S' (KX nx K))
abbrev GH(P:Program)(r:Rd)(n nx:Nat)(ops:Array Oper)(ids:Option (List Nat))(S0:Store)(K:KT):HT':=λis F S obs o=>jp P F (ext S nx obs) o=none/\PO P r n o F (ext S nx obs) (λp S'=>yR ids S0 S'/\PX P r n ops ids S0 is (yg F o.dst p) S' (KX nx K))
theorem Zck{ops:Array Oper}{ids:Option (List Nat)}{S0:Store}{K:KT}{row:Row}(a:YQ P nx ops ids S0 row F S obs R)(h:R K (GP P r n nx ops ids S0 K) (GC P r n nx ops ids S0 K) (GH P r n nx ops ids S0 K)):PX P r n ops ids S0 row F (ext S nx obs) (KX nx K) :=
 Y5 (Gp:=GP P r n nx ops ids S0 K) (Gc:=GC P r n nx ops ids S0 K) (Gh:=GH P r n nx ops ids S0 K) (λ_ _ _ _ _ _ _ h=>h) (λ_ _ _ _ _ _ _ h=>h) (λ_ _ _ _ _ h=>h) row F S obs
  (a K _ _ _ (XD P nx ops ids S0 K _ _ _) (λ_ _ _=>rfl) (λ_ _ _=>rfl) (λ_ _ _ _ _=>rfl) (λ_ _ _ _ _ _=>rfl) h)
theorem zD{id:Nat}{ops:Array Oper}(ids:Option (List Nat))(row:Row)(hm:P.follows .mixedOrders=true)(a:A)
  (h:R (λF' S' b=>Q .normal F' (ext S' nx b)) (GP P r n nx ops ids (ext S nx obs) λF' S' b=>Q .normal F' (ext S' nx b)) (GC P r n nx ops ids (ext S nx obs) λF' S' b=>Q .normal F' (ext S' nx b)) (GH P r n nx ops ids (ext S nx obs) λF' S' b=>Q .normal F' (ext S' nx b)))
  (g:vw N ops=true:=by rfl) (i:Jw ops=true:=by rfl) (c:wA ops [] [] row=true:=by rfl)
  (j:A->YQ P nx ops ids (ext S nx obs) row F S obs R:=by intro a K Gp Gc Gh X d e f k h;simp -implicitDefEqProofs [d,e,f,k,a];exact h):PW P r n N (.region id ops true) Q F (ext S nx obs) :=
 Zac ids row hm g i c (Zfk row F _ (Zck (j a) h))
theorem zO{ops:Array Oper}{ids:Option (List Nat)}{S0:Store}{K:KT}{g:Row}{d:Option Nat}{f:FuncId}{args:List PV}{v:PV}(i:Pure P f args v)(a:A)
  (h:R K (GP P r n nx ops ids S0 K) (GC P r n nx ops ids S0 K) (GH P r n nx ops ids S0 K))
  (j:A->YQ P nx ops ids S0 g (yg F d v) S obs R:=by intro a K Gp Gc Gh X b c e k h;simp -implicitDefEqProofs [b,c,e,k,a];exact h):GP P r n nx ops ids S0 K g F S obs d f args :=
 ⟨v,i,Zck (j a) h⟩
theorem jY{ops:Array Oper}{ids:Option (List Nat)}{S0:Store}{K:KT}{e:Row}(a:A)
  (h:R K (GP P r n nx ops ids S0 K) (GC P r n nx ops ids S0 K) (GH P r n nx ops ids S0 K))
  (f:A->YQ P nx ops ids S0 e F S obs R:=by intro a K Gp Gc Gh X b c d g h;simp -implicitDefEqProofs [b,c,d,g,a];exact h):PX P r n ops ids S0 e F (ext S nx obs) (KX nx K):=Zck (f a) h
end
theorem zB:undef=Value.tuple #[]:=rfl
section
variable {P:Program} {nx N:Nat} {S:Store} {f:FuncId} {fn:Func} {c:Code} {rs:Array ResultVar} {args:List PV}
theorem zx{v:PV}(hf:P.funcs[f]?=some fn)(b:fn.ntmps=N)(a:fn.results=rs)(h:∀S nx,yd nx S->PW P jB 0 N c (ZO P rs.toList (λp S'=>p=v/\S'=S)) (uW args) (ext S nx []))
  (hname : (fn.name == "runtime.NumGoroutine") = false := by rfl) (hb : fn.body = some c := by exact rfl) (hargs : args.length ≤ N := by simp) : Pure P f args v :=
 ZlB hf hname hb b (congrArg Array.toList a) hargs h
theorem yt{Q:PV->Store->Prop}(hf:P.funcs[f]?=some fn)(b:fn.ntmps=N)(a:fn.results=rs)(h:∀nx,yd nx S->PW P jB 0 N c (ZO P rs.toList Q) (uW args) (ext S nx []))
  (hname : (fn.name == "runtime.NumGoroutine") = false := by rfl) (hb : fn.body = some c := by exact rfl) (hargs : args.length ≤ N := by simp) : Spec P f args S Q :=
 Zfn hf hname hb b (congrArg Array.toList a) hargs h
theorem Zv{Q:PV->Store->Prop}(b:yd nx S)(hf:P.funcs[f]?=some fn)(d:fn.ntmps=N)(a:fn.results=rs)(h:PW P jB 0 N c (ZO P rs.toList Q) (uW args) (ext S nx []))
  (hname : (fn.name == "runtime.NumGoroutine") = false := by rfl) (hb : fn.body = some c := by exact rfl) (hargs : args.length ≤ N := by simp) : Spec P f args S Q :=
 ZlA b hf hname hb d (congrArg Array.toList a) hargs h
end
open Go
instance {α:Type} [Enc α]:Enc (List α):=⟨λl=>[L l],1,λ_=>rfl,λ_=>rfl⟩
@[simp] theorem ZlM{α:Type}[Enc α](l:List α):Enc.enc l=[L l]:=rfl
@[simp high] theorem xD{α:Type}[Enc α](l:List (List α)):(l.flatMap Enc.enc).length=l.length:=(js l).trans (BO _)
@[simp high] theorem ZlN{α:Type}[Enc α](l:List (List α)):(l.flatMap Enc.enc).take l.length=l.flatMap Enc.enc:=Af (Cw (xD l))
abbrev U(n:Nat):PV:=.sc (.int .u64 n)
instance:Enc Nat:=⟨λx=>[U x],1,λ_=>rfl,λ_=>rfl⟩
@[simp] theorem Zw5(x:Nat):Enc.enc x=[U x]:=rfl
@[simp high] theorem Zfv(l:List Nat):(l.flatMap Enc.enc).length=l.length:=(js l).trans (BO _)
@[simp high] theorem Zw6(l:List Nat):(l.flatMap Enc.enc).take l.length=l.flatMap Enc.enc:=Af (Cw (Zfv l))
instance:Enc Bool:=⟨λx=>[B x],1,λ_=>rfl,λ_=>rfl⟩
@[simp] theorem Zw7(x:Bool):Enc.enc x=[B x]:=rfl
@[simp high] theorem ZlO(l:List Bool):(l.flatMap Enc.enc).length=l.length:=(js l).trans (BO _)
@[simp high] theorem Zw8(l:List Bool):(l.flatMap Enc.enc).take l.length=l.flatMap Enc.enc:=Af (Cw (ZlO l))
structure Stop where
 c:Int
 q:Int
 deriving DecidableEq
instance:Inhabited Stop:=⟨⟨0,0⟩⟩
instance:Enc Stop:=⟨λs=>[I s.c,I s.q],2,λ_=>rfl,λ_=>rfl⟩
@[simp] theorem Zw9(s:Stop):Enc.enc s=[I s.c,I s.q]:=rfl
@[simp high] theorem QM(l:List Stop):(l.flatMap Enc.enc).length=l.length*2:=js l
@[simp high] theorem Zxa(l:List Stop):(l.flatMap Enc.enc).take (l.length*2)=l.flatMap Enc.enc:=Y6 l
structure Cust where
 kind:Int
 demand:Int
 pats:List Nat
 rate:Int
 size:Int
 start:Int
 rule:Int
 hold:Int
 deriving DecidableEq
instance:Inhabited Cust:=⟨⟨0,0,[],0,0,0,0,0⟩⟩
abbrev yi(c:Cust):List PV:=[I c.kind,I c.demand,L c.pats,I c.rate,I c.size,I c.start,I c.rule,I c.hold]
instance:Enc Cust:=⟨yi,8,λ_=>rfl,λ_=>rfl⟩
@[simp] theorem Zxb(c:Cust):Enc.enc c=[I c.kind,I c.demand,L c.pats,I c.rate,I c.size,I c.start,I c.rule,I c.hold]:=rfl
@[simp high] theorem Zxc(l:List Cust):(l.flatMap Enc.enc).length=l.length*8:=js l
@[simp high] theorem Zxd(l:List Cust):(l.flatMap Enc.enc).take (l.length*8)=l.flatMap Enc.enc:=Y6 l
structure Inst where
 days:Int
 veh:Int
 cap:Int
 len:Int
 cust:List Cust
 dist:List (List Int)
 deriving DecidableEq
abbrev zE(x:Inst):List PV:=[I x.days,I x.veh,I x.cap,I x.len,L x.cust,L x.dist]
abbrev zU:=List Stop
abbrev zt:=List zU
abbrev zH:=List zt
open Go Go.ChangeShapes Go.WideShapes Go.ChangeAt Go.RowKit
def S0:Store:=λ_=>.dead
def C0:Ctx:=⟨λ_=>none,0,0⟩
theorem sim0(w:World):Sim C0 S0 w :=
 ⟨λ_ h=>absurd rfl h,(λ_ _ h=>by cases h),λ_ _ _ _ _ h=>absurd rfl h,(λ_ _ _ _ h=>by cases h),(λ_ _ _ h=>by cases h)⟩
theorem Zfw(b:Nat):¬C0.M S0 b:=by rintro⟨o,k,h,_⟩;exact h rfl
theorem ZlP{C':Ctx}{S':Store}{w w':World}(h:Step C0 S0 w C' S' w'):Below w.heap.size w w' :=
 ⟨h.os,h.tape.1,h.output,h.size,λb hb=>(h.blocks b hb (Zfw b)).1⟩
def ZQ(P:Program)(w:World)(t:TypeId)(α:Type)[Enc α](Ok:α->Prop):Prop :=
 ∀(H:Type) (enc:TypeId × Value->H) (fuel:Nat) (cs:List Value) (x:DataW H × List MemPlace),DataW.trod enc P w 0 (λ_=>true) true fuel t cs=some x->∃a:α,Ok a/\RelL C0 S0 w (Enc.enc a) cs.toArray
section
variable {P:Program} {w:World}
theorem WP{p:PV}{v:Value}(h:Rel C0 S0 w p v)(h1:v.oneCell'=true):RelL C0 S0 w [p] #[v]:=by
 refine⟨rfl,λi u a=>?_,λi q u b a=>?_⟩
 ·match i with
  | 0=>cases a;exact h1
  | i+1=>cases a
 ·match i with
  | 0=>cases b;cases a;exact h
  | i+1=>cases b
theorem uY{t:TypeId}(c:P.underlying t=some (.int .i64)):ZQ P w t Int zT:=by
 intro H enc a cs x h;cases a with
 | zero=>cases h
 | succ n =>
  unfold DataW.trod at h;rw[c]at h
  match cs,h with
  | [.int k z],h =>
   simp only at h;split at h
   ·rename_i d;obtain⟨rfl,b⟩:=d;refine⟨z,?_,WP (.sc _) rfl⟩;unfold Lit.wf at b;simp only[Ar,decide_eq_true_eq]at b;exact b
   ·cases h
theorem ZlQ{t:TypeId}(c:P.underlying t=some (.int .u64)):ZQ P w t Nat (·<2 ^ 64):=by
 intro H enc a cs x h;cases a with
 | zero=>cases h
 | succ n =>
  unfold DataW.trod at h;rw[c]at h
  match cs,h with
  | [.int k z],h =>
   simp only at h;split at h
   ·rename_i d;obtain⟨rfl,b⟩:=d;unfold Lit.wf at b;simp only[Ar,decide_eq_true_eq]at b;have h0:0<=z:=b.1;have h1:z<=18446744073709551615:=b.2;obtain⟨m,rfl⟩:=Ay h0;exact⟨m,by omega,WP (.sc _) rfl⟩
   ·cases h
theorem Zcl{cs:List PV}{vs:List Value}(h:RelL C0 S0 w cs vs.toArray):cs.length=vs.length/\(∀(i:Nat) (v:Value),vs[i]?=some v->v.oneCell'=true)/\∀(i:Nat) (p:PV) (v:Value),cs[i]?=some p->vs[i]?=some v->Rel C0 S0 w p v:=by
 obtain⟨h1,h2,h3⟩:=h;simp only[BP,AG]at h1 h2 h3;exact⟨h1,h2,h3⟩
theorem Zfx{α:Type}{Q:Nat->α->Prop}:∀(n:Nat),(∀i,i<n->∃a,Q i a)->∃l:List α,l.length=n/\∀(i:Nat) (a:α),l[i]?=some a->Q i a
 | 0,_=>⟨[],rfl,λi a h=>nomatch h⟩
 | n+1,h=>by
  obtain⟨l,hl,c⟩:=Zfx n λi hi=>h i DO
  obtain⟨a,d⟩:=h n DO;refine⟨l++[a],by simp[hl],λi b hb=>?_⟩
  by_cases hi:i<n
  ·rw[As DO]at hb;exact c i b hb
  ·by_cases e:i=n
   ·subst e;rw[Ak DO,hl]at hb;simp at hb;subst hb;exact d
   ·rw[Ao DT]at hb;cases hb
theorem ZlR{α:Type}[Enc α](l:List α)(i j:Nat)(c:j<Enc.sz α){a:α}(hi:l[i]?=some a):(l.flatMap Enc.enc)[i*Enc.sz α+j]?=(Enc.enc a)[j]?:=by
 have b:=(Ad.1 hi).1;have:=Zcg b;have e:(l.flatMap Enc.enc)[i*Enc.sz α+j]?=((l.flatMap Enc.enc).drop (i*Enc.sz α))[j]?:=by rw[AP]
 rw[e,this,As (by rw[Enc.len];exact c)];rw[(Ad.1 hi).2]
theorem WQ{t e:TypeId}{α:Type}[Enc α]{Ok:α->Prop}(ht:P.underlying t=some (.slice e))(a7:P.cellsOf e=Enc.sz α)(h0:Enc.sz α≠0)(he:ZQ P w e α Ok):ZQ P w t (List α) (λl=>l.length<=9223372036854775807/\∀a∈l,Ok a):=by
 intro H enc c7 cs x h;rcases DataW.trod_slice ht h with ⟨rfl,_⟩ | ⟨a,len,cap,g,rest,n,_,rfl,rfl,hb,hl,hm,c8,a8,d1,d2⟩
 ·exact⟨[],⟨by simp,by simp⟩,WP .lst0 rfl⟩
 have key:∀i,i<len->∃z:α,Ok z/\∃vs:List Value,w.cells? 0 (a.add (i*P.cellsOf e)) (P.cellsOf e)=some vs/\RelL C0 S0 w (Enc.enc z) vs.toArray:=by
  intro i hi;have h1:=a8 i hi;have h2:g[i]?=some (g[i]' DO):=DP
  rw[h2,Option.bind_eq_some_iff]at h1;obtain⟨vs,hv,hx⟩:=h1;obtain⟨z,hz,hr⟩:=he H enc n vs _ hx;exact⟨z,hz,vs,hv,hr⟩
 obtain⟨zs,u,hz⟩:=Zfx len key;have d3:len<=9223372036854775807:=by unfold maxLen at hm;omega
 refine⟨zs,⟨by omega,λz a9=>?_⟩,?_⟩
 ·obtain⟨i,hi⟩:=Ca a9;exact(hz i z hi).1
 refine WP (p:=L zs) (v:=.slice (some a) len cap) ?_ rfl;rcases B1 len with y | y
 ·subst y;have:zs=[]:=Av u;subst this;exact .lst0
 -- the block
 obtain⟨b,off,d⟩:=a;have first:=hz 0 _ (Ac (by omega:0<zs.length));obtain⟨_,a3,b7,d4⟩:=first;obtain⟨_,b8,a0⟩:=World.cells?_some b7;have a4:∃c e' fz,w.heap[b]?=some (.cells c e' fz)/\d=none:=by
  have h1:=a0 0 DO;have c6:a3[0]?=some (a3[0]' DO):=DP
  rw[c6]at h1;unfold World.cell? at h1;have q1:(((⟨b,off,d⟩:Addr).add (0*P.cellsOf e)).add 0).block=b:=by unfold Addr.add;split<;>simp_all
  have q3:d≠none->(((⟨b,off,d⟩:Addr).add (0*P.cellsOf e)).add 0).spot≠none:=by intro hs;simp[Addr.add,hs]
  rw[q1]at h1;split at h1
  ·rename_i c e' fz m;refine⟨c,e',fz,m,?_⟩;cases q:d with
   | none=>rfl
   | some s =>
    have:=q3 (by rw[q];simp);rw[q]at this h1;split at h1
    ·cases h1
    ·rename_i r;exfalso;cases hq:(((⟨b,off,some s⟩:Addr).add (0*P.cellsOf e)).add 0).spot with
     | none=>exact this hq
     | some s2=>rw[hq]at r;exact r rfl
  ·cases h1
 obtain⟨c,e',fz,m,rfl⟩:=a4;have o:∀i j,i<len->j<Enc.sz α->∃z v,zs[i]?=some z/\c[off+(i*Enc.sz α+j)]?=some v/\v.oneCell'=true/\∃p,(Enc.enc z)[j]?=some p/\Rel C0 S0 w p v:=by
  intro i j hi hj;have a5:zs[i]?=some (zs[i]' DO):=DP
  obtain⟨_,vs,hv,hr⟩:=hz i _ a5;obtain⟨_,b8,a0⟩:=World.cells?_some hv;obtain⟨r1,r2,r3⟩:=Zcl hr;rw[Enc.len]at r1;have a1:vs[j]?=some (vs[j]' DO):=DP
  have h1:=a0 j DO;rw[a1,Addr.add_plain,Addr.add_plain]at h1;unfold World.cell? at h1;simp only[m]at h1;rw[if_neg DP]at h1;refine⟨_,_,a5,?_,r2 j _ a1,?_⟩
  ·rw[a7,Nat.add_assoc]at h1;exact h1
  ·have hp:(Enc.enc (zs[i]' DO))[j]?=some ((Enc.enc (zs[i]' DO))[j]'(by rw[Enc.len];exact hj)):=DP
   exact⟨_,hp,r3 j _ _ hp a1⟩
 have split:∀i,i<len*Enc.sz α->i / Enc.sz α<len/\i % Enc.sz α<Enc.sz α/\i / Enc.sz α*Enc.sz α+i % Enc.sz α=i:=by
  intro i hi;refine⟨Nat.div_lt_of_lt_mul (by rw[Nat.mul_comm];exact hi),Nat.mod_lt _ (B3 h0),?_⟩;rw[Nat.mul_comm];exact Nat.div_add_mod i _
 have a2:(zs.flatMap Enc.enc).length=len*Enc.sz α:=by rw[js,u]
 have f:∀i,i<len*Enc.sz α->∃v,c[off+i]?=some v/\v.oneCell'=true/\∃p,(zs.flatMap Enc.enc)[i]?=some p/\Rel C0 S0 w p v:=by
  intro i hi;obtain⟨s1,s2,s3⟩:=split i hi;obtain⟨z,v,g1,g2,g3,p,g4,g5⟩:=o _ _ s1 s2;rw[s3]at g2;refine⟨v,g2,g3,p,?_,g5⟩;rw[<-s3,ZlR zs _ _ s2 g1];exact g4
 rw[<-u]at hl ⊢;refine .lst1 hl (by unfold xk;omega) m (Zfw b) (λ_=>?_) (λi v hi hv=>?_) (λi p v hp hv=>?_)
 ·have d0:0<len*Enc.sz α:=Nat.mul_pos y (B3 h0);obtain⟨v,hv,_⟩:=f (len*Enc.sz α-1) DO;have:=(Bb.1 hv).1;rw[a2];omega
 ·rw[a2]at hi;obtain⟨v',k,h1,_⟩:=f i hi;rw[hv]at k;cases k;exact h1
 ·have hi:i<len*Enc.sz α:=by have:=(Ad.1 hp).1;rw[a2]at this;exact this
  obtain⟨v',k,_,p',a6,hr⟩:=f i hi;rw[hv]at k;cases k;rw[hp]at a6;cases a6;exact hr
theorem Zfy{t:TypeId}{fs:Array Field}{H:Type}{enc:TypeId × Value->H}{a:Nat}{cs:List Value}{x:DataW H × List MemPlace}(d:P.underlying t=some (.struct fs))(h:DataW.trod enc P w 0 (λ_=>true) true a t cs=some x):
  cs.length=P.cellsOf t/\∃n,∀(i:Nat) (f:Field),fs[i]?=some f->∃y,DataW.trod enc P w 0 (λ_=>true) true n f.type ((cs.drop f.offset).take (P.cellsOf f.type))=some y:=by
 cases a with
 | zero=>cases h
 | succ n =>
  unfold DataW.trod at h;rw[d]at h;simp only at h;split at h
  ·rename_i hl;refine⟨hl,n,λi f hf=>?_⟩;obtain⟨e,c,_⟩:=Ap.1 h;have b:=mapM_some_length c;have hi:i<e.length:=by
    have:=(Bb.1 hf).1;rw[b];simpa using this
   have:=mapM_some_get c i f (by rw[Array.getElem?_toList];exact hf);rw[Ac hi]at this;exact⟨_,this⟩
  ·cases h
theorem Zw{cs ds:List PV}{vs us:List Value}(h:RelL C0 S0 w cs vs.toArray)(k:RelL C0 S0 w ds us.toArray):RelL C0 S0 w (cs++ds) (vs++us).toArray:=by
 have:=Xo h k [];simp only[AH]at this;obtain⟨a,c⟩:=Zcl h;obtain⟨b1,b2⟩:=Zcl k;exact⟨by simp[a,b1],λi v hv=>this.2.1 i v (by have:=(Bb.1 hv).1;simp at this;simp;omega) (by simpa using hv),λi p v b hv=>this.2.2 i p v b (by simpa using hv)⟩
end
theorem ZlS{H:Type}{enc:TypeId × Value->H}{P:Program}{f:Func}{s:ChangeSpec}{apart g a h:Bool}{W W':World}{args:Array Value}{v:Value}{ds l:List (DataW H)}{before pa pv:List MemPlace}
  (o:DataW.Whole enc P f.params.toList s.vars apart W args.toList ds l before)
  (e:∀(b:Nat) (i:Nat->Bool) (w:Bool),DataW.TrodAll enc P W' b i w f.resultTypes.toList (v.resultList f.resultTypes.size) (s.fn H (ds++l)).results [])
  (c:∀i:Nat->Bool,(∀p∈before,i p.block=true)->DataW.TrodAll enc P W' 0 i true f.params.toList args.toList (s.fn H (ds++l)).args pa)
  (d:∀i:Nat->Bool,(∀p∈before,i p.block=true)->DataW.TrodVars enc P W' i s.vars (s.fn H (ds++l)).vars pv)
  (k:before=pa++pv) (hb:Below W.heap.size W W')
  (q:∀(j:Nat) (t:TypeId) (r:Value),f.resultTypes[j]?=some t->(v.resultList f.resultTypes.size)[j]?=some r->Value.okWide P W' .any 0 t r) :
  s.post enc P f apart g a h W args v W':=by
 have hold:∀p∈before,(λb=>decide (b<W.heap.size)) p.block=true:=λp m=>by simpa using o.lt p m
 have u:=o.lt;refine⟨ds,l,before,[],pa,pv,o,e _ _ _,c _ hold,d _ hold,hb.frame _,λ_=>?_⟩;obtain⟨_,_,_,_,_,x,hn⟩:=o;refine⟨q,_,_,([]++pa)++pv,⟨[]++pa,pv,trodAll_append (c _ (λ_ _=>rfl)) (e _ _ _),d _ (λ_ _=>rfl),rfl,?_,?_⟩,?_⟩
 ·intro b off m;have n:MemPlace.cell b off∈before:=by rw[k];simpa using m
  rw[hb.frozen (u _ n)];exact x b off n
 ·intro y;have:=hn y;rw[k]at this;simpa using this
 ·intro p m _;rw[k];simpa using m
theorem ZlT{P:Program}{w:World}{t:TypeId}{α:Type}[Enc α]{Ok:α->Prop}(h:ZQ P w t α Ok){H:Type}{enc:TypeId × Value->H}{vs:Array Value}{d:DataW H}{p:List MemPlace}(f:DataW.Trod enc P w 0 (λ_=>true) true t (.agg vs) d p):
  ∃a:α,Ok a/\Rel C0 S0 w (.agg (Enc.enc a)) (.agg vs):=by
 obtain⟨b,hf⟩:=f;obtain⟨a,g,c⟩:=h H enc b _ _ hf;refine⟨a,g,?_⟩;have e:(Value.agg vs).cells.toList.toArray=vs:=by simp[Value.cells]
 rw[e]at c;exact .agg c.1 c.2.1 c.2.2
theorem Zfz{P:Program}{w:World}{t:TypeId}{α:Type}[Enc α]{Ok:α->Prop}(h:ZQ P w t α Ok){H:Type}{enc:TypeId × Value->H}{v:Value}{d:DataW H}{p:List MemPlace}(hv:v.cells=#[v])(e:DataW.Trod enc P w 0 (λ_=>true) true t v d p):
  ∃a:α,Ok a/\∀q,(Enc.enc a)[0]?=some q->Rel C0 S0 w q v:=by
 obtain⟨b,hf⟩:=e;obtain⟨a,f,c⟩:=h H enc b _ _ hf;refine⟨a,f,λq g=>?_⟩;rw[hv]at c;exact c.2.2 0 q v g rfl
end Go.Proofs.YtcocagkbfpgmiaaGreatDoor.Pv
namespace Go.Proofs.YtcocagkbfpgmiaaGreatDoor
open Go Go.ChangeShapes Go.WideShapes Go.ChangeAt Go.RowKit Pv
theorem ZlU:ownKnob prog.godebug=none:=DR
theorem ZlV:laidOutB prog=true:=DR
theorem ZlW{f:FuncId}{args:List Pv.PV}(h:Pv.Pure prog f args (Pv.B true)){W:World}{vs:Array Value}(hl:args.length=vs.size)(d:∀(i:Nat) (c:Pv.PV) (v:Value),args[i]?=some c->vs[i]?=some v->Pv.Rel Pv.C0 Pv.S0 W c v):
  Calls prog f vs W λe W'=>e=.returned (.bool true)/\Below W.heap.size W W':=by
 refine((h Pv.S0).2 Pv.C0 W vs (Pv.sim0 W) hl d).mono ?_;rintro e W' ⟨p,v,S',C',rfl,⟨rfl,rfl⟩,a,hs,b⟩;cases a;exact⟨rfl,ZlP b⟩
theorem ZfA{H:Type}{enc:TypeId × Value->H}{W W':World}{e:Nat->Bool}(hb:Below W.heap.size W W'):∀(a:List TypeId) (vs:List Value) (ds:List (DataW H)) (ps:List MemPlace),
  (∀t∈a,prog.readableRec t=true/\t<prog.types.size)->DataW.TrodAll enc prog W 0 (λ_=>true) true a vs ds ps->(∀p∈ps,p.block<W.heap.size)->(∀p∈ps,e p.block=true)->DataW.TrodAll enc prog W' 0 e true a vs ds ps
 | [],[],[],_,_,h,_,_=>h
 | t :: a,v :: vs,d :: ds,ps,f,h,b,c=>by
  obtain⟨p,q,h1,h2,rfl⟩:=h;obtain⟨r1,r2⟩:=f t DP;exact⟨p,q,WideElems.Trod_stays ZlV r1 r2 h1 (λx hx=>hb.same (b x (by simp[hx]))) (λx hx=>c x (by simp[hx])),ZfA hb a vs ds q (λt' h'=>f t' (by simp[h'])) h2 (λx hx=>b x (by simp[hx])) (λx hx=>c x (by simp[hx])),rfl⟩
 | [],[],_ :: _,_,_,h,_,_=>h.elim
 | [],_ :: _,_,_,_,h,_,_=>h.elim
 | _ :: _,[],_,_,_,h,_,_=>h.elim
 | _ :: _,_ :: _,[],_,_,h,_,_=>h.elim
theorem ZlX{H:Type}{enc:TypeId × Value->H}{s:ChangeSpec}{f:Func}{W W':World}{args:Array Value}{ds:List (DataW H)}{before:List MemPlace}(a:s.vars=[])(c:f.resultTypes=#[4])(e:∀t∈f.params.toList,prog.readableRec t=true/\t<prog.types.size)
  (i:DataW.Whole enc prog f.params.toList s.vars false W args.toList ds [] before) (l:(s.fn H (ds++[])).results=[.lit (.bool true)]) (m:(s.fn H (ds++[])).args=ds) (hv:(s.fn H (ds++[])).vars=[]) (hb:Below W.heap.size W W') :
  s.post enc prog f false true false false W args (.bool true) W':=by
 have d:=i;obtain⟨p,q,n,j,rfl,o,r⟩:=i;rw[a]at j;obtain⟨_,rfl⟩:=trodVars_none j;have g:=d.lt;refine ZlS (pa:=p) (pv:=[]) d (λb k u=>?_) (λk h=>?_) (λk _=>?_) rfl hb (ok_one c rfl (okWide_bool_mk underlying4 true))
 ·rw[l,c];exact trodAll_mk1 (shut_bool underlying4 true)
 ·rw[m];exact ZfA hb _ _ _ _ e n (λx hx=>g x (by simp[hx])) (λx hx=>h x (by simp[hx]))
 ·rw[hv,a];rfl
end Go.Proofs.YtcocagkbfpgmiaaGreatDoor
namespace Go.Proofs.YtcocagkbfpgmiaaGreatDoor
open Go Go.ChangeShapes Go.WideShapes Go.ChangeAt Go.RowKit Pv
theorem qP{a b:Bool}(h:a=true)(k:b=true):(a && b)=true:=by rw[h,k];rfl
theorem ZlY{P:Program}{f:FuncId}{fn:Func}{s:ChangeSpec}{c:OpenClaim}
  (h1:c.wf (OpenSpec.ofChange s)=true) (h2:laidOutB P=true) (h3:mapsRowed P=true) (h4:fn.params.all (P.readableRec ·)=true) (h5:namedTie P c.named s.vars=true)
  (h6:(c.stops == [])=true) (h7:(P.stops == [])=true) (h8:(c.knobs == [])=true) (h9:(P.stopKnobs == [])=true)
  (a:(c.inPlace == P.inPlace f)=true) (b:(c.unfollowed == P.unfollowed f)=true) (d:(c.recurses == P.recurses f)=true) (e:(c.named == P.varsNamed f)=true)
  (g:(c.maps == (fn.params.toList++s.plain.varTypes P).any (P.mapsRec ·))=true) (h:(c.ifaces == (fn.params.toList++s.plain.varTypes P).any (P.ifacesRec ·))=true) (i:(c.mapsOut == P.mapsAmong fn.resultTypes.toList)=true)
  (j:(c.loops == (fn.params.toList++s.plain.varTypes P).any (P.loopsFrom ·))=true) (l:(c.wideKeys == (fn.params.toList++s.plain.varTypes P++fn.resultTypes.toList).any (P.wideKeysFrom ·))=true)
  (m:s.vars.all (P.varReadable ·)=true) (n:fn.resultTypes.all (λt=>P.readableRec t && decide (t<P.types.size))=true) (o:(c.ifacesOut == fn.resultTypes.toList.any (P.ifacesRec ·))=true) (p:(c.loopsOut == fn.resultTypes.toList.any (P.loopsFrom ·))=true)
  (q:(c.plainKeys == P.plainKeys)=true) (r:c.shortTexts.isNone=true) (u:P.stopsHeard=true) (v:P.mayEnter=true) (w:(c.lifted == P.liftsFinal)=true) (x:(P.make == some c.make)=true)
  (y:(c.kinds == (if c.domain.isEmpty then [] else fn.params.toList.map λt=>match P.underlying t with | some (.int k)=>some k | _=>none))=true) (z:(c.pinned == c.pinnedBy)=true)
  (a0:(c.veiled == (fn.params.toList++s.plain.varTypes P++fn.resultTypes.toList).any (P.veiledRec ·))=true) (a1:c.veiledFits P fn.params.toList (fn.params.toList++s.plain.varTypes P++fn.resultTypes.toList)=true) :
  joinedFacts P f fn s c=true:=by
 exact qP (qP (qP (qP (qP (qP (qP (qP (qP (qP (qP (qP (qP (qP (qP (qP (qP (qP (qP (qP (qP (qP (qP (qP (qP (qP (qP (qP (qP (qP (qP h1 h2) h3) h4) h5) h6) h7) h8) h9) a) b) d) e) g) h) i) j) l) m) n) o) p) q) r) u) v) w) x) y) z) a0) a1
theorem ZlZ:laidOutB Tryz.pinned.checked.prog=true:=DR
theorem Zl0:mapsRowed Tryz.pinned.checked.prog=true:=DR
theorem Zl1:(Tryz.pinned.checked.prog.stops == [])=true:=DR
theorem Zl2:(Tryz.pinned.checked.prog.stopKnobs == [])=true:=DR
theorem Zl3:Tryz.pinned.checked.prog.stopsHeard=true:=DR
theorem Zl4:Tryz.pinned.checked.prog.mayEnter=true:=DR
end Go.Proofs.YtcocagkbfpgmiaaGreatDoor
namespace Go.Proofs.YtcocagkbfpgmiaaGreatDoor.Pv
open Go
theorem mixed:prog.follows .mixedOrders=true:=DR
@[simp] theorem c0:prog.cellsOf 0=1:=DR
@[simp] theorem b0:Program.bytesOf' prog 0=some 0:=DR
@[simp] theorem i0:(prog.info? 0).isSome=true:=DR
attribute [simp] underlying0
@[simp] theorem c1:prog.cellsOf 1=1:=DR
@[simp] theorem b1:Program.bytesOf' prog 1=some 8:=DR
@[simp] theorem z1:Program.zeroOf prog 1=some .nilFunc:=DR
@[simp] theorem i1:(prog.info? 1).isSome=true:=DR
attribute [simp] underlying1
@[simp] theorem c2:prog.cellsOf 2=1:=DR
@[simp] theorem b2:Program.bytesOf' prog 2=some 8:=DR
@[simp] theorem z2:Program.zeroOf prog 2=some (.int .i64 0):=DR
@[simp] theorem i2:(prog.info? 2).isSome=true:=DR
@[simp] theorem c3:prog.cellsOf 3=1:=DR
@[simp] theorem b3:Program.bytesOf' prog 3=some 8:=DR
@[simp] theorem z3:Program.zeroOf prog 3=some (.int .i64 0):=DR
@[simp] theorem i3:(prog.info? 3).isSome=true:=DR
attribute [simp] underlying3
@[simp] theorem c4:prog.cellsOf 4=1:=DR
@[simp] theorem b4:Program.bytesOf' prog 4=some 1:=DR
@[simp] theorem z4:Program.zeroOf prog 4=some (.bool false):=DR
@[simp] theorem i4:(prog.info? 4).isSome=true:=DR
attribute [simp] underlying4
@[simp] theorem c5:prog.cellsOf 5=1:=DR
@[simp] theorem b5:Program.bytesOf' prog 5=some 1:=DR
@[simp] theorem z5:Program.zeroOf prog 5=some (.int .u8 0):=DR
attribute [simp] underlying5
@[simp] theorem b6:Program.bytesOf' prog 6=some 1:=DR
@[simp] theorem z6:Program.zeroOf prog 6=some (.int .u8 0):=DR
@[simp] theorem q7:WB prog 7=true:=DR
@[simp] theorem z7:Program.zeroOf prog 7=some (.agg #[(.int .i64 0),(.int .i64 0),(.bool false),(.int .u8 0)]):=DR
@[simp] theorem q8:WB prog 8=true:=DR
@[simp] theorem c9:prog.cellsOf 9=1:=DR
@[simp] theorem b9:Program.bytesOf' prog 9=some 16:=DR
@[simp] theorem z9:Program.zeroOf prog 9=some (.string ⟨#[]⟩):=DR
@[simp] theorem i9:(prog.info? 9).isSome=true:=DR
attribute [simp] underlying9
@[simp] theorem z20:Program.zeroOf prog 20=some .nilIface:=DR
attribute [simp] underlying20
@[simp] theorem z21:Program.zeroOf prog 21=some (.int .i32 0):=DR
attribute [simp] underlying21
@[simp] theorem c22:prog.cellsOf 22=1:=DR
@[simp] theorem z22:Program.zeroOf prog 22=some (.slice none 0 0):=DR
@[simp] theorem i22:(prog.info? 22).isSome=true:=DR
attribute [simp] underlying22
@[simp] theorem c23:prog.cellsOf 23=1:=DR
@[simp] theorem i23:(prog.info? 23).isSome=true:=DR
attribute [simp] underlying23
@[simp] theorem z24:Program.zeroOf prog 24=some (.agg #[(.int .i64 0),(.int .i64 0),(.int .i64 0),(.int .i64 0),(.slice none 0 0),(.slice none 0 0)]):=DR
@[simp] theorem c25:prog.cellsOf 25=6:=DR
@[simp] theorem z25:Program.zeroOf prog 25=some (.agg #[(.int .i64 0),(.int .i64 0),(.int .i64 0),(.int .i64 0),(.slice none 0 0),(.slice none 0 0)]):=DR
@[simp] theorem i25:(prog.info? 25).isSome=true:=DR
attribute [simp] underlying25
@[simp] theorem c26:prog.cellsOf 26=1:=DR
@[simp] theorem b26:Program.bytesOf' prog 26=some 24:=DR
@[simp] theorem z26:Program.zeroOf prog 26=some (.slice none 0 0):=DR
@[simp] theorem i26:(prog.info? 26).isSome=true:=DR
attribute [simp] underlying26
@[simp] theorem c28:prog.cellsOf 28=1:=DR
@[simp] theorem z28:Program.zeroOf prog 28=some (.slice none 0 0):=DR
@[simp] theorem i28:(prog.info? 28).isSome=true:=DR
attribute [simp] underlying28
@[simp] theorem c30:prog.cellsOf 30=1:=DR
@[simp] theorem z30:Program.zeroOf prog 30=some (.agg #[(.slice none 0 0)]):=DR
@[simp] theorem i30:(prog.info? 30).isSome=true:=DR
attribute [simp] underlying30
@[simp] theorem z31:Program.zeroOf prog 31=some (.agg #[(.int .i64 0),(.int .i64 0),(.int .i64 0),(.int .i64 0),(.slice none 0 0),(.slice none 0 0)]):=DR
@[simp] theorem c32:prog.cellsOf 32=6:=DR
@[simp] theorem z32:Program.zeroOf prog 32=some (.agg #[(.int .i64 0),(.int .i64 0),(.int .i64 0),(.int .i64 0),(.slice none 0 0),(.slice none 0 0)]):=DR
@[simp] theorem i32:(prog.info? 32).isSome=true:=DR
attribute [simp] underlying32
@[simp] theorem c36:prog.cellsOf 36=1:=DR
@[simp] theorem z36:Program.zeroOf prog 36=some .nilFunc:=DR
attribute [simp] underlying36
@[simp] theorem c37:prog.cellsOf 37=1:=DR
@[simp] theorem z37:Program.zeroOf prog 37=some (.slice none 0 0):=DR
@[simp] theorem i37:(prog.info? 37).isSome=true:=DR
attribute [simp] underlying37
@[simp] theorem c39:prog.cellsOf 39=1:=DR
@[simp] theorem b39:Program.bytesOf' prog 39=some 24:=DR
@[simp] theorem z39:Program.zeroOf prog 39=some (.agg #[(.slice none 0 0)]):=DR
@[simp] theorem i39:(prog.info? 39).isSome=true:=DR
attribute [simp] underlying39
@[simp] theorem c40:prog.cellsOf 40=1:=DR
@[simp] theorem b40:Program.bytesOf' prog 40=some 24:=DR
@[simp] theorem z40:Program.zeroOf prog 40=some (.slice none 0 0):=DR
@[simp] theorem i40:(prog.info? 40).isSome=true:=DR
attribute [simp] underlying40
@[simp] theorem c42:prog.cellsOf 42=1:=DR
@[simp] theorem b42:Program.bytesOf' prog 42=some 24:=DR
@[simp] theorem z42:Program.zeroOf prog 42=some (.agg #[(.slice none 0 0)]):=DR
@[simp] theorem i42:(prog.info? 42).isSome=true:=DR
attribute [simp] underlying42
@[simp] theorem z45:Program.zeroOf prog 45=some .nilFunc:=DR
@[simp] theorem z46:Program.zeroOf prog 46=some .nilFunc:=DR
@[simp] theorem c47:prog.cellsOf 47=1:=DR
@[simp] theorem b47:Program.bytesOf' prog 47=some 8:=DR
@[simp] theorem z47:Program.zeroOf prog 47=some (.int .i64 0):=DR
@[simp] theorem i47:(prog.info? 47).isSome=true:=DR
attribute [simp] underlying47
@[simp] theorem z50:Program.zeroOf prog 50=some .nilFunc:=DR
@[simp] theorem z51:Program.zeroOf prog 51=some .nilFunc:=DR
@[simp] theorem z53:Program.zeroOf prog 53=some .nilFunc:=DR
@[simp] theorem z55:Program.zeroOf prog 55=some .nilFunc:=DR
attribute [simp] underlying58
@[simp] theorem i64:(prog.info? 64).isSome=true:=DR
@[simp] theorem c65:prog.cellsOf 65=4:=DR
@[simp] theorem z65:Program.zeroOf prog 65=some (.agg #[(.int .i64 0),(.int .i64 0),(.int .i64 0),(.int .i64 0)]):=DR
@[simp] theorem i65:(prog.info? 65).isSome=true:=DR
attribute [simp] underlying65
@[simp] theorem z66:Program.zeroOf prog 66=some .nilFunc:=DR
@[simp] theorem c68:prog.cellsOf 68=2:=DR
@[simp] theorem z68:Program.zeroOf prog 68=some (.agg #[(.slice none 0 0),(.slice none 0 0)]):=DR
@[simp] theorem i68:(prog.info? 68).isSome=true:=DR
attribute [simp] underlying68
@[simp] theorem z70:Program.zeroOf prog 70=some .nilFunc:=DR
@[simp] theorem z72:Program.zeroOf prog 72=some .nilFunc:=DR
@[simp] theorem z75:Program.zeroOf prog 75=some .nilFunc:=DR
@[simp] theorem z76:Program.zeroOf prog 76=some .nilFunc:=DR
@[simp] theorem z77:Program.zeroOf prog 77=some .nilFunc:=DR
@[simp] theorem c78:prog.cellsOf 78=1:=DR
@[simp] theorem i78:(prog.info? 78).isSome=true:=DR
attribute [simp] underlying78
@[simp] theorem c81:prog.cellsOf 81=1:=DR
@[simp] theorem b81:Program.bytesOf' prog 81=some 24:=DR
@[simp] theorem z81:Program.zeroOf prog 81=some (.slice none 0 0):=DR
attribute [simp] underlying81
@[simp] theorem c85:prog.cellsOf 85=1:=DR
@[simp] theorem i85:(prog.info? 85).isSome=true:=DR
attribute [simp] underlying85
@[simp] theorem c87:prog.cellsOf 87=8:=DR
@[simp] theorem b87:Program.bytesOf' prog 87=some 80:=DR
@[simp] theorem z87:Program.zeroOf prog 87=some (.agg #[(.int .i64 0),(.int .i64 0),(.slice none 0 0),(.int .i64 0),(.int .i64 0),(.int .i64 0),(.int .i64 0),(.int .i64 0)]):=DR
@[simp] theorem i87:(prog.info? 87).isSome=true:=DR
attribute [simp] underlying87
@[simp] theorem z92:Program.zeroOf prog 92=some (.agg #[(.string ⟨#[]⟩),(.int .i64 0),(.int .i64 0),(.int .i64 0),(.int .i64 0),(.int .i64 0),(.int .i64 0),(.int .i64 0),(.int .i64 0),(.slice none 0 0),(.slice none 0 0),(.int .i64 0),(.int .i64 0),(.int .i64 0),(.int .i64 0),(.slice none 0 0),(.slice none 0 0)]):=DR
attribute [simp] underlying92
@[simp] theorem c93:prog.cellsOf 93=1:=DR
@[simp] theorem z93:Program.zeroOf prog 93=some .nilFunc:=DR
attribute [simp] underlying93
attribute [simp] underlying94
@[simp] theorem c98:prog.cellsOf 98=1:=DR
@[simp] theorem b98:Program.bytesOf' prog 98=some 8:=DR
@[simp] theorem z98:Program.zeroOf prog 98=some (.int .u64 0):=DR
@[simp] theorem i98:(prog.info? 98).isSome=true:=DR
attribute [simp] underlying98
@[simp] theorem Zcm:prog.cellsOf 100=2:=DR
@[simp] theorem ZfB:Program.bytesOf' prog 100=some 16:=DR
@[simp] theorem ZfC:Program.zeroOf prog 100=some (.agg #[(.int .i64 0),(.int .i64 0)]):=DR
@[simp] theorem Zcn:(prog.info? 100).isSome=true:=DR
attribute [simp] underlying100
@[simp] theorem Zx9:prog.cellsOf 101=1:=DR
@[simp] theorem Zya:Program.bytesOf' prog 101=some 24:=DR
@[simp] theorem Zyb:Program.zeroOf prog 101=some (.slice none 0 0):=DR
attribute [simp] underlying101
@[simp] theorem Zyc:prog.cellsOf 104=2:=DR
@[simp] theorem Zyd:Program.bytesOf' prog 104=some 16:=DR
@[simp] theorem Zye:Program.zeroOf prog 104=some (.agg #[(.int .i64 0),(.int .i64 0)]):=DR
attribute [simp] underlying104
@[simp] theorem z105:Program.zeroOf prog 105=some .nilFunc:=DR
@[simp] theorem Zyf:prog.cellsOf 110=1:=DR
attribute [simp] underlying110
@[simp] theorem Zyg:prog.cellsOf 111=1:=DR
attribute [simp] underlying111
@[simp] theorem Zyh:prog.cellsOf 113=2:=DR
@[simp] theorem Zyi:Program.zeroOf prog 113=some (.agg #[(.pointer none),(.slice none 0 0)]):=DR
attribute [simp] underlying113
attribute [simp] underlying115
attribute [simp] underlying116
@[simp] theorem z119:Program.zeroOf prog 119=some .nilFunc:=DR
attribute [simp] underlying124
@[simp] theorem z127:Program.zeroOf prog 127=some .nilFunc:=DR
@[simp] theorem z131:Program.zeroOf prog 131=some .nilFunc:=DR
@[simp] theorem z138:Program.zeroOf prog 138=some .nilFunc:=DR
@[simp] theorem z139:Program.zeroOf prog 139=some .nilFunc:=DR
@[simp] theorem z146:Program.zeroOf prog 146=some .nilFunc:=DR
@[simp] theorem Zyj:Program.zeroOf prog 147=some (.agg #[(.int .i64 0),(.int .i64 0),(.int .i64 0),(.int .i64 0)]):=DR
attribute [simp] underlying147
@[simp] theorem z148:Program.zeroOf prog 148=some .nilFunc:=DR
@[simp] theorem Zyk:Program.zeroOf prog 154=some (.agg #[(.int .u8 0),(.int .u8 0),(.int .u8 0),(.int .u8 0),(.int .u8 0),(.int .u8 0),(.int .u8 0),(.int .u8 0),(.int .u8 0),(.int .u8 0),(.int .u8 0),(.int .u8 0),(.int .u8 0),(.int .u8 0),(.int .u8 0),(.int .u8 0),(.int .u8 0),(.int .u8 0),(.int .u8 0),(.int .u8 0)]):=DR
attribute [simp] underlying154
@[simp] theorem Zyl:prog.cellsOf 159=3:=DR
@[simp] theorem Zym:Program.zeroOf prog 159=some (.agg #[(.int .i64 0),(.int .i64 0),(.int .i64 0)]):=DR
attribute [simp] underlying159
attribute [simp] underlying161
@[simp] theorem z164:Program.zeroOf prog 164=some (.agg #[(.slice none 0 0),(.int .i64 0),(.int .i64 0),(.int .i64 0),(.int .i64 0),(.int .i64 0),(.slice none 0 0),(.slice none 0 0),(.int .i64 0),(.bool false)]):=DR
attribute [simp] underlying164
attribute [simp] underlying165
attribute [simp] underlying167
@[simp] theorem Zyn:prog.cellsOf 171=8:=DR
@[simp] theorem Zyo:Program.zeroOf prog 171=some (.agg #[(.int .i64 0),(.int .i64 0),(.int .i64 0),(.int .i64 0),(.slice none 0 0),(.slice none 0 0),(.slice none 0 0),(.int .i64 0)]):=DR
attribute [simp] underlying171
@[simp] theorem Zyp:Program.zeroOf prog 179=some (.agg #[(.int .u64 0)]):=DR
attribute [simp] underlying179
@[simp] theorem z182:Program.zeroOf prog 182=some (.agg #[(.int .i64 0),(.int .i64 0),(.int .i64 0),(.int .i64 0),(.slice none 0 0),(.slice none 0 0),(.slice none 0 0),(.slice none 0 0),(.slice none 0 0)]):=DR
attribute [simp] underlying182
@[simp] theorem z183:Program.zeroOf prog 183=some .nilFunc:=DR
attribute [simp] underlying191
attribute [simp] underlying202
@[simp] theorem Zyq:prog.cellsOf 205=1:=DR
@[simp] theorem Zyr:Program.zeroOf prog 205=some .nilFunc:=DR
attribute [simp] underlying205
@[simp] theorem Zys:prog.cellsOf 207=9:=DR
@[simp] theorem Zyt:Program.zeroOf prog 207=some (.agg #[(.int .i64 0),(.int .i64 0),(.slice none 0 0),(.int .i64 0),(.int .i64 0),(.int .i64 0),(.int .i64 0),(.int .i64 0),(.int .i64 0)]):=DR
attribute [simp] underlying207
@[simp] theorem Zyu:Program.zeroOf prog 214=some .nilFunc:=DR
attribute [simp] underlying215
@[simp] theorem z218:Program.zeroOf prog 218=some .nilFunc:=DR
attribute [simp] underlying219
@[simp] theorem z222:Program.zeroOf prog 222=some (.agg #[(.int .i64 0),(.int .i64 0),(.int .i64 0),(.int .i64 0),(.slice none 0 0),(.slice none 0 0),(.slice none 0 0)]):=DR
@[simp] theorem Zyv:Program.zeroOf prog 223=some (.agg #[(.int .i64 0),(.int .i64 0),(.int .i64 0),(.int .i64 0),(.slice none 0 0),(.slice none 0 0),(.slice none 0 0)]):=DR
attribute [simp] underlying223
@[simp] theorem z228:Program.zeroOf prog 228=some (.int .u64 0):=DR
attribute [simp] underlying228
@[simp] theorem Zyw:prog.cellsOf 232=1:=DR
@[simp] theorem Zyx:(prog.info? 232).isSome=true:=DR
attribute [simp] underlying232
@[simp] theorem Zyy:prog.cellsOf 233=1:=DR
@[simp] theorem Zyz:(prog.info? 233).isSome=true:=DR
attribute [simp] underlying233
@[simp] theorem ZyA:Program.zeroOf prog 235=some (.agg #[(.int .i64 0),(.int .i64 0),(.int .i64 0),(.int .i64 0),(.slice none 0 0),(.slice none 0 0),(.slice none 0 0),(.int .i64 0),(.slice none 0 0),(.slice none 0 0),(.slice none 0 0)]):=DR
attribute [simp] underlying235
@[simp] theorem ZyB:Program.zeroOf prog 245=some (.agg #[(.int .i64 0),(.int .i64 0),(.int .i64 0),(.int .i64 0),(.slice none 0 0),(.slice none 0 0),(.slice none 0 0),(.int .i64 0),(.int .i64 0),(.int .i64 0),(.int .i64 0)]):=DR
attribute [simp] underlying245
attribute [simp] underlying246
attribute [simp] underlying257
attribute [simp] underlying261
@[simp] theorem ZyC:prog.cellsOf 263=1:=DR
@[simp] theorem ZyD:(prog.info? 263).isSome=true:=DR
attribute [simp] underlying263
@[simp] theorem ZyE:prog.cellsOf 265=2:=DR
@[simp] theorem ZyF:Program.zeroOf prog 265=some (.agg #[.nilFunc,(.int .i64 0)]):=DR
attribute [simp] underlying265
@[simp] theorem ZyG:Program.zeroOf prog 267=some (.agg #[(.int .i64 0),(.int .i64 0),(.int .i64 0),(.int .i64 0),(.slice none 0 0),(.slice none 0 0),(.slice none 0 0)]):=DR
attribute [simp] underlying267
attribute [simp] underlying293
attribute [simp] underlying294
attribute [simp] underlying296
attribute [simp] underlying307
attribute [simp] underlying310
attribute [simp] underlying311
@[simp] theorem ZyH:prog.cellsOf 324=3:=DR
@[simp] theorem ZyI:WB prog 324=true:=DR
@[simp] theorem ZyJ:Program.zeroOf prog 324=some (.agg #[(.bool false),(.int .i64 0),(.int .i64 0)]):=DR
attribute [simp] underlying324
attribute [simp] underlying325
@[simp] theorem ZyK:prog.cellsOf 339=5:=DR
@[simp] theorem ZyL:Program.zeroOf prog 339=some (.agg #[(.int .i64 0),(.int .i64 0),(.int .i64 0),(.int .i64 0),(.int .i64 0)]):=DR
@[simp] theorem ZyM:(prog.info? 339).isSome=true:=DR
attribute [simp] underlying339
attribute [simp] underlying345
@[simp] theorem ZyN:prog.cellsOf 352=1:=DR
@[simp] theorem ZyO:Program.zeroOf prog 352=some .nilFunc:=DR
attribute [simp] underlying352
@[simp] theorem ZyP:prog.cellsOf 354=1:=DR
@[simp] theorem ZyQ:Program.zeroOf prog 354=some .nilFunc:=DR
attribute [simp] underlying354
@[simp] theorem ZyR:prog.cellsOf 358=1:=DR
@[simp] theorem ZyS:Program.zeroOf prog 358=some (.slice none 0 0):=DR
attribute [simp] underlying358
@[simp] theorem ZyT:prog.cellsOf 363=1:=DR
@[simp] theorem ZyU:Program.zeroOf prog 363=some (.pointer none):=DR
attribute [simp] underlying363
@[simp] theorem ZyV:prog.cellsOf 369=4:=DR
@[simp] theorem ZyW:Program.zeroOf prog 369=some (.agg #[(.int .i64 0),(.int .i64 0),(.int .i64 0),(.bool false)]):=DR
@[simp] theorem ZyX:(prog.info? 369).isSome=true:=DR
attribute [simp] underlying369
@[simp] theorem ZyY:prog.cellsOf 371=20:=DR
@[simp] theorem ZyZ:Program.zeroOf prog 371=some (.agg #[(.int .i64 0),(.int .i64 0),(.int .i64 0),(.bool false),(.int .i64 0),(.int .i64 0),(.int .i64 0),(.bool false),(.int .i64 0),(.int .i64 0),(.int .i64 0),(.bool false),(.int .i64 0),(.int .i64 0),(.int .i64 0),(.bool false),(.int .i64 0),(.int .i64 0),(.int .i64 0),(.bool false)]):=DR
attribute [simp] underlying371
attribute [simp] underlying377
attribute [simp] underlying379
attribute [simp] underlying380
attribute [simp] underlying381
@[simp] theorem Zy0:prog.cellsOf 383=1:=DR
@[simp] theorem Zy1:Program.zeroOf prog 383=some (.pointer none):=DR
attribute [simp] underlying383
@[simp] theorem Zy2:prog.cellsOf 384=1:=DR
@[simp] theorem Zy3:(prog.info? 384).isSome=true:=DR
attribute [simp] underlying384
@[simp] theorem Zy4:prog.cellsOf 385=1:=DR
@[simp] theorem Zy5:(prog.info? 385).isSome=true:=DR
attribute [simp] underlying385
@[simp] theorem Zy6:Program.zeroOf prog 387=some (.agg #[(.int .i64 0),(.int .i64 0),(.int .i64 0),(.int .i64 0),(.slice none 0 0),(.slice none 0 0),(.slice none 0 0),(.int .i64 0),(.map none)]):=DR
attribute [simp] underlying387
@[simp] theorem Zy7:prog.cellsOf 392=3:=DR
@[simp] theorem Zy8:Program.bytesOf' prog 392=some 24:=DR
@[simp] theorem Zy9:Program.zeroOf prog 392=some (.agg #[(.int .i64 0),(.int .i64 0),(.int .i64 0)]):=DR
attribute [simp] underlying392
@[simp] theorem Zza:prog.cellsOf 395=13:=DR
@[simp] theorem Zzb:Program.zeroOf prog 395=some (.agg #[(.int .i64 0),(.int .i64 0),(.int .i64 0),(.int .i64 0),(.slice none 0 0),(.slice none 0 0),(.slice none 0 0),(.slice none 0 0),(.bool false),(.slice none 0 0),(.int .i64 0),(.slice none 0 0),(.slice none 0 0)]):=DR
attribute [simp] underlying395
@[simp] theorem Zzc:prog.cellsOf 400=3:=DR
@[simp] theorem Zzd:Program.zeroOf prog 400=some (.agg #[(.int .i64 0),(.int .i64 0),(.int .i64 0)]):=DR
attribute [simp] underlying400
@[simp] theorem Zze:prog.cellsOf 406=1:=DR
@[simp] theorem Zzf:(prog.info? 406).isSome=true:=DR
attribute [simp] underlying406
@[simp] theorem Zzg:Program.zeroOf prog 408=some (.agg #[(.int .i64 0),(.int .i64 0),(.int .i64 0),(.int .i64 0),(.slice none 0 0),(.slice none 0 0),(.slice none 0 0),(.slice none 0 0)]):=DR
attribute [simp] underlying408
@[simp] theorem Zzh:prog.cellsOf 410=4:=DR
@[simp] theorem Zzi:Program.bytesOf' prog 410=some 80:=DR
@[simp] theorem Zzj:Program.zeroOf prog 410=some (.agg #[(.slice none 0 0),(.slice none 0 0),(.slice none 0 0),(.int .i64 0)]):=DR
attribute [simp] underlying410
@[simp] theorem Zzk:prog.cellsOf 412=1:=DR
@[simp] theorem Zzl:(prog.info? 412).isSome=true:=DR
attribute [simp] underlying412
@[simp] theorem Zzm:prog.cellsOf 413=1:=DR
@[simp] theorem Zzn:(prog.info? 413).isSome=true:=DR
attribute [simp] underlying413
@[simp] theorem Zzo:prog.cellsOf 415=2:=DR
@[simp] theorem Zzp:Program.zeroOf prog 415=some (.agg #[.nilFunc,.nilFunc]):=DR
@[simp] theorem Zzq:(prog.info? 415).isSome=true:=DR
attribute [simp] underlying415
@[simp] theorem Zzr:prog.cellsOf 416=8:=DR
@[simp] theorem Zzs:Program.zeroOf prog 416=some (.agg #[.nilFunc,.nilFunc,.nilFunc,.nilFunc,.nilFunc,.nilFunc,.nilFunc,.nilFunc]):=DR
attribute [simp] underlying416
@[simp] theorem Zzt:prog.cellsOf 420=7:=DR
@[simp] theorem Zzu:Program.zeroOf prog 420=some (.agg #[(.int .i64 0),(.int .i64 0),(.int .i64 0),(.int .i64 0),(.int .i64 0),(.int .i64 0),(.int .i64 0)]):=DR
attribute [simp] underlying420
attribute [simp] underlying427
@[simp] theorem Zzv:prog.cellsOf 429=1:=DR
@[simp] theorem Zzw:Program.bytesOf' prog 429=some 24:=DR
@[simp] theorem Zzx:Program.zeroOf prog 429=some (.slice none 0 0):=DR
attribute [simp] underlying429
@[simp] theorem Zzy:prog.cellsOf 441=1:=DR
@[simp] theorem Zzz:(prog.info? 441).isSome=true:=DR
attribute [simp] underlying441
@[simp] theorem ZzA:prog.cellsOf 443=2:=DR
@[simp] theorem ZzB:Program.zeroOf prog 443=some (.agg #[(.slice none 0 0),(.map none)]):=DR
@[simp] theorem ZzC:(prog.info? 443).isSome=true:=DR
attribute [simp] underlying443
@[simp] theorem ZzD:Program.zeroOf prog 445=some (.agg #[(.slice none 0 0),(.map none)]):=DR
attribute [simp] underlying445
attribute [simp] underlying447
@[simp] theorem ZzE:prog.cellsOf 449=2:=DR
@[simp] theorem ZzF:Program.bytesOf' prog 449=some 16:=DR
@[simp] theorem ZzG:Program.zeroOf prog 449=some (.agg #[(.int .i64 0),(.int .i64 0)]):=DR
attribute [simp] underlying449
theorem Zl7:qC prog 190:=qx func190 DR rfl
theorem Zl8:qC prog 191:=qx func191 DR rfl
theorem Zl9:qC prog 206:=qx func206 DR rfl
theorem Zma:qC prog 222:=qx func222 DR rfl
theorem Zmb:qC prog 348:=qx func348 DR rfl
theorem Zmc:qC prog 349:=qx func349 DR rfl
theorem Zmd:qC prog 367:=qx func367 DR rfl
theorem Zme:qC prog 368:=qx func368 DR rfl
theorem Zmf:qC prog 369:=qx func369 DR rfl
theorem ZfD:qC prog 377:=qx func377 DR rfl
theorem Zmg:qC prog 378:=qx func378 DR rfl
theorem Zmh:qC prog 380:=qx func380 DR rfl
theorem ZfE:qC prog 413:=qx func413 DR rfl
theorem Zco:qC prog 414:=qx func414 DR rfl
theorem Zmi:qC prog 415:=qx func415 DR rfl
theorem Zmj:qC prog 416:=qx func416 DR rfl
theorem Zcp:qC prog 417:=qx func417 DR rfl
open Go
def yL(n i:Nat):Nat:=n / 2 ^ i % 2
def qh(n:Nat):List Int:=(List.range 64).map λi=>((yL n i:Nat):Int)
def jZ:List Int->Int
 | []=>0
 | b :: l=>2*jZ l+b
theorem QN(n:Nat):(qh n).length=64:=by simp[qh]
theorem XC(n i:Nat):yL n i<=1:=by unfold yL;omega
theorem Zcq(n:Nat):∀b∈qh n,b=0\/b=1:=by
 intro b hb;simp only[qh,Al]at hb;obtain⟨i,_,rfl⟩:=hb;have:=XC n i;omega
theorem Zas(l:List Int)(h:∀b∈l,b=0\/b=1):0<=jZ l/\jZ l<2 ^ l.length:=by
 induction l with
 | nil=>simp[jZ]
 | cons b l a =>
  obtain⟨h1,h2⟩:=a (λc hc=>h c (by simp[hc]));have:=h b DP;simp only[jZ,Ae,Int.pow_succ];omega
theorem Zat(l:List Int)(k:Nat)(v:Int)(h:k<l.length):yk (l.flatMap Enc.enc) k [I v]=(l.set k v).flatMap Enc.enc:=by
 have e:∀l:List Int,l.flatMap Enc.enc=l.map I:=λl=>by induction l<;>simp_all
 rw[e,e,yk,List.map_set,AE,if_pos (by simpa using h)];simp
theorem Zcr(n:Nat):qa n (.int .i64 0)=(List.replicate n (0:Int)).flatMap Enc.enc:=by
 induction n with
 | zero=>simp
 | succ n a=>rw[QI,a,BC];simp[jI,Value.cells]
def vV(n k:Nat):List Int:=(List.range 64).map λi=>if i<k then ((yL n i:Nat):Int) else 0
theorem Zmk(n:Nat):vV n 0=List.replicate 64 0:=by
 apply A3
 ·simp[vV]
 ·intro i h1 h2;simp only[Dy];simp[vV]
theorem Zml(n k:Nat)(h:64<=k):vV n k=qh n:=by
 apply A3
 ·simp[vV,qh]
 ·intro i h1 h2;simp[vV]at h1;simp[vV,qh,show i<k by omega]
theorem Zmm(n k:Nat)(h:k<64):(vV n k).set k ((yL n k:Nat):Int)=vV n (k+1):=by
 apply A3
 ·simp[vV]
 ·intro i h1 h2;rw[CB];simp only[vV,Cd,Ch];split
  ·rename_i e;subst e;simp
  ·rename_i e
   by_cases q:i<k
   ·rw[if_pos q,if_pos DO]
   ·rw[if_neg q,if_neg DO]
theorem Zmn(n k:Nat):(vV n k).length=64:=by simp[vV]
theorem ZfF(n:Nat)(hn:n<2 ^ 64)(S:Store)(nx:Nat)(d:yd nx S):Spec prog 92 [U n] S (λp S'=>∃v,p=.sl nx v 1 0 64/\S'=S.set nx (.cells v 3 ((qh n).flatMap Enc.enc))):=by
 refine Zv d func92 ntmps92 results92 ?_;refine DY ?_;refine DY ?_;intro v0
 repeat apply ze
 refine zg ?_;refine zn (zK (λs:Nat × Nat=>s.1<=64) (λ(k,v)=>[(0,U (n / 2 ^ k)),(3,.sl nx v 1 0 64),(4,I k)]) (λ(k,v)=>[.cells v 3 ((vV n k).flatMap Enc.enc)]) (λs=>64-s.1) (0,v0) [] DP DP (by simp[Zmk,Zcr]) ?_);rintro⟨k,v⟩ h;simp only at h ⊢
 repeat apply ze
 refine zg ?_;refine zA rfl (λhc=>?_) (λhc=>?_)
 ·simp at hc;have a:k<64:=DO
  have hl:=Zmn n k;have hm:n / 2 ^ k<18446744073709551616:=Nat.lt_of_le_of_lt (Nat.div_le_self _ _) hn;generalize b:n / 2 ^ k=m at *;have e:(m:Int).tmod 2=(m:Int) % 2:=Be DO;have f:IntKind.i64.wrap ((m:Int) % 2)=(m:Int) % 2:=wr _ DO DO;have t3:IntKind.u64.wrap ((m:Int) / 2)=(m:Int) / 2:=IntWalk.u64_in _ DO;have g:(m:Int).tdiv 2=(m:Int) / 2:=BS DO;have t4:m % 2=yL n k:=by unfold yL;rw[b]
  have t5:m / 2=n / 2 ^ (k+1):=by rw[<-b,Nat.div_div_eq_div_mul,DN]
  have i:(m:Int) / 2=(n:Int) / 2 ^ (k+1):=by exact_mod_cast t5
  have l:(m:Int) % 2=(yL n k:Nat):=by exact_mod_cast t4
  have hs:=Zat (vV n k) k ((m:Int) % 2) DO;refine zk (ze (zn (ze (zi [] (yr hc e f hs hl) ?_))));refine⟨by omega,?_⟩;refine zi [] (zq t3 g) ?_;refine zg ?_;exact zu (k+1,v) [] a DT (by simp[zy k (by omega),i,g,t3]) rfl (by simp[<-Zmm n k a,<-l,e,f,hs])
 ·simp at hc;have c:k=64:=DO
  subst c;refine zC (DY ?_);refine zj ⟨_,_,rfl,⟨v,rfl,rfl⟩,JD (j:=0) d (by simp[Zml n 64])⟩
theorem Zcs(n:Nat)(hn:n<2 ^ 64):Pure prog 92 [U n] (L (qh n)):=by
 have:=Zan 0 (λS nx a=>ZfF n hn S nx a) (by simp[QN]);rw[<-QN n]at this;exact this
theorem ZfG(l:List Int)(hl:l.length=64)(a:∀b∈l,b=0\/b=1):Pure prog 131 [L l] (.sc (.int .u64 (jZ l))):=by
 refine zx func131 ntmps131 results131 λS nx e=>?_
 refine DY ?_;refine DY ?_
 repeat apply ze
 refine zg ?_;refine zn (zK (λm:Nat=>m<=64) (λm=>[(0,L l),(3,.sc (.int .u64 (jZ (l.drop m)))),(4,I ((m:Int)-1))]) (λ_=>[]) (λm=>m) 64 [] DP (by simp[AX (Cw hl),jZ]) DP ?_);rintro m hm
 repeat apply ze
 refine zg ?_;refine zA rfl (λhc=>?_) (λhc=>?_)
 ·simp at hc;obtain⟨j,rfl⟩:∃j,m=j+1:=⟨m-1,by omega⟩;obtain⟨b,tl,f,g,a3,h⟩:=zN rfl l j DO;have hb:=a b (Ab f);have q:=Zas (l.drop (j+1)) (λc hc=>a c (Ck hc));have p:(2:Int) ^ (l.drop (j+1)).length<=9223372036854775808:=by
   have:(l.drop (j+1)).length<=63:=DT
   calc (2:Int) ^ (l.drop (j+1)).length<=2 ^ 63:=by exact_mod_cast BH DV this
    _=9223372036854775808:=DV
  have g1:(j:Int)<l.length:=DO
  have i:IntKind.u64.wrap (2*jZ (l.drop (j+1)))=2*jZ (l.drop (j+1)):=IntWalk.u64_in _ DO;have k:IntKind.u64.wrap b=b:=IntWalk.u64_in _ DO;have n:IntKind.u64.wrap (2*jZ (l.drop (j+1))+b)=jZ (l.drop j):=by rw[IntWalk.u64_in _ DO,g];rfl
  have s1:((j:Int)+1-1)=j:=DO
  refine zk (ze (zn (zi [] (zW h g1 i k n s1) ?_)));refine zg ?_;have o:IntKind.i64.wrap ((j:Int)-1)=(j:Int)-1:=wr _ DO DO;exact zu j [] DO DO (by simp[s1,o]) rfl DP
 ·simp at hc;have d:m=0:=DO
  subst d;refine zC (DY ?_);exact zj (zm e rfl rfl)
theorem Zct(n d:Nat)(h:d<64):(qh n)[d]?=some ((yL n d:Nat):Int):=by simp[qh,h]
theorem Zmo(n:Nat)(d:Int)(hn:n<2 ^ 64)(h0:0<=d)(h1:d<=63):Pure prog 90 [U n,I d] (B (decide (yL n d.toNat=1))):=by
 obtain⟨k,rfl⟩:=Ay h0;have c:k<64:=DO
 have hl:=QN n;obtain⟨b,tl,a,g,a3,e⟩:=zN rfl (qh n) k DO;rw[Zct n k c]at a;cases a;have g1:(k:Int)<64:=DO
 have g3:¬(63:Int)<k:=DO
 refine zx func90 ntmps90 results90 λS nx f=>?_
 refine DY ?_
 repeat apply ze
 refine zi [(2,8)] g3 ?_;refine zp rfl (zk (DY ?_));refine zv (Zcs n hn) ?_;refine ze (zi [] (zF e g1 hl) ?_);exact zj (zm f rfl DT)
def WR(n d:Nat):Int:=jZ ((qh n).set d 1)
theorem Zcu{l:List Int}{d:Nat}{v b:Int}(h:b∈l.set d v):b∈l\/b=v:=by
 rcases Bv h with h | h
 ·exact .inl h
 ·exact .inr h
theorem Zmp(n:Nat)(d:Int)(hn:n<2 ^ 64)(h0:0<=d)(h1:d<=63):Pure prog 91 [U n,I d,I 1] (.sc (.int .u64 (WR n d.toNat))):=by
 obtain⟨k,rfl⟩:=Ay h0;have g:k<64:=DO
 have hl:=QN n;have g1:(k:Int)<64:=DO
 have g3:¬(63:Int)<k:=DO
 have hs:=Zat (qh n) k 1 DO;refine zx func91 ntmps91 results91 λS nx f=>?_
 refine DY ?_
 repeat apply ze
 refine zi [(2,10)] g3 ?_;refine zp rfl (zk (DY ?_));refine λc=>((ZfF n hn _ _ xB).mono ?_).v
 rintro _ _ ⟨v,rfl,rfl⟩;refine⟨_,_,jr _,zR c ?_⟩;refine ze (zi [] (zF g1 hs hl) ?_);refine⟨by omega,?_⟩;refine yh 0 rfl ?_;have e:((qh n).set k 1).length=64:=by simp[hl]
 have a:=ZfG ((qh n).set k 1) e (λb hb=>by
  rcases Zcu hb with h | h
  ·exact Zcq n b h
  ·exact .inr h)
 have this:Pure prog 131 [.lst 64 (((qh n).set k 1).flatMap Enc.enc)] (.sc (.int .u64 (jZ ((qh n).set k 1)))):=by rw[show (64:Nat)=((qh n).set k 1).length from e.symm];exact a
 refine ze (zi [] hl ?_);refine zv this ?_;exact zj (zm f rfl rfl)
open Go
def yM(n lo hi:Int):Int:=lo+(if n<0 then -(n+1) else n) % (hi-lo+1)
theorem x7(n lo hi:Int)(h:lo<=hi):lo<=yM n lo hi/\yM n lo hi<=hi:=by
 unfold yM;have a:=Int.emod_nonneg (if n<0 then -(n+1) else n) (show hi-lo+1≠0 by omega);have b:=Int.emod_lt_of_pos (if n<0 then -(n+1) else n) (show 0<hi-lo+1 by omega);omega
theorem ZR(n lo hi:Int)(hn:zT n)(h0:0<=lo)(h1:lo<=hi)(h2:hi<=4294967296):Pure prog 44 [I n,I lo,I hi] (I (yM n lo hi)):=by
 have j:=x7 n lo hi h1;have c:IntKind.i64.wrap (hi-lo)=hi-lo:=wr _ DO DO;have w2:IntKind.i64.wrap (hi-lo+1)=hi-lo+1:=wr _ DO DO;have w0:¬hi-lo+1=0:=DO
 have d:IntKind.i64.wrap (yM n lo hi)=yM n lo hi:=wr _ DO DO;unfold zT at hn;refine zx func44 ntmps44 results44 λS nx f=>?_
 refine DY ?_
 repeat apply ze
 refine zg ?_
 by_cases h:n<0
 ·have g:IntKind.i64.wrap (n+1)=n+1:=wr _ DO DO;have i:IntKind.i64.wrap (-(n+1))=-(n+1):=wr _ DO DO;have a:(-(n+1)).tmod (hi-lo+1)=(-(n+1)) % (hi-lo+1):=Be DO;have b:lo+(-(n+1)) % (hi-lo+1)=yM n lo hi:=by unfold yM;rw[if_pos h]
  refine zo (by simp[h]) ?_;have e:-(n+1)=-1+-n:=DO
  refine zi [] (zq g i) ?_;refine ze (zi [] (zW c w2 w0 a b d) ?_);exact zj (zm f rfl rfl)
 ·have a:n.tmod (hi-lo+1)=n % (hi-lo+1):=Be DO;have b:lo+n % (hi-lo+1)=yM n lo hi:=by unfold yM;rw[if_neg h]
  refine zp (by simp[h]) ?_;refine zk (ze (zi [] (zW c w2 w0 a b d) ?_));exact zj (zm f rfl rfl)
open Go
def XE(n d:Nat):Nat:=(WR n d).toNat
theorem ZfH(n d:Nat):WR n d=((XE n d:Nat):Int)/\XE n d<2 ^ 64:=by
 have h:=Zas ((qh n).set d 1) (λb hb=>by
  rcases Zcu hb with h | h
  ·exact Zcq n b h
  ·exact .inr h)
 rw[BJ,QN]at h;unfold XE WR;omega
def xM(p:Nat):Nat->Nat
 | 0=>0
 | k+1=>if yL p k=1 then XE (xM p k) k else xM p k
theorem Zau(p:Nat):∀k,xM p k<2 ^ 64
 | 0=>by simp[xM]
 | k+1=>by
  unfold xM;split
  ·exact(ZfH _ _).2
  ·exact Zau p k
def ZS(pats:List Nat)(days:Int):List Nat :=
 if pats=[] then [1] else (pats.take 4).map λp=>xM p days.toNat
def j5(c:Cust)(days:Int):Cust :=
 if c.kind.tmod 2=0 then ⟨2,0,[],yM c.rate 0 9,yM c.size 1 30,yM c.start 0 (yM c.size 1 30),yM c.rule 1 2,yM c.hold 0 4⟩
 else ⟨1,yM c.demand 1 15,ZS c.pats days,0,0,0,0,0⟩
structure CustOk (c:Cust):Prop where
 kind:zT c.kind
 demand:zT c.demand
 pats:∀p∈c.pats,p<2 ^ 64
 npats:c.pats.length<=9223372036854775807
 rate:zT c.rate
 size:zT c.size
 start:zT c.start
 rule:zT c.rule
 hold:zT c.hold
theorem ZfI{α β:Type}(f:α->β){l:List α}{k:Nat}{a:α}(b:l.take (k+1)=l.take k++[a]):(l.take (k+1)).map f=(l.take k).map f++[f a]:=by rw[b];simp
theorem Zmq(c:Cust)(days:Int)(hc:CustOk c)(h0:0<=days)(h1:days<=63):Pure prog 45 [.agg (yi c),I days] (.agg (yi (j5 c days))):=by
 obtain⟨n,rfl⟩:=Ay h0;have hs:=x7 c.size 1 30 DO;refine zx func45 ntmps45 results45 λS nx t=>?_
 refine DY ?_;intro v0 v1
 repeat apply ze
 refine zg ?_
 by_cases e:c.kind.tmod 2=0
 ·refine zo (by simp[e]) ?_;refine ze (zD (some [nx]) (Row.pures [0,1,2,3,4,5,6,7,8,9,10,11,12] (.alt 13 (.alt 14 (.done) .stop) .stop)) mixed trivial ?_);refine zO (ZR _ _ _ hc.rate DO DO DO) trivial ?_;refine zO (ZR _ _ _ hc.size DO DO DO) trivial ?_;refine zO (ZR _ _ _ hc.rule DO DO DO) trivial ?_;refine zO (ZR _ _ _ hc.hold DO DO DO) trivial ?_;intro a;refine DY ?_;refine zv (ZR _ _ _ hc.start DO DO DO) ?_;refine DY ?_;refine yn 1 2 rfl rfl ?_;exact zj (zm t DQ (by simp[j5,e]))
 ·refine zp (by simp[e]) ?_;refine zk (DY ?_);refine zv (ZR _ _ _ hc.demand DO DO DO) ?_;intro a;refine ze (jd 2 2 98 1 rfl rfl λv3=>?_);refine DY ?_;have a0:=hc.npats;refine qy (nx:=nx) (σ:=Nat × Nat × Nat × Nat) (λ_=>True) (λ(v,v1,a,v3)=>[(4,.ptr (nx+1) v1 0),(6,.ptr (nx+2) a 0)]) (λ_=>S)
   (λ(v,v1,a,v3)=>[.cells v 87 (yi c),.cells v1 87 [I 0,I 0,.sc (.slice none 0 0),I 0,I 0,I 0,I 0,I 0],.cells a 87 [I 1,I (yM c.demand 1 15),.sl (nx+3) v3 1 0 (c.pats.take 4).length,I 0,I 0,I 0,I 0,I 0],.cells v3 98 (((c.pats.take 4).map λp=>xM p n).flatMap Enc.enc)]) ?_ ?_
  ·repeat apply ze
   refine zn (zK (λs:Nat × List Nat × Nat × Nat × Nat × Nat=>s.1<=c.pats.length/\s.1<=4/\s.2.1=(c.pats.take s.1).map λp=>xM p n) (λ(k,out,v,v1,a,v3)=>[(1,I n),(2,.ptr nx v 0),(4,.ptr (nx+1) v1 0),(6,.ptr (nx+2) a 0),(7,I k)])
    (λ(k,out,v,v1,a,v3)=>[.cells v 87 (yi c),.cells v1 87 [I 0,I 0,.sc (.slice none 0 0),I 0,I 0,I 0,I 0,I 0],.cells a 87 [I 1,I (yM c.demand 1 15),.sl (nx+3) v3 1 0 out.length,I 0,I 0,I 0,I 0,I 0],.cells v3 98 (out.flatMap Enc.enc)])
    (λs=>4-s.1) (0,[],v0,v1,a,v3) [] DP DP DP ?_)
   rintro⟨k,out,v0,v1,a,v3⟩ ⟨u,w,ho⟩;simp only at u w ho ⊢;have a4:out.length=k:=by rw[ho];simp;omega
   have h:(k=c.pats.length\/k=4)->out=(c.pats.take 4).map λp=>xM p n:=by
    rintro(q | q)
    ·rw[ho,Af DO,Af DO]
    ·rw[ho,q]
   have f:(k=c.pats.length\/k=4)->out.length=(c.pats.take 4).length:=λq=>by rw[h q];simp
   by_cases b:k<c.pats.length
   ·by_cases m:(k:Int)<4
    ·repeat apply ze
     refine zi [(5,43)] (zq b m) ?_;refine zo rfl ?_;obtain⟨p,tl,a1,a2,a3,e0⟩:=zN rfl c.pats k b;have hp:=hc.pats p (Ab a1);refine zk (ze (zn (DY ?_)))
     repeat apply ze
     refine zg ?_;refine zn (zK (λs:Nat × Nat × Nat × Nat × Nat=>s.1<=n) (λ(d,v,v1,a,v3)=>[(1,I n),(2,.ptr nx v 0),(4,.ptr (nx+1) v1 0),(6,.ptr (nx+2) a 0),(7,I k),(8,U (xM p d)),(9,I d)])
      (λ(d,v,v1,a,v3)=>[.cells v 87 (yi c),.cells v1 87 [I 0,I 0,.sc (.slice none 0 0),I 0,I 0,I 0,I 0,I 0],.cells a 87 [I 1,I (yM c.demand 1 15),.sl (nx+3) v3 1 0 out.length,I 0,I 0,I 0,I 0,I 0],.cells v3 98 (out.flatMap Enc.enc)])
      (λs=>n-s.1) (0,v0,v1,a,v3) [] DP (by simp[xM]) DP ?_)
     rintro⟨d,v0,v1,a,v3⟩ x;simp only at x ⊢
     repeat apply ze
     refine zg ?_;refine zA rfl (λi=>?_) (λi=>?_)
     ·simp at i;refine zk (ze (zn (ze (zi [] (zq b e0) ?_))));refine zv (Zmo p d hp DO DO) ?_;refine zA rfl (λhb=>?_) (λhb=>?_)
      ·simp at hb;refine zg ?_;refine zv (Zmp _ d (Zau p d) DO DO) ?_;refine zg ?_;exact zu (d+1,v0,v1,a,v3) [] DT DT (by simp[zy d (by omega),xM,hb,(ZfH _ _).1]) rfl DP
      ·simp at hb;refine zk (zg ?_);exact zu (d+1,v0,v1,a,v3) [] DT DT (by simp[zy d (by omega),xM,hb]) rfl DP
     ·simp at i;have y:d=n:=DO
      subst y;refine zC (zg ?_);refine⟨by omega,?_⟩;refine zg ?_;exact zu (k+1,out++[xM p d],v0,v1,a,v3+1) [] (by simp[ZfI _ a3,ho];omega) DT (by simp[zy k (by omega)]) rfl DP
    ·repeat apply ze
     refine zi [(5,43)] (zq b m) ?_;refine zp rfl ?_;have e:=h (.inr DO);have j:=f (.inr DO);exact zC (zZ (v0,v1,a,v3) [] trivial DP rfl (by simp only[j];rw[<-e];simp))
   ·repeat apply ze
    refine zi [(5,43)] (zq b zB) ?_;refine zp rfl ?_;have e:=h (.inl DO);have j:=f (.inl DO);exact zC (zZ (v0,v1,a,v3) [] trivial DP rfl (by simp only[j];rw[<-e];simp))
  ·rintro⟨v0,v1,a,v3⟩ -;simp only
   by_cases r:c.pats=[]
   ·have z:j5 c n=⟨1,yM c.demand 1 15,[1],0,0,0,0,0⟩:=by simp[j5,e,ZS,r]
    rw[z,r]
    repeat apply ze
    refine zg ?_;refine zo rfl (zg ?_);refine DY ?_;refine yh 3 rfl ?_;exact DZ t
   ·have z:j5 c n=⟨1,yM c.demand 1 15,(c.pats.take 4).map λp=>xM p n,0,0,0,0,0⟩:=by simp[j5,e,ZS,r]
    have g:((c.pats.take 4).map λp=>xM p n).length=(c.pats.take 4).length:=DP
    have l:¬(c.pats.take 4).length=0:=by simp[r]
    rw[z,<-g];rw[<-g]at l;generalize (c.pats.take 4).map (λp=>xM p n)=out at *;have o:out≠[]:=by simpa using l
    repeat apply ze
    refine zi [] (zq l o) ?_;refine zp rfl (zk (DY ?_));refine yh 3 rfl ?_;exact DZ t
open Go
def arc(x:Inst)(a b:Int):Int:=if a<0\/b<0 then 0 else ((x.dist.getD a.toNat []).getD b.toNat 0)
theorem Zav(x:Inst)(a b:Int)(h:a<0\/b<0):arc x a b=0:=if_pos h
theorem ZfJ(x:Inst)(a b:Int)(h:(x.dist.length:Int)<=a):arc x a b=0:=by
 unfold arc;split
 ·rfl
 ·have:x.dist.getD a.toNat []=[]:=by rw[Aa,Ao DO];rfl
  rw[this];rfl
theorem ZfK{x:Inst}{a:Int}{row:List Int}(b:x.dist[a.toNat]?=some row):x.dist.getD a.toNat []=row:=by rw[Aa,b];rfl
theorem ZfL(x:Inst)(a b:Int){row:List Int}(c:x.dist[a.toNat]?=some row)(h:(row.length:Int)<=b):arc x a b=0:=by
 unfold arc;split
 ·rfl
 ·rw[ZfK c,Aa,Ao DO];rfl
theorem ZfM(x:Inst)(a b:Int){row:List Int}{d:Int}(e:0<=a)(hb:0<=b)(c:x.dist[a.toNat]?=some row)(h:row[b.toNat]?=some d):arc x a b=d:=by
 unfold arc;rw[if_neg DO,ZfK c,Aa,h];rfl
theorem Zmr(x:Inst)(a b:Int):Pure prog 46 [.agg (zE x),I a,I b] (I (arc x a b)):=by
 refine zx func46 ntmps46 results46 λS nx c=>?_
 refine DY ?_;intros
 by_cases e:a<0
 ·repeat apply ze
  refine zi [(2,10),(6,14)] (zq e zB) ?_;refine zo rfl (DY ?_);exact zj (zm c rfl (by rw[Zav _ _ _ (.inl e)];rfl))
 by_cases hb:b<0
 ·repeat apply ze
  refine zi [(2,10),(6,14)] (zF e hb zB) ?_;refine zo rfl (DY ?_);exact zj (zm c rfl (by rw[Zav _ _ _ (.inr hb)];rfl))
 by_cases hl:(x.dist.length:Int)<=a
 ·repeat apply ze
  refine zi [(2,10),(6,14)] (zF e hb hl) ?_;refine zo rfl (DY ?_);exact zj (zm c rfl (by rw[ZfJ _ _ _ hl];rfl))
 have h:a<x.dist.length:=DO
 have f:0<=a:=DO
 obtain⟨row,tl,k,_,_,l⟩:=zN rfl x.dist a.toNat DO
 repeat apply ze
 refine zi [(2,10),(6,14)] (zF e hb hl) ?_;refine zp rfl (zk (ze (zi [(2,10),(6,14)] (zF f h l) ?_)))
 by_cases i:(row.length:Int)<=b
 ·repeat apply ze
  refine zi [] i ?_;refine zo rfl (DY ?_);exact zj (zm c rfl (by rw[ZfL _ _ _ k i];rfl))
 have j:b<row.length:=DO
 have g:0<=b:=DO
 obtain⟨d,m,b1,_,_,n⟩:=zN rfl row b.toNat DO
 repeat apply ze
 refine zi [] i ?_;refine zp rfl (zk (ze (zi [] (zF g j n) ?_)));exact zj (zm c rfl (by rw[ZfM x a b f g k b1];rfl))
theorem vy(x:Inst)(a b:Int):Pure prog 203 [.agg (zE x),I a,I b] (I (arc x a b)):=by
 refine zx func203 ntmps203 results203 λS nx g=>?_
 refine DY ?_;intros
 by_cases f:a<0
 ·repeat apply ze
  refine zi [(2,9),(9,16),(13,20)] (zq f zB) ?_;refine zo rfl (DY ?_);exact zj (zm g rfl (by rw[Zav _ _ _ (.inl f)];rfl))
 by_cases hl:(x.dist.length:Int)<=a
 ·repeat apply ze
  refine zi [(2,9),(9,16),(13,20)] (zF f hl zB) ?_;refine zo rfl (DY ?_);exact zj (zm g rfl (by rw[ZfJ _ _ _ hl];rfl))
 by_cases hb:b<0
 ·repeat apply ze
  refine zi [(2,9),(9,16),(13,20)] (zS f hb hl zB) ?_;refine zo rfl (DY ?_);exact zj (zm g rfl (by rw[Zav _ _ _ (.inr hb)];rfl))
 have e:a<x.dist.length:=DO
 have c:0<=a:=DO
 obtain⟨row,tl,l,_,_,i⟩:=zN rfl x.dist a.toNat DO
 by_cases j:(row.length:Int)<=b
 ·repeat apply ze
  refine zi [(2,9),(9,16),(13,20)] (zW f hb hl c e (zq i j)) ?_;refine zo rfl (DY ?_);exact zj (zm g rfl (by rw[ZfL _ _ _ l j];rfl))
 have k:b<row.length:=DO
 have h:0<=b:=DO
 obtain⟨d,m,b1,_,_,n⟩:=zN rfl row b.toNat DO
 repeat apply ze
 refine zi [(2,9),(9,16),(13,20)] (zW f hb hl c e (zq i j)) ?_;refine zp rfl (zk (ze (zi [(2,9),(9,16),(13,20)] (zW c e i h k n) ?_)));exact zj (zm g rfl (by rw[ZfM x a b c h l b1];rfl))
open Go
def wV(x:Inst):Int->List Int->Int
 | a,[]=>arc x a 0
 | a,c :: l=>arc x a (c+1)+wV x (c+1) l
def yN(x:Inst)(l:List Int):Int:=if l=[] then 0 else wV x 0 l
def qv(c:Int):Prop:=-4611686018427387904<=c/\c<=4611686018427387904
theorem JH{c:Int}(h:qv c):IntKind.i64.wrap (c+1)=c+1:=wr _ (by unfold qv at h;omega) (by unfold qv at h;omega)
theorem ZfN(x:Inst)(l:List Int)(hl:l.length<=1048576)(hs:∀c∈l,qv c):Pure prog 202 [.agg (zE x),L l] (I (W (yN x l))):=by
 refine zx func202 ntmps202 results202 λS nx e=>?_
 refine DY ?_;intro v0
 repeat apply ze
 refine zg ?_;refine zA rfl (λhc=>?_) (λhc=>?_)
 ·simp at hc;subst hc;refine DY ?_;exact zj (zm e rfl rfl)
 refine zk ?_;simp at hc;refine DY ?_
 repeat apply ze
 refine zg ?_;refine zn (zK (λs:Nat × Int × Int × Nat=>s.1<=l.length/\s.2.1+wV x s.2.2.1 (l.drop s.1)=wV x 0 l) (λ(k,s,a,v)=>[(2,.ptr nx v 0),(5,I (W s)),(6,I a),(12,L l),(13,I l.length),(14,I k)])
  (λ(k,s,a,v)=>[.cells v 25 (zE x)]) (λs=>l.length-s.1) (0,0,0,v0) [] DP DP DP ?_)
 rintro⟨k,s,a,v⟩ ⟨f,ho⟩;simp only at f ho ⊢;refine DY ?_;refine ze (zA rfl (λb=>?_) (λb=>?_))
 ·simp at b;obtain⟨c,tl,g,h,a3,i⟩:=zN rfl l k b;have d:=JH (hs c (Ab g));rw[h]at ho;refine zk (ze (zn (ze (zi [] (zq b i) ?_))));refine ze (zi [] d ?_);refine yW [] (vy _ _ _) d ?_;refine zi [] d ?_;refine zg ?_;exact zu (k+1,s+arc x a (c+1),c+1,v) [] (by simp only[wV]at ho;exact⟨by omega,by rw[<-ho];simp;omega⟩) DT (by simp[zy k (by omega),Yq,d]) rfl DP
 ·simp at b;refine zC (DY ?_);refine zv (vy _ _ _) ?_;rw[AX b]at ho;exact zj (zm e rfl (by simp only[yN,if_neg hc,<-ho,wV,zr];simp[Yq]))
open Go
def uz(x:Inst)(n a:Nat):List Int:=(List.range (n+1)).map λb=>if a≠b then yM (arc x a b) 0 60 else 0
def yO(x:Inst):Inst :=
 ⟨yM x.days 1 7,yM x.veh 0 5,yM x.cap 0 40,yM x.len 0 300,(x.cust.take 6).map λc=>j5 c (yM x.days 1 7),(List.range ((x.cust.take 6).length+1)).map λa=>uz x (x.cust.take 6).length a⟩
structure InstOk (x:Inst):Prop where
 days:zT x.days
 veh:zT x.veh
 cap:zT x.cap
 len:zT x.len
 ncust:x.cust.length<=9223372036854775807
 cust:∀c∈x.cust,CustOk c
 ndist:x.dist.length<=9223372036854775807
 dist:∀r∈x.dist,r.length<=9223372036854775807/\∀d∈r,zT d
theorem Zms{x:Inst}(hx:InstOk x)(a b:Int):zT (arc x a b):=by
 unfold arc;split
 ·unfold zT;omega
 ·rw[Aa,Aa];cases e:x.dist[a.toNat]? with
  | none=>simp[zT]
  | some r =>
   cases c:r[b.toNat]? with
   | none=>simp[c,zT]
   | some d =>
    simp only[Option.getD_some,c];exact(hx.dist r (Ab e)).2 d (Ab c)
def wC(x:Inst)(n a k:Nat):List Int:=(List.range (n+1)).map λb=>if b<k then (if a≠b then yM (arc x a b) 0 60 else 0) else 0
theorem ZfO(x:Inst)(n a k:Nat):(wC x n a k).length=n+1:=by simp[wC]
theorem Zmt(x:Inst)(n a:Nat):wC x n a 0=List.replicate (n+1) 0:=by
 apply A3
 ·simp[wC]
 ·intro i h1 h2;simp only[Dy];simp[wC]
theorem ZfP(x:Inst)(n a:Nat):wC x n a (n+1)=uz x n a:=by
 apply A3
 ·simp[wC,uz]
 ·intro i h1 h2;simp[wC]at h1;simp[wC,uz,h1]
theorem Zmu(x:Inst)(n a k:Nat)(h:k<=n)(b:a≠k):(wC x n a k).set k (yM (arc x a k) 0 60)=wC x n a (k+1):=by
 apply A3
 ·simp[wC]
 ·intro i h1 h2;rw[CB];simp only[wC,Cd,Ch];split
  ·rename_i e;subst e;simp[b]
  ·rename_i e
   by_cases q:i<k
   ·simp[q,show i<k+1 by omega]
   ·simp[q,show ¬i<k+1 by omega]
theorem Zmv(x:Inst)(n k:Nat):wC x n k k=wC x n k (k+1):=by
 apply A3
 ·simp[wC]
 ·intro i h1 h2;simp only[wC,Cd,Ch]
  by_cases q:i<k
  ·simp[q,show i<k+1 by omega]
  ·by_cases e:i=k
   ·subst e;simp
   ·simp[q,show ¬i<k+1 by omega]
abbrev Zaw(x:Inst)(v0 v1 v2:Nat)(cs ds:PV):List Ob :=
 [.cells v0 25 (zE x),.cells v1 25 [I 0,I 0,I 0,I 0,.sc (.slice none 0 0),.sc (.slice none 0 0)],.cells v2 25 [I (yM x.days 1 7),I (yM x.veh 0 5),I (yM x.cap 0 40),I (yM x.len 0 300),cs,ds]]
theorem Zmw(x:Inst)(hx:InstOk x):Pure prog 11 [.agg (zE x)] (.agg (zE (yO x))):=by
 have a4:=x7 x.days 1 7 DO;have a5:=hx.ncust;refine zx func11 ntmps11 results11 λS nx hd=>?_
 refine DY ?_;intro v0 v1;refine ze (zD (some [nx]) (Row.pures [0,1,2,3,4,5,6,7,8,9,10,11,12] (.alt 13 (.alt 14 (.done) .stop) .stop)) mixed trivial ?_);refine zO (ZR _ _ _ hx.days DO DO DO) trivial ?_;refine zO (ZR _ _ _ hx.veh DO DO DO) trivial ?_;refine zO (ZR _ _ _ hx.cap DO DO DO) trivial ?_;refine zO (ZR _ _ _ hx.len DO DO DO) trivial ?_;intro d;refine ze (jd 2 4 87 8 rfl rfl λv3=>?_);refine DY ?_;have m:yM x.days 1 7<=63:=DO
 generalize e:yM x.days 1 7=dz at *;refine qy (nx:=nx) (σ:=Nat × Nat × Nat × Nat) (λ_=>True) (λ(v0,v1,d,v3)=>[(1,.ptr nx v0 0),(2,.ptr (nx+1) v1 0),(3,.ptr (nx+2) d 0)]) (λ_=>S)
  (λ(v0,v1,d,v3)=>Zaw x v0 v1 d (.sl (nx+3) v3 8 0 ((x.cust.take 6).map λc=>j5 c dz).length) (.sc (.slice none 0 0))++[.cells v3 87 (((x.cust.take 6).map λc=>j5 c dz).flatMap Enc.enc)]) ?_ ?_
 ·repeat apply ze
  refine zn (zK (λs:Nat × List Cust × Nat × Nat × Nat × Nat=>s.1<=x.cust.length/\s.1<=6/\s.2.1=(x.cust.take s.1).map λc=>j5 c dz) (λ(k,out,v0,v1,d,v3)=>[(1,.ptr nx v0 0),(2,.ptr (nx+1) v1 0),(3,.ptr (nx+2) d 0),(4,I k)])
   (λ(k,out,v0,v1,d,v3)=>Zaw x v0 v1 d (.sl (nx+3) v3 8 0 out.length) (.sc (.slice none 0 0))++[.cells v3 87 (out.flatMap Enc.enc)]) (λs=>6-s.1) (0,[],v0,v1,d,v3) [] DP DP (by simp[e]) ?_)
  rintro⟨k,out,v0,v1,d,v3⟩ ⟨n,o,ho⟩;simp only at n o ho ⊢;have p:out.length=k:=by rw[ho];simp;omega
  have i:(k=x.cust.length\/k=6)->out=(x.cust.take 6).map λc=>j5 c dz:=by
   rintro(q | q)
   ·rw[ho,Af DO,Af DO]
   ·rw[ho,q]
  by_cases f:k<x.cust.length
  ·by_cases j:(k:Int)<6
   ·repeat apply ze
    refine zi [(5,27)] (zq f j) ?_;refine zo rfl ?_;obtain⟨c,tl,a1,a2,a3,e1,e0⟩:=el 8 rfl x.cust k f;have hc:=hx.cust c (Ab a1);refine zk (ze (zn (zD (some [nx]) (Row.pures [0,2,3,4,5,6,7] (.alt 1 (.alt 8 (Row.pures [9,10] (.alt 11 (Row.pures [12] (.alt 13 (.done) .stop)) .stop)) .stop) (.alt 8 (Row.pures [9,10] (.alt 1 (.alt 11 (Row.pures [12] (.alt 13 (.done) .stop)) .stop) .stop)) .stop))) mixed (zF f e0 e) ?_)));have w1:=zy k DO;refine⟨?_,?_⟩
    all_goals
     refine zO (Zmq c dz hc DO m) trivial ?_;refine⟨by omega,?_⟩;refine zg ?_;exact zu (k+1,out++[j5 c dz],v0,v1,d,v3+1) [] (by simp[ZfI _ a3,ho];omega) DT (by simp[w1]) rfl (by simp[e])
   ·repeat apply ze
    refine zi [(5,27)] (zq f j) ?_;refine zp rfl ?_;have r:=i (.inr DO);exact zC (zZ (v0,v1,d,v3) [] trivial DP rfl (by simp only[<-r];simp))
  ·repeat apply ze
   refine zi [(5,27)] (zq f zB) ?_;refine zp rfl ?_;have r:=i (.inl DO);exact zC (zZ (v0,v1,d,v3) [] trivial DP rfl (by simp only[<-r];simp))
 ·rintro⟨v0,v1,d,v3⟩ -;simp only;have hg:yO x=⟨dz,yM x.veh 0 5,yM x.cap 0 40,yM x.len 0 300,(x.cust.take 6).map λc=>j5 c dz,(List.range ((x.cust.take 6).length+1)).map λa=>uz x (x.cust.take 6).length a⟩:=by unfold yO;rw[e]
  have t:((x.cust.take 6).map λc=>j5 c dz).length=(x.cust.take 6).length:=DP
  have u:(x.cust.take 6).length<=6:=DT
  rw[hg];rw[<-t]at u ⊢;generalize (x.cust.take 6).map (λc=>j5 c dz)=cs at *;refine DY ?_;refine ze (jd 2 5 26 1 rfl rfl λv4=>?_);refine DY ?_;have w0:IntKind.i64.wrap ((cs.length:Int)+1)=((cs.length+1:Nat):Int):=zy _ DO;refine zn (zK (λs:Nat × List (List Int) × Nat × Nat × Nat × Nat × Nat=>s.1<=cs.length+1/\s.2.1=(List.range s.1).map λa=>uz x cs.length a) (λ(a,out,v0,v1,d,v3,v4)=>[(1,.ptr nx v0 0),(2,.ptr (nx+1) v1 0),(3,.ptr (nx+2) d 0),(5,I cs.length),(6,I a)])
   (λ(a,out,v0,v1,d,v3,v4)=>Zaw x v0 v1 d (.sl (nx+3) v3 8 0 cs.length) (.sl (nx+4) v4 1 0 out.length)++[.cells v3 87 (cs.flatMap Enc.enc),.cells v4 26 (out.flatMap Enc.enc)]) (λs=>cs.length+1-s.1) (0,[],v0,v1,d,v3,v4) [] DP DP (by simp[e]) ?_)
  rintro⟨a,out,v0,v1,d,v3,v4⟩ ⟨ha,ho⟩;simp only at ha ho ⊢;have p:out.length=a:=by rw[ho];simp
  repeat apply ze
  refine zg ?_;refine zA rfl (λhc=>?_) (λhc=>?_)
  ·simp at hc;refine zk (ze (zn (ze (zi [] w0 ?_))));refine⟨by omega,λv5=>?_⟩
   repeat apply ze
   refine zg ?_;refine zn (zK (λs:Nat × Nat × Nat × Nat × Nat × Nat × Nat=>s.1<=cs.length+1) (λ(b,v0,v1,d,v3,v4,v5)=>[(1,.ptr nx v0 0),(2,.ptr (nx+1) v1 0),(3,.ptr (nx+2) d 0),(5,I cs.length),(6,I a),(7,.sl (nx+5) v5 1 0 (cs.length+1)),(8,I b)])
    (λ(b,v0,v1,d,v3,v4,v5)=>Zaw x v0 v1 d (.sl (nx+3) v3 8 0 cs.length) (.sl (nx+4) v4 1 0 out.length)++[.cells v3 87 (cs.flatMap Enc.enc),.cells v4 26 (out.flatMap Enc.enc),.cells v5 3 ((wC x cs.length a b).flatMap Enc.enc)]) (λs=>cs.length+1-s.1) (0,v0,v1,d,v3,v4,v5) [] DP DP (by simp[e,Zmt,Zcr]) ?_)
   rintro⟨b,v0,v1,d,v3,v4,v5⟩ hb;simp only at hb ⊢
   repeat apply ze
   refine zg ?_;refine zA rfl (λh=>?_) (λh=>?_)
   ·simp at h;have g:=ZfO x cs.length a b;have v:=Zat (wC x cs.length a b) b (yM (arc x a b) 0 60) DO;have g1:(b:Int)<cs.length+1:=DO
    refine zk (ze (zn (DY ?_)))
    by_cases l:a=b
    ·subst l;refine zp DP ?_;refine zk (zg ?_);exact zu (a+1,v0,v1,d,v3,v4,v5) [] DT DT (by simp[zy a (by omega)]) rfl (by simp[e,Zmv])
    ·have a0:((a:Int) != b)=true:=DT
     refine zo DT ?_;refine zg ?_;refine zv (Zmr x a b) ?_;refine yW [] (ZR _ _ _ (Zms hx _ _) DO DO DO) (zF g1 v g) ?_;refine⟨by omega,?_⟩;refine zg ?_;exact zu (b+1,v0,v1,d,v3,v4,v5) [] DT DT (by simp[zy b (by omega)]) rfl (by simp[e,Zmu x _ _ _ (show b<=cs.length by omega) l])
   ·simp at h;have w:b=cs.length+1:=DO
    subst w;refine zC ?_;have g:=ZfO x cs.length a (cs.length+1);refine yh 5 rfl ?_;refine zi [] g ?_;refine⟨by omega,?_⟩;refine zg ?_;have y:(uz x cs.length a).length=cs.length+1:=by rw[<-ZfP,g]
    exact zu (a+1,out++[uz x cs.length a],v0,v1,d,v3,v4+1) [.dead] (by simp[AO,ho];omega) DT (by simp[zy a (by omega)]) rfl (by simp[e,ZfP,y])
  ·simp at hc;have z:a=cs.length+1:=DO
   subst z;refine zC (DY ?_);refine yh 3 rfl ?_;refine yh 4 rfl ?_;exact zj (zm hd DQ (by simp[ho,e]))
open Go
theorem Zmx(w:World):ZQ prog w 87 Cust CustOk:=by
 intro H enc a cs x h;obtain⟨hl,n,hf⟩:=Zfy underlying87 h;simp only[c87]at hl
 match cs,hl with
 | [v0,v1,g,v3,v4,v5,i,j],_ =>
  obtain⟨s,h0⟩:=hf 0 _ rfl;obtain⟨t,h1⟩:=hf 1 _ rfl;obtain⟨u,h2⟩:=hf 2 _ rfl;obtain⟨v,h3⟩:=hf 3 _ rfl;obtain⟨y,b⟩:=hf 4 _ rfl;obtain⟨z,c⟩:=hf 5 _ rfl;obtain⟨y6,d⟩:=hf 6 _ rfl;obtain⟨y7,e⟩:=hf 7 _ rfl;simp at h0 h1 h2 h3 b c d e;obtain⟨z0,k0,r0⟩:=uY underlying3 H enc n _ _ h0;obtain⟨z1,k1,r1⟩:=uY underlying3 H enc n _ _ h1;obtain⟨z2,f,r2⟩:=WQ (α:=Nat) underlying85 DQ DV (ZlQ underlying98) H enc n _ _ h2;obtain⟨z3,k,r3⟩:=uY underlying3 H enc n _ _ h3;obtain⟨z4,l,r4⟩:=uY underlying3 H enc n _ _ b;obtain⟨z5,m,r5⟩:=uY underlying3 H enc n _ _ c;obtain⟨z6,o,p⟩:=uY underlying3 H enc n _ _ d;obtain⟨z7,q,r⟩:=uY underlying3 H enc n _ _ e;exact⟨⟨z0,z1,z2,z3,z4,z5,z6,z7⟩,⟨k0,k1,f.2,f.1,k,l,m,o,q⟩,
   Zw (vs:=[v0]) r0 (Zw (vs:=[v1]) r1 (Zw (vs:=[g]) r2 (Zw (vs:=[v3]) r3 (Zw (vs:=[v4]) r4 (Zw (vs:=[v5]) r5 (Zw (vs:=[i]) (us:=[j]) p r))))))⟩
instance:Enc Inst:=⟨zE,6,λ_=>rfl,λ_=>rfl⟩
theorem Zmy(w:World):ZQ prog w 25 Inst InstOk:=by
 intro H enc a cs x h;obtain⟨hl,n,hf⟩:=Zfy underlying25 h;simp only[c25]at hl
 match cs,hl with
 | [v0,v1,f,v3,v4,v5],_ =>
  obtain⟨j,h0⟩:=hf 0 _ rfl;obtain⟨k,h1⟩:=hf 1 _ rfl;obtain⟨l,h2⟩:=hf 2 _ rfl;obtain⟨m,h3⟩:=hf 3 _ rfl;obtain⟨o,b⟩:=hf 4 _ rfl;obtain⟨p,c⟩:=hf 5 _ rfl;simp at h0 h1 h2 h3 b c;obtain⟨z0,k0,r0⟩:=uY underlying3 H enc n _ _ h0;obtain⟨z1,k1,r1⟩:=uY underlying3 H enc n _ _ h1;obtain⟨z2,g,r2⟩:=uY underlying3 H enc n _ _ h2;obtain⟨z3,i,r3⟩:=uY underlying3 H enc n _ _ h3;obtain⟨z4,d,r4⟩:=WQ (α:=Cust) underlying22 DQ DV (Zmx w) H enc n _ _ b;obtain⟨z5,e,r5⟩:=WQ (α:=List Int) underlying23 DQ DV (WQ (α:=Int) underlying26 DQ DV (uY underlying3)) H enc n _ _ c;exact⟨⟨z0,z1,z2,z3,z4,z5⟩,⟨k0,k1,g,i,d.1,d.2,e.1,e.2⟩,
   Zw (vs:=[v0]) r0 (Zw (vs:=[v1]) r1 (Zw (vs:=[f]) r2 (Zw (vs:=[v3]) r3 (Zw (vs:=[v4]) (us:=[v5]) r4 r5))))⟩
open Go
theorem Zmz(w:World):ZQ prog w 26 (List Int) (λl=>l.length<=9223372036854775807/\∀z∈l,zT z):=WQ underlying26 DQ DV (uY underlying3)
open Go
abbrev qe(l:List Int):List Int:=l.mergeSort λx y=>decide (x<=y)
theorem QO(l:List Int):(qe l).length=l.length:=List.length_mergeSort l
theorem Zax(l:List Int):l.flatMap Enc.enc=l.map I:=by induction l<;>simp_all
theorem XF(S:Store)(o:Nat)(x:Ob)(h:S o=x):S.set o x=S:=by
 funext i;simp only[Store.set];split
 ·rename_i e;rw[e,h]
 ·rfl
theorem JJ{C:Ctx}{S:Store}{w:World}{x:Int}{v:Value}(h:Rel C S w (I x) v):v=.int .i64 x:=by cases h;rfl
theorem Zcv{vs:Array Value}(h:1=vs.size):∃v,vs=#[v]:=by
 match vs,h with
 | ⟨[v]⟩,_=>exact⟨v,rfl⟩
theorem Zay{S:Store}{id ver:Nat}(zs:List Int)(hid:S id=.cells ver 3 (zs.flatMap Enc.enc))(hn:zs.length<=1048576):
  Spec prog 196 [.sl id ver 1 0 zs.length] S (λp S'=>S'=S.set id (.cells ver 3 ((qe zs).flatMap Enc.enc))):=by
 refine⟨qx func196 DU rfl,?_⟩;intro C w vs s hl y;obtain⟨v,rfl⟩:=Zcv hl;have hv:=y 0 _ v rfl rfl;cases hv with
 | sl h1 h2 h3 =>
  obtain⟨a,cap,rfl,q1,q2,q3,q4⟩:=h1
  by_cases h0:zs=[]
  ·subst h0;refine(slices_Sort_int_none a cap w).mono ?_;rintro e w' ⟨rfl,rfl⟩;exact⟨.junk,_,S,C,rfl,by rw[show qe []=[] from by simp[qe]];exact(XF S id _ hid).symm,.junk _,s,.refl _ _ _⟩
  ·have x:0<zs.length:=Bs.2 h0;rcases s.cells id ver _ _ hid with ⟨a0,f⟩ | ⟨b,k,c,g1,t,g3,g4,g5,g6⟩
   ·rw[Zax]at f;simp at f;exact absurd f h0
   ·have ha:a=some ⟨b,0,none⟩:=by
     rcases (h3 ver (by rw[hid];rfl)).2 rfl with ⟨z1,_⟩ | ⟨b',k',a',cap',z1,z2,z3,z4⟩
     ·rw[g1]at z1;cases z1
     ·rw[g1]at z1;cases z1;cases z2;exact(z3 rfl).1
    subst ha;rw[jL]at g4;have g:∀i,i<zs.length->c[i]?=some (.int .i64 (zs.getD i 0)):=by
     intro i hi;have a1:i<c.size:=DO
     have e1:(zs.flatMap Enc.enc)[i]?=some (I (zs.getD i 0)):=by rw[Zax];simp[hi]
     have e2:c[i]?=some c[i]:=DP
     have:=JJ (g6 i _ _ e1 e2);rw[e2,this]
    have j:c.toList.take zs.length=zs.map (Value.int .i64):=by
     apply A8;intro i
     by_cases hi:i<zs.length
     ·rw[AL hi,Array.getElem?_toList,g i hi];simp[hi]
     ·rw[Ao DT,Ao DT]
    refine(slices_Sort_int b 0 cap zs w (holds_of_blockI t j) (qN t) DO).mono ?_;rintro e w' ⟨rfl,n,os,rfl⟩;have u:=heap_sortedI (n:=n) (os:=os) (qe zs).toArray t;have m:=QO zs;have q:∀i,(Sort.putCells (Value.int .i64) 0 (qe zs).toArray c)[i]?=if i<zs.length then some (.int .i64 ((qe zs).getD i 0)) else c[i]?:=by
     intro i
     by_cases hi:i<zs.length
     ·rw[if_pos hi];have:i<c.size:=DO
      have d:i<(qe zs).length:=DO
      simp[Sort.putCells,d,this];intro h;omega
     ·rw[if_neg hi]
      by_cases hc:i<c.size
      ·have d:¬i<(qe zs).length:=DO
       simp[Sort.putCells,d,hc];intro h;omega
      ·rw[Dz (by simp[Sort.putCells];omega),Dz DO]
    obtain⟨t1,t2⟩:=s.turn (l:=C.loc id) (ver':=ver) (cs':=(qe zs).flatMap Enc.enc) hid (Ag _) (λ_=>rfl) (by rw[g1];exact⟨grownBy_sortedI (n:=n) (os:=os) (qe zs).toArray,C8 _ _⟩)
     (.inr ⟨b,k,_,g1,.inr (by rw[g1];rfl),u,by simp[Sort.putCells,g3],by rw[jL,m];exact g4,λi z hi o=>by
       rw[q]at o;rw[jL,m]at hi;rw[if_pos hi]at o;cases o;rfl,
      λi p z r o=>by
       rw[q]at o;have hi:i<zs.length:=by
        have:=(Ad.1 r).1;rw[jL,m]at this;exact this
       rw[if_pos hi]at o;cases o;rw[Zax,Aj]at r;have d:i<(qe zs).length:=DO
       rw[Ac d]at r;cases r;rw[Aa,Ac d];exact .sc _⟩)
    exact⟨.junk,_,_,_,rfl,rfl,.junk _,t1,t2⟩
end Go.Proofs.YtcocagkbfpgmiaaGreatDoor.Pv
