/- Part of a proof, packed. -/
import Derived.Test.YtdjbbndbalhekaaGreatDoorG1
open Go.Proofs.Tryz
set_option linter.defProp false
set_option maxRecDepth 100000
set_option maxHeartbeats 3200000
namespace Go.Proofs.YtdjbbndbalhekaaGreatDoor.Pv
open Go
def ext(S:Store)(nx:Nat)(obs:List Ob):Store:=λi=>if i<nx then S i else obs.getD (i-nx) .dead
def yd(nx:Nat)(S:Store):Prop:=∀i,nx<=i->S i=.dead
section
variable {S:Store} {nx:Nat} {obs:List Ob}
def zG{i:Nat}(h:i<nx):ext S nx obs i=S i:=by simp[ext,h]
@[simp] theorem zS(k:Nat):ext S nx obs (nx+k)=obs.getD k .dead:=by simp only[ext];rw[if_neg EA,AM]
@[simp] theorem Zg:ext S nx obs nx=obs.getD 0 .dead:=by simp[ext]
def jm(h:yd nx S):ext S nx []=S:=by funext i;simp only[ext];split;rfl;rw[h i EA];rfl
theorem yi{id:Nat}(x:Ob)(h:nx<=id)(hl:id-nx<obs.length):(ext S nx obs).set id x=ext S nx (obs.set (id-nx) x):=by funext i;simp only[ext,Store.set];grind
theorem jE(x:Ob):(ext S nx obs).set (nx+obs.length) x=ext S nx (obs++[x]):=by funext i;simp only[ext,Store.set];grind
theorem qE{i:Nat}(x:Ob)(h:i<nx):(ext S nx obs).set i x=ext (S.set i x) nx obs:=by funext j;simp only[ext,Store.set];grind
def Z5:ext S nx obs (nx+obs.length)=.dead:=EB
def fG(more:List Ob)(o:Nat):ext S nx obs o=ext S nx (obs++more) o\/ext S nx obs o=.dead:=by simp only[ext];grind
theorem zV(h:yd nx S)(o:Nat):S o=ext S nx obs o\/S o=.dead:=by simp only[ext];by_cases h2:o<nx;simp_all;exact .inr (h o EA)
def xM:yd (nx+obs.length) (ext S nx obs):=by intro i hi;simp only[ext];grind
end
def Spec(P:Program)(f:FuncId)(args:List PV)(S:Store)(Q:PV->Store->Prop):Prop:=qS P f/\PCalls P f args S Q
def SpecV(P:Program)(V:Ctx->Store->World->Prop)(f:FuncId)(args:List PV)(S:Store)(Q:PV->Store->Prop):Prop:=qS P f/\PCallsV P V f args S Q
variable {P:Program}{f:FuncId}{S:Store}{Q:PV->Store->Prop}
theorem Spec.v{V:Ctx->Store->World->Prop}{args:List PV}(h:Spec P f args S Q):SpecV P V f args S Q:=⟨h.1,h.2.v⟩
theorem SpecV.mono{V:Ctx->Store->World->Prop}{args:List PV}{Q':PV->Store->Prop}(h:SpecV P V f args S Q)(a:∀p S',Q p S'->Q' p S'):SpecV P V f args S Q':=⟨h.1,h.2.mono a⟩
theorem Spec.mono{args:List PV}{Q':PV->Store->Prop}(h:Spec P f args S Q)(a:∀p S',Q p S'->Q' p S'):Spec P f args S Q':=⟨h.1,h.2.mono a⟩
def Pure(P:Program)(f:FuncId)(args:List PV)(p:PV):Prop:=∀S,Spec P f args S (λq S'=>q=p/\S'=S)
section
variable (P:Program) (r:Rd) (n nx:Nat)
def VP(t:TypeId):Option (TypeId × Nat × Nat) :=
 match P.underlying t with
 |some (.slice e) =>
  match Program.zeroOf P e with
  |some z =>
   match Program.bytesOf' P e with
   |some b=>if P.cellsOf e≠0/\z.cells.size=P.cellsOf e/\b≠0 then some (e,P.cellsOf e,b) else none
   |none=>none
  |none=>none
 |_=>none
def Jy(S:Store)(obs:List Ob)(F:Nat->PV)(o:Oper):Option (Prop × PV × Store × List Ob) :=
 match o.op with
 |.load t x=>match Yt P t (ext S nx obs) (ev F x) with|some p=>some (True,p,S,obs)|none=>none
 |.store t x y =>
  match ev F x with
  |.ptr id ver off =>
   match ext S nx obs id with
   |.cells v e cs =>
   if v=ver/\(ev F y).cells.length=P.cellsOf t/\P.cellsOf t≠0/\(ev F y).fit=true then
    (if nx<=id then some (off+(ev F y).cells.length<=cs.length,.sc undef,S,obs.set (id-nx) (.cells v e (yl cs off (ev F y).cells)))
     else some (off+(ev F y).cells.length<=cs.length,.sc undef,S.set id (.cells v e (yl cs off (ev F y).cells)),obs))
   else none
   |_=>none
  |_=>none
 |.call c =>
  match c.callee with
  |.builtin .append =>
   match c.args.toList,c.argTypes.toList with
   |[s,x],[t,t'] =>
    match ev F s with
    |.sl id ver sz 0 k =>
     match ext S nx obs id with
     |.cells v e cs =>
      match VP P t with
      |some (e',sz',by_) =>
       match Y5 (ext S nx obs) sz (ev F x) with
       |some (m,ds) =>
       if v=ver/\e'=e/\sz'=sz/\QT P t t'=true then
        (if nx<=id then some (k*sz<=cs.length/\(k+m)*by_<=140737488355328,.sl id (ver+1) sz 0 (k+m),S,obs.set (id-nx) (.cells (ver+1) e (cs.take (k*sz)++ds)))
         else some (k*sz<=cs.length/\(k+m)*by_<=140737488355328,.sl id (ver+1) sz 0 (k+m),S.set id (.cells (ver+1) e (cs.take (k*sz)++ds)),obs))
       else none
       |none=>none
      |none=>none
     |_=>none
    |_=>none
   |_,_=>none
  |_=>none
 |_=>none
def Jz(S:Store)(obs:List Ob)(F:Nat->PV)(o:Oper):Option (Prop × (Nat->PV) × (Nat->Ob)) :=
 match o.op with
 |.alloc t =>
  match Program.zeroOf P t with
  |some z=>if z.cells.all (·.oneCell')=true then some (True,λv=>.ptr (nx+obs.length) v 0,λv=>.cells v t (jW z)) else none
  |none=>none
 |.box t x=>if (ev F x).fit=true then some (True,λv=>.ptr (nx+obs.length) v 0,λv=>.cells v t (ev F x).cells) else none
 |.makeSlice t l c =>
  match ev F l,ev F c with
  |.sc (.int _ a),.sc (.int _ b) =>
   match P.underlying t with
   |some (.slice e) =>
    match Program.zeroOf P e with
    |some z =>
     match Program.bytesOf' P e with
     |some by_=>if z.cells.all (·.oneCell')=true/\z.cells.size=P.cellsOf e/\P.cellsOf e≠0 then
       some (0<=a/\a<=b/\b<=140737488355328/\b.toNat * by_<=281474976710656,λv=>.sl (nx+obs.length) v (P.cellsOf e) 0 a.toNat,λv=>.cells v e (qw b.toNat z)) else none
     |none=>none
    |none=>none
   |_=>none
  |_,_=>none
 |.makeMap _ none=>some (True,λv=>.mp (nx+obs.length) v,λv=>.map v [])
 |.call c =>
  match c.callee with
  |.builtin .append =>
   match c.args.toList,c.argTypes.toList with
   |[s,x],[t,t'] =>
    match ev F s with
    |.sc (.slice none 0 0) =>
     match VP P t with
     |some (e,sz,by_) =>
      match Y5 (ext S nx obs) sz (ev F x) with
      |some (m,ds)=>if QT P t t'=true then some (m*by_<=140737488355328,λv=>.sl (nx+obs.length) v sz 0 m,λv=>.cells v e ds) else none
      |none=>none
     |none=>none
    |_=>none
   |_,_=>none
  |_=>none
 |_=>none
def QV(F:Nat->PV)(o:Oper):Option (FuncId × List PV) :=
 match o.op with
 |.call c =>
  match c.callee with
  |.value x=>match ev F x with|.fn (.func k) fs cs=>some (k,fs++c.args.toList.map (ev F)++cs)|_=>none
  |_=>none
 |_=>none
def XS(ops:Array Oper)(K:(Nat->PV)->Store->List Ob->Prop):List Oper->(Nat->PV)->Store->List Ob->Prop
 |[],F,S,obs=>K F S obs
 |o::os,F,S,obs =>
  match gd ops F o with
  |none=>False
  |some false=>XS ops K os (yg F o.dst (.sc undef)) S obs
  |some true=>PO P r n o F (ext S nx obs) (λp S'=>∃S1 obs1,S'=ext S1 nx obs1/\XS ops K os (yg F o.dst p) S1 obs1)
def gsl:List (Nat × Nat)->Nat->Option Nat
 |[],_=>none
 |(a,p)::l,i=>if i=a then some p else gsl l i
def gdD(D:List (Nat × Nat))(F:Nat->PV)(o:Oper):Option Bool :=
 match o.guard with
 |none=>some true
 |some (j,want) =>
 match gsl D j with
 |none=>some false
 |some d=>match F d with
  |.sc v=>match v with
   |.bool b=>some (b==want)
   |_=>some false
  |_=>none
def ZE(ops:Array Oper)(D:List (Nat × Nat)):Bool :=
 ops.toList.all λo=>match o.guard with
 |none=>true
 |some (j,_)=>decide ((ops[j]?).bind (·.dst)=gsl D j)
def Wz(D:List (Nat × Nat))(Gc:List Oper->(Nat->PV)->Store->List Ob->Option Nat->FuncId->List PV->Prop)(Gh:List Oper->(Nat->PV)->Store->List Ob->Oper->Prop)(X:(Nat->PV)->Store->List Ob->Prop)
  (o:Oper) (os:List Oper) (F:Nat->PV) (S:Store) (obs:List Ob):Prop :=
 match gdD D F o with
 |none=>False
 |some false=>X (yg F o.dst (.sc undef)) S obs
 |some true =>
 match uk P F o with
 |some p=>X (yg F o.dst p) S obs
 |none =>
 match Jy P nx S obs F o with
 |some (A,p,S',obs')=>A/\X (yg F o.dst p) S' obs'
 |none =>
 match Jz P nx S obs F o with
 |some (A,pf,of)=>A/\∀v,X (yg F o.dst (pf v)) S (obs++[of v])
 |none =>
 match QV F o with
 |some (f,args)=>Gc os F S obs o.dst f args
 |none=>Gh os F S obs o
def XR(D:List (Nat × Nat))(K:(Nat->PV)->Store->List Ob->Prop)(Gc:List Oper->(Nat->PV)->Store->List Ob->Option Nat->FuncId->List PV->Prop)(Gh:List Oper->(Nat->PV)->Store->List Ob->Oper->Prop):
  List Oper->(Nat->PV)->Store->List Ob->Prop
 |[],F,S,obs=>K F S obs
 |o::os,F,S,obs=>Wz P nx D Gc Gh (XR D K Gc Gh os) o os F S obs
end
section
variable {P:Program} {r:Rd} {n nx N:Nat} {Q:Exit->(Nat->PV)->Store->Prop} {F:Nat->PV} {S:Store} {obs:List Ob}
def fH{t e:TypeId}{sz:Nat}(h:VP P t=some (e,sz,n)):∃z,ElemOk P t e z n/\sz=P.cellsOf e:=by unfold VP at h;split at h;rename_i d a;split at h;rename_i z c;split at h;rename_i b hb;split at h;rename_i hc;cases h;exact⟨z,⟨a,hc.1,c,hc.2.1,hb,hc.2.2⟩,rfl⟩;cases h;cases h;cases h;cases h
variable {o:Oper}{K:PV->Store->Prop}
theorem Kn{K':PV->Store->Prop}(h:PO P r n o F S K)(b:∀p S',K p S'->K' p S'):PO P r n o F S K' :=
 λG c C w a N st next Q' hn=>h G c C w a N st next Q' λv w' C' S' p d=>hn v w' C' S' p (b p S' d)
def fI{c:Call}{s x:Operand}{t t':TypeId}(hc:c.callee=.builtin .append)(h1:c.args.toList=[s,x])(h2:c.argTypes.toList=[t,t']):c={ callee:=.builtin .append,args:=#[s,x],argTypes:=#[t,t'] }:=by
 have a:c.args=#[s,x]:=by apply BX.1;simpa using h1
 have e2:c.argTypes=#[t,t']:=by apply BX.1;simpa using h2
 cases c;simp_all
theorem mN{A:Prop}{p:PV}{S':Store}{a:List Ob}(h:Jy P nx S obs F o=some (A,p,S',a))(i:A)(g:K p (ext S' nx a)):PO P r n o F (ext S nx obs) K:=by
 unfold Jy at h;split at h;rename_i t x ho;split at h;rename_i q hq;cases h;exact Wr (p:=p) (S':=ext S nx obs) (by grind[jC]) g;cases h;rename_i t x y ho;split at h;rename_i id ver off hx;split at h;rename_i v e cs hs;split at h;rename_i hc;obtain⟨c1,c2,c3,c4⟩:=hc;have d:∀T,(off+(ev F y).cells.length<=cs.length)->(ext S nx obs).set id (.cells v e (yl cs off (ev F y).cells))=T->K (.sc undef) T->PO P r n o F (ext S nx obs) K:=by intro T w e1 g;refine Wr (p:=.sc undef) (S':=T) ?_ g;unfold jC;rw[ho];simp only[Wq,hx,hs];rw[if_pos ⟨c1,c2,c3,w,c4⟩,e1];rfl
 split at h;rename_i hid;cases h;refine d _ i (yi _ hid ?_) g;obtain q|q:=Bo (id-nx) obs.length;exact q;exfalso;simp only[ext]at hs;rw[if_neg EA,List.getD_eq_getElem?_getD,Ao q]at hs;cases hs;grind[qE];cases h;cases h;cases h;rename_i c ho;split at h;rename_i b;split at h;rename_i s x t t' h1 h2;split at h;rename_i id ver sz k a0;split at h;rename_i v e cs hs;split at h;rename_i e' a3 by_ f;split at h;rename_i m ds u;split at h;rename_i hc;obtain⟨rfl,rfl,rfl,hu⟩:=hc;split at h;rename_i hid;cases h;obtain⟨z,j,rfl⟩:=fH f;obtain⟨a1,l⟩:=i;have a4:id-nx<obs.length:=by obtain q|q:=Bo (id-nx) obs.length;exact q;exfalso;simp only[ext]at hs;rw[if_neg EA,List.getD_eq_getElem?_getD,Ao q]at hs;cases hs
 have ha:k+m<=140737488355328:=AF (C4 _ (Ci j.bpos)) l;rw[fI b h1 h2]at ho;grind[fC,yi];rename_i hid;cases h;obtain⟨z,j,rfl⟩:=fH f;obtain⟨a1,l⟩:=i;have ha:k+m<=140737488355328:=AF (C4 _ (Ci j.bpos)) l;rw[fI b h1 h2]at ho;grind[fC,qE];cases h;cases h;cases h;cases h;cases h;cases h;cases h;cases h
def mO{A:Prop}{u:Nat->PV}{w:Nat->Ob}(h:Jz P nx S obs F o=some (A,u,w))(i:A)(hK:∀v,K (u v) (ext S nx (obs++[w v]))):PO P r n o F (ext S nx obs) K:=by unfold Jz at h;split at h;rename_i t ho;split at h;rename_i z j;split at h;rename_i h1;cases h;exact mJ ho j h1 (Y4 (X:=λid v=>K (.ptr id v 0) ((ext S nx obs).set id (.cells v t (jW z)))) _ Z5 λv=>by simp_all[jE]);cases h;cases h;rename_i t x ho;split at h;rename_i h1;cases h;exact Ka ho h1 (Y4 (X:=λid v=>K (.ptr id v 0) ((ext S nx obs).set id (.cells v t (ev F x).cells))) _ Z5 λv=>by grind[jE]);cases h;rename_i t l c ho;split at h;rename_i k1 a k2 b hl hc;split at h;rename_i e ht;split at h;rename_i z j;split at h;rename_i by_ k;split at h;rename_i d;obtain⟨c1,c2,c3⟩:=d;cases h;obtain⟨y,a2,a3,a4⟩:=i;obtain⟨a',rfl⟩:=Au y;obtain⟨b',rfl⟩:=Au (El y a2);simp only[AJ]at hK a4;exact Kb ho ht hl hc j c1 c2 c3 k EA EA a4 (Y4 (X:=λid v=>K (.sl id v (P.cellsOf e) 0 a') ((ext S nx obs).set id (.cells v e (qw b' z)))) _ Z5 λv=>by grind[jE]);cases h;cases h;cases h;cases h;cases h;rename_i t ho;cases h;exact Kk ho (Y4 (X:=λid v=>K (.mp id v) ((ext S nx obs).set id (.map v []))) _ Z5 λv=>by simp_all[jE]);rename_i c ho;split at h;rename_i f;split at h;rename_i s x t t' h1 h2;split at h;rename_i p;split at h;rename_i e sz by_ q;split at h;rename_i m ds g;split at h;rename_i hc;cases h;obtain⟨z,hE,rfl⟩:=fH q;have ha:m<=140737488355328:=AF (C4 _ (Ci hE.bpos)) i;rw[fI f h1 h2]at ho;exact Km ho hc hE p g i ha (Y4 (X:=λid v=>K (.sl id v (P.cellsOf e) 0 m) ((ext S nx obs).set id (.cells v e ds))) _ Z5 λv=>by grind[jE]);cases h;cases h;cases h;cases h;cases h;cases h;cases h
theorem fJ{args:List PV}(h:QV F o=some (f,args))(b:SpecV P r.V f args S K):PO P r n o F S K:=by unfold QV at h;split at h;rename_i c ho;split at h;rename_i x a;split at h;rename_i k fs cs hx;cases h;exact mF ho a hx b.1 b.2 λ_ _ h=>h;cases h;cases h;cases h
variable {ops:Array Oper}{D:List (Nat × Nat)}
def Ko(h:ZE ops D=true)(ho:o∈ops.toList)(F:Nat->PV):gd ops F o=gdD D F o:=by unfold ZE at h;rw[Ay]at h;have:=h o ho;grind[gd,gdD]
theorem WA(c:ZE ops D=true){K:(Nat->PV)->Store->List Ob->Prop}{Gc:List Oper->(Nat->PV)->Store->List Ob->Option Nat->FuncId->List PV->Prop}{Gh:List Oper->(Nat->PV)->Store->List Ob->Oper->Prop}
  (hc:∀os F S obs d f args,Gc os F S obs d f args->os <:+ ops.toList->SpecV P r.V f args (ext S nx obs) (λp S'=>∃S1 a,S'=ext S1 nx a/\XS P r n nx ops K os (yg F d p) S1 a))
  (e:∀os F S obs o,Gh os F S obs o->os <:+ ops.toList->PO P r n o F (ext S nx obs) (λp S'=>∃S1 a,S'=ext S1 nx a/\XS P r n nx ops K os (yg F o.dst p) S1 a)) :
  ∀(l:List Oper) (F:Nat->PV) (S:Store) (obs:List Ob),l <:+ ops.toList->XR P nx D K Gc Gh l F S obs->XS P r n nx ops K l F S obs
 |[],F,S,obs,_,h=>h
 |o::os,F,S,obs,hs,h=>by have b:os <:+ ops.toList:=(List.suffix_cons o os).trans hs;unfold XR Wz at h;rw[<-Ko c (hs.subset EB) F]at h;unfold XS;split at h;omega;exact WA c hc e os _ _ _ b h;split at h;rename_i p i;exact bT i ⟨S,obs,rfl,WA c hc e os _ _ _ b h⟩;split at h;rename_i A p S' g hm;exact mN hm h.1 ⟨S',g,rfl,WA c hc e os _ _ _ b h.2⟩;split at h;rename_i A j k hm;exact mO hm h.1 λv=>⟨S,_,rfl,WA c hc e os _ _ _ b (h.2 v)⟩;split at h;rename_i f args hf;exact fJ hf (hc _ _ _ _ _ _ _ h b);exact e _ _ _ _ _ h b
def w8{K:(Nat->PV)->Store->List Ob->Prop}{l:List Oper}(hs:l <:+ ops.toList)(b:ZE ops D=true)
  (h:∀(Gc:List Oper->(Nat->PV)->Store->List Ob->Option Nat->FuncId->List PV->Prop) (Gh:List Oper->(Nat->PV)->Store->List Ob->Oper->Prop),
   (∀os F S obs d f args,(os <:+ ops.toList->SpecV P r.V f args (ext S nx obs) (λp S'=>∃S1 a,S'=ext S1 nx a/\XS P r n nx ops K os (yg F d p) S1 a))->Gc os F S obs d f args) ->
   (∀os F S obs o,(os <:+ ops.toList->PO P r n o F (ext S nx obs) (λp S'=>∃S1 a,S'=ext S1 nx a/\XS P r n nx ops K os (yg F o.dst p) S1 a))->Gh os F S obs o) ->
   ∀X:List Oper->(Nat->PV)->Store->List Ob->Prop,(∀F S obs,X [] F S obs=K F S obs)->(∀o os F S obs,X (o::os) F S obs=Wz P nx D Gc Gh (X os) o os F S obs)->X l F S obs):XS P r n nx ops K l F S obs :=
 WA b (λ_ _ _ _ _ _ _ h=>h) (λ_ _ _ _ _ h=>h) l F S obs hs (h _ _ (λ_ _ _ _ _ _ _ h=>h) (λ_ _ _ _ _ h=>h) _ (λ_ _ _=>rfl) (λ_ _ _ _ _=>rfl))
def mP{Q':Exit->Act->World->Prop}(t:∀o∈ops,∀d,o.dst=some d->d<N){K:(Nat->PV)->Store->List Ob->Prop}{C0:Ctx}{S0:Store}{w0:World}{ds:List Deferred}
  (u:∀F' S' b C' w' a',K F' S' b->St r C' (ext S' nx b) w' N F' a'->a'.defers=ds->Step C0 S0 w0 C' (ext S' nx b) w'->Q' .normal a' w') :
  ∀(m k:Nat) (F:Nat->PV) (S:Store) (obs:List Ob) (C:Ctx) (w:World) (a:Act),ops.size-k=m->XS P r n nx ops K (ops.toList.drop k) F S obs->St r C (ext S nx obs) w N F a->a.defers=ds->Step C0 S0 w0 C (ext S nx obs) w ->
   wpOpsIn (Fe r) n P ops Q' ((List.range ops.size).drop k) a w:=by
 intro m;induction m with
 |zero =>
 intro k F S obs C w a hm h st j step;have y:(List.range ops.size).drop k=[]:=BW EF;have e2:ops.toList.drop k=[]:=BW EF;rw[y];rw[e2]at h;exact u F S obs C w a h st j step
 |succ m l =>
 intro k F S obs C w a hm h st j step;have q:k<ops.size:=EA;rw[fk k _ q];have e2:ops.toList.drop k=ops[k]::ops.toList.drop (k+1):=by rw[AG EA];simp
 rw[e2]at h;have f:ops[k]?=some ops[k]:=EB;have e:∀x,ops[k].dst=some x->x<N:=t _ (DM q);rw[wpOpsIn_cons];unfold wpOpIn;rw[f];dsimp only;unfold XS at h;split at h;exact h.elim;rename_i i;rw[Ju st i];simp only[A7,if_false];exact⟨λ_ _=>trivial,l (k+1) _ _ _ C w _ EA h (st.put (.refl _ _ _) st.sim e (.sc _)) (by simp_all[VH]) step⟩;rename_i i;rw[Ju st i];simp only[if_true];refine h F (λ_ _=>rfl) C w a N st _ _ ?_;rintro v w' C' S' p ⟨S1,s,rfl,z⟩ g hs c;exact l (k+1) _ _ _ C' w' _ EA z (st.put c hs e g) (by simp_all[VH]) (step.trans c)
def Kp{id:Nat}(f:ul N ops=true)(h:∀K:(Nat->PV)->Store->List Ob->Prop,(∀F' S' b,Q .normal F' (ext S' nx b)->K F' S' b)->XS P r n nx ops K ops.toList F S obs):PW P r n N (.region id ops false) Q F (ext S nx obs):=by
 intro C w a st;refine wpIn_region ?_;have:=mP (Q':=λe a' w'=>∃F' S' C',Q e F' S'/\St r C' S' w' N F' a'/\Defs w.heap.size a.defers C' S' w' a'.defers/\Step C (ext S nx obs) w C' S' w') (bV f)
  (λF' S' b C' w' a' g d i c=>⟨F',_,C',g,d,.of_eq i,c⟩) ops.size 0 F S obs C w a rfl (K:=λF' S' b=>Q .normal F' (ext S' nx b)) (by simpa using h _ λ_ _ _ h=>h) st rfl (.refl _ _ _)
 simpa using this
def xZ{id:Nat}(D:List (Nat × Nat))(c:ul N ops=true)(e:ZE ops D=true)
  (h:∀(K:(Nat->PV)->Store->List Ob->Prop) (Gc:List Oper->(Nat->PV)->Store->List Ob->Option Nat->FuncId->List PV->Prop) (Gh:List Oper->(Nat->PV)->Store->List Ob->Oper->Prop),
   (∀F' S' b,Q .normal F' (ext S' nx b)->K F' S' b) ->
   (∀os F S obs d f args,(os <:+ ops.toList->SpecV P r.V f args (ext S nx obs) (λp S'=>∃S1 a,S'=ext S1 nx a/\XS P r n nx ops K os (yg F d p) S1 a))->Gc os F S obs d f args) ->
   (∀os F S obs o,(os <:+ ops.toList->PO P r n o F (ext S nx obs) (λp S'=>∃S1 a,S'=ext S1 nx a/\XS P r n nx ops K os (yg F o.dst p) S1 a))->Gh os F S obs o) ->
   ∀X:List Oper->(Nat->PV)->Store->List Ob->Prop,(∀F S obs,X [] F S obs=K F S obs)->(∀o os F S obs,X (o::os) F S obs=Wz P nx D Gc Gh (X os) o os F S obs)->X ops.toList F S obs):PW P r n N (.region id ops false) Q F (ext S nx obs) :=
 Kp c λK g=>w8 (DW _) e λGc Gh hc i X h0 j=>h K Gc Gh g hc i X h0 j
end
section
variable (P:Program) (nx:Nat)
def WB(ops:Array Oper)(ids:Option (List Nat))(S0:Store)(Gp:Row->(Nat->PV)->Store->List Ob->Option Nat->FuncId->List PV->Prop)(X:(Nat->PV)->Store->List Ob->Prop)(i:Nat)(is:Row)(F:Nat->PV)(S:Store)(obs:List Ob):Prop :=
 match ops[i]? with
 |none=>False
 |some o =>
 match gd ops F o with
 |none=>False
 |some false=>X (yg F o.dst (.sc undef)) S obs
 |some true =>
 match uk P F o with
 |some p=>X (yg F o.dst p) S obs
 |none =>
 match Xr P ids S0 F o with
 |some p=>X (yg F o.dst p) S obs
 |none =>
 match QV F o with
 |some (f,args)=>Gp is F S obs o.dst f args
 |none=>False
def WC(ops:Array Oper)(ids:Option (List Nat))(S0:Store)(Gc:Row->(Nat->PV)->Store->List Ob->Option Nat->FuncId->List PV->Prop)(Gh:Row->(Nat->PV)->Store->List Ob->Oper->Prop)(X:(Nat->PV)->Store->List Ob->Prop)(i:Nat)(is:Row)(F:Nat->PV)(S:Store)(obs:List Ob):Prop :=
 match ops[i]? with
 |none=>False
 |some o =>
 match gd ops F o with
 |none=>False
 |some false=>X (yg F o.dst (.sc undef)) S obs
 |some true =>
 match Jy P nx S obs F o with
 |some (A,p,S',obs')=>A/\yY ids S0 (ext S' nx obs')/\X (yg F o.dst p) S' obs'
 |none =>
 match Jz P nx S obs F o with
 |some (A,pf,of)=>A/\∀v,yY ids S0 (ext S nx (obs++[of v]))/\X (yg F o.dst (pf v)) S (obs++[of v])
 |none =>
 match QV F o with
 |some (f,args)=>Gc is F S obs o.dst f args
 |none=>Gh is F S obs o
def XD(ops:Array Oper)(ids:Option (List Nat))(S0:Store)(K:(Nat->PV)->Store->List Ob->Prop)(Gp Gc:Row->(Nat->PV)->Store->List Ob->Option Nat->FuncId->List PV->Prop)(Gh:Row->(Nat->PV)->Store->List Ob->Oper->Prop):
  Row->(Nat->PV)->Store->List Ob->Prop
 |.done,F,S,obs=>K F S obs
 |.stop,_,_,_=>True
 |.pure i is,F,S,obs=>WB P ops ids S0 Gp (XD ops ids S0 K Gp Gc Gh is) i is F S obs
 |.alt i is more,F,S,obs=>WC P nx ops ids S0 Gc Gh (XD ops ids S0 K Gp Gc Gh is) i is F S obs/\XD ops ids S0 K Gp Gc Gh more F S obs
end
def KX(nx:Nat)(K:(Nat->PV)->Store->List Ob->Prop)(F:Nat->PV)(T:Store):Prop:=∃S obs,T=ext S nx obs/\K F S obs
section
variable {P:Program} {r:Rd} {n nx N:Nat} {Q:Exit->(Nat->PV)->Store->Prop} {F:Nat->PV} {S:Store} {obs:List Ob}
variable {o:Oper}{p:PV}{S':Store}
def Kq{A:Prop}{a:List Ob}(h:Jy P nx S obs F o=some (A,p,S',a))(d:A):
  jC P F (ext S nx obs) o=some (p,ext S' nx a)\/jC P F (ext S nx obs) o=none:=by
 unfold Jy at h;split at h;rename_i t x ho;split at h;rename_i q f;cases h;left;unfold jC;rw[ho];simp only[f,AR];cases h;rename_i t x y ho;split at h;rename_i id ver off hx;split at h;rename_i v e cs hs;split at h;rename_i hc;obtain⟨c1,c2,c3,c4⟩:=hc;have b:∀T,(off+(ev F y).cells.length<=cs.length)->(ext S nx obs).set id (.cells v e (yl cs off (ev F y).cells))=T->jC P F (ext S nx obs) o=some (.sc undef,T):=by intro T g i;unfold jC;rw[ho];simp only[Wq,hx,hs];rw[if_pos ⟨c1,c2,c3,g,c4⟩,i];rfl
 left;split at h;rename_i hid;cases h;refine b _ d (yi _ hid ?_);obtain q|q:=Bo (id-nx) obs.length;exact q;exfalso;simp only[ext]at hs;rw[if_neg EA,List.getD_eq_getElem?_getD,Ao q]at hs;cases hs;rename_i hid;cases h;exact b _ d (qE _ EA);cases h;cases h;cases h;rename_i c ho;right;unfold jC;rw[ho];simp
def Kr{x:Prop × (Nat->PV) × (Nat->Ob)}(h:Jz P nx S obs F o=some x)(T:Store):jC P F T o=none:=by grind[Jz,jC]
theorem Ks{x:FuncId × List PV}(h:QV F o=some x)(T:Store):jC P F T o=none:=by grind[QV,jC]
variable {ops:Array Oper}{ids:Option (List Nat)}
theorem QW{S0:Store}{K:(Nat->PV)->Store->List Ob->Prop}{Gp Gc:Row->(Nat->PV)->Store->List Ob->Option Nat->FuncId->List PV->Prop}{Gh:Row->(Nat->PV)->Store->List Ob->Oper->Prop}
  (c:∀a F S obs d f args,Gp a F S obs d f args->∃p,Pure P f args p/\PX P r n ops ids S0 a (yg F d p) (ext S nx obs) (KX nx K))
  (hc:∀a F S obs d f args,Gc a F S obs d f args->SpecV P r.V f args (ext S nx obs) (λp S'=>yY ids S0 S'/\PX P r n ops ids S0 a (yg F d p) S' (KX nx K)))
  (g:∀a F S obs o,Gh a F S obs o->jC P F (ext S nx obs) o=none/\PO P r n o F (ext S nx obs) (λp S'=>yY ids S0 S'/\PX P r n ops ids S0 a (yg F o.dst p) S' (KX nx K))) :
  ∀(row:Row) (F:Nat->PV) (S:Store) (obs:List Ob),XD P nx ops ids S0 K Gp Gc Gh row F S obs->PX P r n ops ids S0 row F (ext S nx obs) (KX nx K)
 |.done,F,S,obs,h=>⟨S,obs,rfl,h⟩
 |.stop,_,_,_,_=>trivial
 |.pure i a,F,S,obs,h=>by
  unfold XD WB at h;unfold PX;cases ho:ops[i]? with
  |none=>simp only[ho]at h
  |some o =>
  simp only[ho]at h ⊢;cases j:gd ops F o with
  |none=>simp only[j]at h
  |some b =>
  cases b with
  |false=>simp only[j]at h ⊢;exact QW c hc g a _ _ _ h
  |true =>
  simp only[j]at h ⊢;cases h1:uk P F o with
  |some p=>simp only[h1]at h ⊢;exact QW c hc g a _ _ _ h
  |none =>
  simp only[h1]at h ⊢;cases h2:Xr P ids S0 F o with
  |some p=>simp only[h2]at h ⊢;exact QW c hc g a _ _ _ h
  |none =>
  simp only[h2]at h ⊢;cases h3:QV F o with
  |none=>simp only[h3]at h
  |some q =>
  obtain⟨f,args⟩:=q;simp only[h3]at h;obtain⟨p,s,t⟩:=c _ _ _ _ _ _ _ h;exact⟨p,λS' _=>fJ h3 (s S').v,t⟩
 |.alt i a more,F,S,obs,h=>by
  unfold XD WC at h;unfold PX;obtain⟨h,k⟩:=h;refine⟨?_,QW c hc g more _ _ _ k⟩;cases ho:ops[i]? with
  |none=>simp only[ho]at h
  |some o =>
  simp only[ho]at h ⊢;cases j:gd ops F o with
  |none=>simp only[j]at h
  |some b =>
  cases b with
  |false=>simp only[j]at h ⊢;exact QW c hc g a _ _ _ h
  |true =>
  simp only[j]at h ⊢;cases hm:Jy P nx S obs F o with
  |some x =>
  obtain⟨A,p,S',m⟩:=x;simp only[hm]at h;obtain⟨u,w,h⟩:=h;have key:=QW c hc g a _ _ _ h;obtain e|e:=Kq hm u<;>grind[mN]
  |none =>
  simp only[hm]at h;cases l:Jz P nx S obs F o with
  |some x =>
  obtain⟨A,y,z⟩:=x;simp only[l]at h;simp only[Kr l];exact mO l h.1 λv=>⟨(h.2 v).1,QW c hc g a _ _ _ (h.2 v).2⟩
  |none =>
  grind[Ks,fJ]
def mQ{S0:Store}{K:(Nat->PV)->Store->List Ob->Prop}{row:Row}
  (h:∀(Gp Gc:Row->(Nat->PV)->Store->List Ob->Option Nat->FuncId->List PV->Prop) (Gh:Row->(Nat->PV)->Store->List Ob->Oper->Prop),
   (∀a F S obs d f args p,Pure P f args p->PX P r n ops ids S0 a (yg F d p) (ext S nx obs) (KX nx K)->Gp a F S obs d f args) ->
   (∀a F S obs d f args,SpecV P r.V f args (ext S nx obs) (λp S'=>yY ids S0 S'/\PX P r n ops ids S0 a (yg F d p) S' (KX nx K))->Gc a F S obs d f args) ->
   (∀a F S obs o,jC P F (ext S nx obs) o=none->PO P r n o F (ext S nx obs) (λp S'=>yY ids S0 S'/\PX P r n ops ids S0 a (yg F o.dst p) S' (KX nx K))->Gh a F S obs o) ->
   ∀X:Row->(Nat->PV)->Store->List Ob->Prop,(∀F S obs,X .done F S obs=K F S obs)->(∀F S obs,X .stop F S obs=True)->(∀i a F S obs,X (.pure i a) F S obs=WB P ops ids S0 Gp (X a) i a F S obs) ->
   (∀i a more F S obs,X (.alt i a more) F S obs=(WC P nx ops ids S0 Gc Gh (X a) i a F S obs/\X more F S obs))->X row F S obs):PX P r n ops ids S0 row F (ext S nx obs) (KX nx K) :=
 QW (Gp:=λa F S obs d f args=>∃p,Pure P f args p/\PX P r n ops ids S0 a (yg F d p) (ext S nx obs) (KX nx K)) (Gh:=λa F S obs o=>jC P F (ext S nx obs) o=none/\PO P r n o F (ext S nx obs) (λp S'=>yY ids S0 S'/\PX P r n ops ids S0 a (yg F o.dst p) S' (KX nx K)))
  (λ_ _ _ _ _ _ _ h=>h) (λ_ _ _ _ _ _ _ h=>h) (λ_ _ _ _ _ h=>h) row F S obs
  (h _ _ _ (λ_ _ _ _ _ _ _ p h1 h2=>⟨p,h1,h2⟩) (λ_ _ _ _ _ _ _ h=>h) (λ_ _ _ _ _ h1 h2=>⟨h1,h2⟩) _ (λ_ _ _=>rfl) (λ_ _ _=>rfl) (λ_ _ _ _ _=>rfl) (λ_ _ _ _ _ _=>rfl))
def mR{S0:Store}:∀(row:Row) (F:Nat->PV) (T:Store),PX P r n ops ids S0 row F T (KX nx λF' S' a=>Q .normal F' (ext S' nx a))->PX P r n ops ids S0 row F T (Q .normal):=by
 have e:(KX nx λF' S' a=>Q .normal F' (ext S' nx a))=λF' T=>(∃S' a,T=ext S' nx a)/\Q .normal F' T:=by funext F' T;apply propext;constructor;rintro⟨S',a,rfl,h⟩;grind;rintro⟨⟨S',a,rfl⟩,h⟩;exact⟨S',a,rfl,h⟩
 intro row;induction row with
 |done=>simp_all
 |stop=>simp
 |pure i f j =>
  intro F T h;unfold PX at h ⊢;cases ho:ops[i]? with
  |none=>simp_all
  |some o =>
  simp only[ho]at h ⊢;cases c:gd ops F o with
  |none=>simp only[c]at h
  |some b =>
  cases b<;>grind
 |alt i f more g d =>
 intro F T h;unfold PX at h ⊢;refine⟨?_,d _ _ h.2⟩;have h:=h.1;cases ho:ops[i]? with
 |none=>simp_all
 |some o =>
 simp only[ho]at h ⊢;cases c:gd ops F o with
 |none=>simp only[c]at h
 |some b =>
 cases b with
 |false=>grind
 |true =>
 simp only[c]at h ⊢;grind[Kn]
def Kt{id:Nat}(ids:Option (List Nat))(row:Row)(hm:P.follows .mixedOrders=true)(m:ul N ops=true)(q:Xp ops=true)(l:wR ops [] [] row=true)
  (h:∀(K:(Nat->PV)->Store->List Ob->Prop) (Gp Gc:Row->(Nat->PV)->Store->List Ob->Option Nat->FuncId->List PV->Prop) (Gh:Row->(Nat->PV)->Store->List Ob->Oper->Prop),
   (∀F' S' j,Q .normal F' (ext S' nx j)->K F' S' j) ->
   (∀k F' S' j d f args p,Pure P f args p->PX P r n ops ids (ext S nx obs) k (yg F' d p) (ext S' nx j) (KX nx K)->Gp k F' S' j d f args) ->
   (∀k F' S' j d f args,SpecV P r.V f args (ext S' nx j) (λp T=>yY ids (ext S nx obs) T/\PX P r n ops ids (ext S nx obs) k (yg F' d p) T (KX nx K))->Gc k F' S' j d f args) ->
   (∀k F' S' j o,jC P F' (ext S' nx j) o=none->PO P r n o F' (ext S' nx j) (λp T=>yY ids (ext S nx obs) T/\PX P r n ops ids (ext S nx obs) k (yg F' o.dst p) T (KX nx K))->Gh k F' S' j o) ->
   ∀X:Row->(Nat->PV)->Store->List Ob->Prop,(∀F S obs,X .done F S obs=K F S obs)->(∀F S obs,X .stop F S obs=True)->(∀i k F' S' j,X (.pure i k) F' S' j=WB P ops ids (ext S nx obs) Gp (X k) i k F' S' j) ->
   (∀i k more F' S' j,X (.alt i k more) F' S' j=(WC P nx ops ids (ext S nx obs) Gc Gh (X k) i k F' S' j/\X more F' S' j))->X row F S obs):PW P r n N (.region id ops true) Q F (ext S nx obs):=by
 refine cg ids row hm m q l ?_;have:=mQ (P:=P) (r:=r) (n:=n) (nx:=nx) (ops:=ops) (ids:=ids) (S0:=ext S nx obs) (K:=λF' S' j=>Q .normal F' (ext S' nx j)) (row:=row) (F:=F) (S:=S) (obs:=obs) (λGp Gc Gh a b c X d e f g=>h _ Gp Gc Gh (λ_ _ _ h=>h) a b c X d e f g);exact mR row F _ this
def fr:List (Nat × PV)->Nat->PV
 |[],_=>.junk
 |(a,p)::l,i=>if i=a then p else fr l i
def mS{l:List (Nat × PV)}(h:∀x∈l,F x.1=x.2)(i:Nat):fr l i=F i\/fr l i=.junk:=by induction l<;>grind[fr]
def WD{c:Code}{T T':Store}(d:∀o,T' o=T o\/T' o=.dead)(h:PW P r n N c Q F T'):PW P r n N c Q F T :=
 QS (λC w a st=>by obtain⟨k1,b⟩:=st.sim.kill d;exact⟨C,⟨k1,st.size,λi=>(st.fr i).mono b,r.keep b st.v⟩,b⟩) h
def VQ{c:Code}(L:List (Nat × PV)){more:List Ob}(a:∀x∈L,F x.1=x.2)(h:PW P r n N c Q (fr L) (ext S nx obs)):PW P r n N c Q F (ext S nx (obs++more)) :=
 IY (F':=fr L) (mS a) (WD (fG more) h)
def At{σ:Type}(nx:Nat)(I:σ->Prop)(L:σ->List (Nat × PV))(B:σ->Store)(T:σ->List Ob)(F:Nat->PV)(S:Store):Prop :=
 ∃s more,I s/\(∀x∈L s,F x.1=x.2)/\S=ext (B s) nx (T s++more)
variable {σ:Type}
def yb{I:σ->Prop}{L:σ->List (Nat × PV)}{B:σ->Store}{T:σ->List Ob}(s:σ)(more:List Ob)(hI:I s)(a:∀x∈L s,F x.1=x.2)(b:B s=S)(c:T s++more=obs):At nx I L B T F (ext S nx obs) :=
 ⟨s,more,hI,a,by rw[b,c]⟩
def fK{σ:Type}(nx:Nat)(I:σ->Prop)(L:σ->List (Nat × PV))(B:σ->Store)(T:σ->List Ob)(μ:σ->Nat)(m:Nat)(F:Nat->PV)(S:Store):Prop :=
 ∃s more,I s/\μ s<m/\(∀x∈L s,F x.1=x.2)/\S=ext (B s) nx (T s++more)
def zr{I:σ->Prop}{L:σ->List (Nat × PV)}{B:σ->Store}{T:σ->List Ob}{μ:σ->Nat}{m:Nat}(s:σ)(more:List Ob)(hI:I s)(hm:μ s<m)(a:∀x∈L s,F x.1=x.2)(b:B s=S)(c:T s++more=obs):
  fK nx I L B T μ m F (ext S nx obs):=⟨s,more,hI,hm,a,by rw[b,c]⟩
def xk(I:σ->Prop)(L:σ->List (Nat × PV))(B:σ->Store)(T:σ->List Ob)(μ:σ->Nat){c:Code}{S0:Store}(h0:At nx I L B T F S0)
  (round:∀s,I s->PW P r n N c (QQ (fK nx I L B T μ (μ s)) Q) (fr (L s)) (ext (B s) nx (T s))):PW P r n N (.loop c) Q F S0:=by
 obtain⟨s0,a,d,f,rfl⟩:=h0;refine fm (λF' S' m=>∃s more,I s/\m=μ s/\(∀x∈L s,F' x.1=x.2)/\S'=ext (B s) nx (T s++more)) (μ s0) ⟨s0,a,d,rfl,f,rfl⟩ ?_;rintro m F1 S1 ⟨s,more,hI,rfl,h,rfl⟩;refine VQ (L s) h (VI (round s hI) ?_);intro e F' S' g;cases e with
 |normal =>
 obtain⟨s',b,h1,h2,h3,i⟩:=g;exact⟨μ s',⟨s',b,h1,rfl,h3,i⟩,h2⟩
 |_=>exact g
def zC(I:σ->Prop)(L:σ->List (Nat × PV))(T:σ->List Ob)(μ:σ->Nat)(s0:σ){c:Code}(more:List Ob)(hI:I s0)(a:∀x∈L s0,F x.1=x.2)(b:T s0++more=obs)
  (round:∀s,I s->PW P r n N c (QQ (fK nx I L (λ_=>S) T μ (μ s)) Q) (fr (L s)) (ext S nx (T s))):PW P r n N (.loop c) Q F (ext S nx obs) :=
 xk I L (λ_=>S) T μ (yb s0 more hI a rfl b) round
def mT {f : FuncId} {fn : Func} {c : Code} {rs : List ResultVar} {args : List PV} {Q : PV → Store → Prop} (hf : P.funcs[f]? = some fn) (hname : (fn.name == "runtime.NumGoroutine") = false) (hb : fn.body = some c) (hN : fn.ntmps = N) (hrs : fn.results.toList = rs) (hargs : args.length ≤ N)
  (h:∀nx,yd nx S->PW P jI 0 N c (Yu P rs Q) (ZD args) (ext S nx [])):Spec P f args S Q:=by
 refine⟨qL hf hname hb,?_⟩;intro C w vs a;have b:yd C.next S:=λi hi=>by
  cases hs:S i with
  |dead=>rfl
  |cells v e cs=>have:=a.lt i (by rw[hs];simp);omega
  |map v es=>have:=a.lt i (by rw[hs];simp);omega
 have:=h C.next b;rw[jm b]at this;exact uM hf hb hN hrs hargs this C w vs a
def Ku {f : FuncId} {fn : Func} {c : Code} {rs : List ResultVar} {args : List PV} {Q : PV → Store → Prop} (hd : yd nx S) (hf : P.funcs[f]? = some fn) (hname : (fn.name == "runtime.NumGoroutine") = false) (hb : fn.body = some c) (hN : fn.ntmps = N) (hrs : fn.results.toList = rs) (hargs : args.length ≤ N)
  (h:PW P jI 0 N c (Yu P rs Q) (ZD args) (ext S nx [])):Spec P f args S Q:=by
 refine⟨qL hf hname hb,?_⟩
 simp_all[jm,uM]
def Kv {f : FuncId} {fn : Func} {c : Code} {rs : List ResultVar} {args : List PV} {v : PV} (hf : P.funcs[f]? = some fn) (hname : (fn.name == "runtime.NumGoroutine") = false) (hb : fn.body = some c) (hN : fn.ntmps = N) (hrs : fn.results.toList = rs) (hargs : args.length ≤ N)
  (h:∀S nx,yd nx S->PW P jI 0 N c (Yu P rs (λp S'=>p=v/\S'=S)) (ZD args) (ext S nx [])):Pure P f args v :=
 λS=>mT hf hname hb hN hrs hargs (h S)
variable {ps:List PV}
def zi{rs:List ResultVar}{v:PV}(a:yd nx S)(h1:vJ P F (ext S nx obs) rs=some ps)(h2:zp ps=v):
  ∃ps S',vJ P F (ext S nx obs) rs=some ps/\(zp ps=v/\S'=S)/\∀o,S' o=ext S nx obs o\/S' o=.dead :=
 ⟨ps,S,h1,⟨h2,rfl⟩,zV a⟩
def EL{Q:Exit->(Nat->PV)->Store->Prop}{rs:List ResultVar}{v:PV}(a:yd nx S)(b:Q .ret F (ext S nx obs)=(∃ps S',vJ P F (ext S nx obs) rs=some ps/\(zp ps=v/\S'=S)/\∀o,S' o=ext S nx obs o\/S' o=.dead):=by exact rfl)(h1:vJ P F (ext S nx obs) rs=some ps:=by simp;rfl)(h2:zp ps=v:=by exact rfl):PW P r n N .ret Q F (ext S nx obs):=zg (b▸zi a h1 h2)
theorem Xv(a:yd nx S){j:Nat}{x:Ob}(b:obs[j]?=some x)(o:Nat):S.set (nx+j) x o=ext S nx obs o\/S.set (nx+j) x o=.dead:=by grind[q11,zS,q10,zV]
def qO{c:Code}(d e sz:Nat)(a:F d=.sc (.slice none 0 0))(h:∀v,PW P r n N c Q (vI F d (.sl (nx+obs.length) v sz 0 0)) (ext S nx (obs++[.cells v e []]))):PW P r n N c Q F (ext S nx obs) :=
 Kg d e sz a (Y4 (X:=λid v=>PW P r n N c Q (vI F d (.sl id v sz 0 0)) ((ext S nx obs).set id (.cells v e []))) _ Z5 λv=>by rw[jE];exact h v)
variable {a:Nat}{cs:List PV}
def qy{c:Code}{ver:Nat}(j i e sz:Nat)(d:obs[j]?=some (.cells ver a cs))(hi:cs[i]?=some (.sc (.slice none 0 0)))
  (h:∀v,PW P r n N c Q F (ext S nx (obs.set j (.cells ver a (cs.set i (.sl (nx+obs.length) v sz 0 0)))++[.cells v e []]))):PW P r n N c Q F (ext S nx obs):=by
 have b:j<obs.length:=(Ad.1 d).1;refine fF (o:=nx+j) i e sz EJ hi (Y4 (X:=λid v=>PW P r n N c Q F (((ext S nx obs).set id (.cells v e [])).set (nx+j) (.cells ver a (cs.set i (.sl id v sz 0 0))))) _ Z5 λv=>?_);rw[jE,yi _ EA EF,AM,List.set_append_left _ _ b];exact h v
def Zh{c:Code}{T:Store}(d:Nat)(b:F d=.sc (.slice none 0 0))(h:PW P r n N c Q (vI F d (.lst 0 [])) T):PW P r n N c Q F T :=
 QS (λC w a st=>⟨C,⟨st.sim,st.size,λi=>by by_cases hi:i=d;subst hi;rw[lW];have:=st.fr i;rw[b]at this;generalize a.tmps.getD i undef=v at this;cases this;exact .lst0;rw[lX _ _ _ _ hi];exact st.fr i,st.v⟩,.refl _ _ _⟩) h
def qz(id ver:Nat)(cs:List PV)(p:PV):PV :=
 match p with
 |.sl o v sz 0 k=>if o=id/\v=ver/\k*sz=cs.length then .lst k cs else .sl o v sz 0 k
 |p=>p
def xy(id ver:Nat)(cs:List PV)(x:Ob):Ob :=
 match x with
 |.cells v e ds=>.cells v e (ds.map (qz id ver cs))
 |x=>x
theorem mU(id ver:Nat)(cs:List PV)(x:Ob):(xy id ver cs x).ver=x.ver:=by cases x<;>rfl
def cw{C:Ctx}{T:Store}{w:World}{id ver e:Nat}(l:Sim C S w)(hid:S id=.cells ver e cs)(z:T id=.dead)(a:∀o,T o≠.dead->S o≠.dead)(st:Step C S w C T w){u:Value}
  (h:Rel C S w p u):Rel C T w (qz id ver cs p) u:=by
 unfold qz;split;rename_i o v sz k;split
 .rename_i hc;obtain⟨rfl,rfl,hk⟩:=hc;cases h with
  |sl h1 h2 h3 =>
  obtain⟨ad,cap,rfl,m,n,q3,q4⟩:=h1;have d:∀b k',C.loc o=some (b,k')->¬C.M T b:=by rintro b k' hl ⟨i,q,hi,f⟩;by_cases g:i=o;simp_all;exact g (l.O i o b q k' (a i hi) (by rw[hid];simp) f hl)
  rcases (h3 v (by rw[hid];rfl)).2 rfl with ⟨z1,z2,_,z4⟩|⟨b,k',ad',cap',z1,z2,z3,z4⟩
  subst z2;have:cs=[]:=Av EA;subst this;cases z4;exact .lst0;cases z2;obtain⟨hn,_⟩|⟨b2,kk,c,g1,r,g3,g4,s,t⟩:=l.cells o v e cs hid;simp_all;rw[g1]at z1;cases z1;obtain⟨rfl,_⟩:=z3 rfl;exact .lst1 m n r (d _ _ g1) (λ_=>by omega) (λj v x hv=>s j v x (by simpa using hv)) (λj p v y hv=>(t j p v y (by simpa using hv)).mono st)
 exact h.mono st;exact h.mono st
def zY{c:Code}(j:Nat){ver e:Nat}(hj:obs[j]?=some (.cells ver e cs))(h:PW P r n N c Q (λi=>qz (nx+j) ver cs (F i)) (ext S nx ((obs.map (xy (nx+j) ver cs)).set j .dead))):PW P r n N c Q F (ext S nx obs):=by
 have y:j<obs.length:=(Ad.1 hj).1;refine QS (F':=λi=>qz (nx+j) ver cs (F i)) (S':=ext S nx ((obs.map (xy (nx+j) ver cs)).set j .dead)) (λC w a st=>?_) h;have hid:ext S nx obs (nx+j)=.cells ver e cs:=by rw[zS,List.getD_eq_getElem?_getD,hj];rfl
 have hT:ext S nx ((obs.map (xy (nx+j) ver cs)).set j .dead) (nx+j)=.dead:=by rw[zS,List.getD_eq_getElem?_getD,A9 (by simpa using y)];rfl
 have g:∀o,ext S nx ((obs.map (xy (nx+j) ver cs)).set j .dead) o=.dead\/(o<nx/\ext S nx ((obs.map (xy (nx+j) ver cs)).set j .dead) o=ext S nx obs o)\/(nx<=o/\ext S nx ((obs.map (xy (nx+j) ver cs)).set j .dead) o=xy (nx+j) ver cs (ext S nx obs o)):=by intro o;by_cases ho:o<nx;simp_all[zG];by_cases a0:o=nx+j;simp_all;refine .inr (.inr ⟨by omega,?_⟩);simp only[ext];rw[if_neg ho,if_neg ho,List.getD_eq_getElem?_getD,List.getD_eq_getElem?_getD,Bf EA,Ai];cases obs[o-nx]?<;>rfl
 generalize a1:ext S nx ((obs.map (xy (nx+j) ver cs)).set j .dead)=T at *;generalize a2:ext S nx obs=S1 at *;have l:∀o v,(T o).ver=some v->(S1 o).ver=some v:=by intro o v hv;obtain q|⟨_,q⟩|⟨_,q⟩:=g o;rw[q]at hv;cases hv;simp_all;simp_all[mU]
 have f:∀o,T o≠.dead->S1 o≠.dead:=by intro o ho hd;obtain q|⟨_,q⟩|⟨_,q⟩:=g o;exact ho q;simp_all;rw[hd]at q;exact ho q
 have hM:∀b,C.M T b->C.M S1 b:=λb ⟨o,k,ho,hl⟩=>⟨o,k,f o ho,hl⟩;have d:Step C S1 w C T w:=⟨rfl,⟨rfl,Af _⟩,rfl,Af _,Af _,Af _,λb _ hb=>⟨rfl,λh=>hb (hM b h)⟩,λo v1 hv=>.inr ⟨v1,l o v1 hv,Af _,λ_=>rfl⟩⟩;have s:∀{p u},Rel C S1 w p u->Rel C T w (qz (nx+j) ver cs p) u:=λh=>cw st.sim hid hT f d h;refine⟨C,⟨⟨λo ho=>st.sim.lt o (f o ho),λo v hv=>st.sim.clk o v (l o v hv),λo o' b k k' ho z=>st.sim.O o o' b k k' (f o ho) (f o' z),?_,?_⟩,st.size,λi=>s (st.fr i),r.keep d st.v⟩,d⟩
 .intro o v e' ds ho;obtain q|⟨_,q⟩|⟨_,q⟩:=g o;simp_all;rw[q]at ho;obtain hn|⟨b,k,c,h1,h2,h3,t,h5,h6⟩:=st.sim.cells o v e' ds ho;exact .inl hn;exact .inr ⟨b,k,c,h1,h2,h3,t,h5,λi p u hp hu=>(h6 i p u hp hu).mono d⟩;rw[q]at ho;cases hs:S1 o with
  |dead=>simp_all
  |map v es=>rw[hs]at ho;cases ho
  |cells v2 e2 ds2 =>
  rw[hs]at ho;cases ho;obtain⟨h1,h2⟩|⟨b,k,c,h1,h2,h3,t,h5,h6⟩:=st.sim.cells o _ _ ds2 hs<;>grind
 intro o v es ho;have hs:S1 o=.map v es:=by
  obtain q|⟨_,q⟩|⟨_,q⟩:=g o;simp_all;simp_all;rw[q]at ho;cases hs:S1 o with
  |dead=>simp_all
  |map v es=>rw[hs]at ho;exact ho
  |cells v2 e2 ds2=>rw[hs]at ho;cases ho
 obtain⟨b,k,ms,cl,h1,h2,h3,t⟩:=st.sim.maps o v es hs;exact⟨b,k,ms,cl,h1,h2,h3,λi x m hx hm=>⟨(t i x m hx hm).1,(t i x m hx hm).2.mono d⟩⟩
end
attribute [simp] bS Y3 gsl gdD Wz WB WC QT Jy Jz QV VP fr qz xy
abbrev I(x:Int):PV:=.sc (.int .i64 x)
abbrev B(b:Bool):PV:=.sc (.bool b)
def PV.nosl:PV->Bool
 |.sl _ _ _ _ _=>false
 |_=>true
class Enc (α:Type) where
 enc:α->List PV
 sz:Nat
 len:∀x,(enc x).length=sz
 nosl:∀x,(enc x).all PV.nosl=true
def Kw(id v:Nat)(cs:List PV)(p:PV)(h:p.nosl=true):qz id v cs p=p:=by cases p<;>first|rfl|cases h
variable {α:Type}
@[simp] theorem ZAY[Enc α](id v:Nat)(cs:List PV)(l:List α):(l.flatMap Enc.enc).map (qz id v cs)=l.flatMap Enc.enc:=by rw[AQ (g:=λp=>p),List.map_id'];intro p a;obtain⟨x,_,hx⟩:=By.1 a;exact Kw _ _ _ _ (Ay.1 (Enc.nosl x) p hx)
abbrev L{α:Type}[Enc α](l:List α):PV:=.lst l.length (l.flatMap Enc.enc)
def xz[Enc α](l:List α):(l.flatMap Enc.enc).length=l.length*Enc.sz α:=Ww Enc.enc _ Enc.len l
def Yw[Enc α](l:List α):(l.flatMap Enc.enc).take (l.length*Enc.sz α)=l.flatMap Enc.enc:=by simp[Jx,Enc.len]
variable {k:Nat}
def fL[Enc α]{l:List α}(h:k<l.length):(l.flatMap Enc.enc).drop (k*Enc.sz α)=Enc.enc l[k]++(l.drop (k+1)).flatMap Enc.enc:=mK Enc.enc _ Enc.len l k h
instance:Enc Int:=⟨λx=>[I x],1,λ_=>rfl,λ_=>rfl⟩
@[simp] theorem Kx(x:Int):Enc.enc x=[I x]:=rfl
@[simp high] theorem jY(l:List Int):(l.flatMap Enc.enc).length=l.length:=(xz l).trans (BU _)
@[simp high] theorem Ky(l:List Int):(l.flatMap Enc.enc).take l.length=l.flatMap Enc.enc:=Ae (Cw (jY l))
def el[Enc α](n:Nat)(hn:Enc.sz α=n)(l:List α)(k:Nat)(h:k<l.length):
  ∃s tl,l[k]?=some s/\l.drop k=s::l.drop (k+1)/\l.take (k+1)=l.take k++[s]/\(∀j,j<=n->(l.flatMap Enc.enc).drop (k*n+j)=(Enc.enc s).drop j++tl)/\(l.flatMap Enc.enc).drop (k*n)=Enc.enc s++tl:=by
 subst hn;have h0:=fL h;refine⟨l[k],(l.drop (k+1)).flatMap Enc.enc,Ac h,AG h,by simp,λj a=>?_,h0⟩;rw[<-List.drop_drop,h0,BY (by simp_all[Enc.len])]
def zF[Enc α](hn:Enc.sz α=1)(l:List α)(k:Nat)(h:k<l.length):
  ∃s tl,l[k]?=some s/\l.drop k=s::l.drop (k+1)/\l.take (k+1)=l.take k++[s]/\(l.flatMap Enc.enc).drop k=Enc.enc s++tl:=by
 obtain⟨s,tl,a,b,a3,_,c⟩:=el 1 hn l k h;simp_all
variable {r:Rd}{n N:Nat}{F:Nat->PV}{x y:Code}
def zm{Q:Exit->(Nat->PV)->Store->Prop}{c:Operand}(hc:ev F c=.sc (.bool true))(h:PW P r n N x Q F S):PW P r n N (.cond c x y) Q F S :=
 zv hc (λ_=>h) (λe=>nomatch e)
def zk{Q:Exit->(Nat->PV)->Store->Prop}{c:Operand}(hc:ev F c=.sc (.bool false))(h:PW P r n N y Q F S):PW P r n N (.cond c x y) Q F S :=
 zv hc (λe=>nomatch e) (λ_=>h)
def aC{Q:Exit->(Nat->PV)->Store->Prop}{c:Operand}(h:Q .normal F S)(hc:ev F c=.sc (.bool false):=by simp):PW P r n N (.cond c x .skip) Q F S:=zk hc (zh h)
def aD{Q:Exit->(Nat->PV)->Store->Prop}{c:Operand}(h:PW P r n N x Q F S)(hc:ev F c=.sc (.bool true):=by simp):PW P r n N (.cond c x y) Q F S:=zm hc h
def aE{Q:Exit->(Nat->PV)->Store->Prop}{c:Operand}(h:PW P r n N y Q F S)(hc:ev F c=.sc (.bool false):=by simp):PW P r n N (.cond c x y) Q F S:=zk hc h
theorem wr(x:Int)(h1:-9223372036854775808<=x)(h2:x<=9223372036854775807):IntKind.i64.wrap x=x:=Y6 x h1 h2
def zu(k:Nat)(h:k<9223372036854775807):IntKind.i64.wrap ((k:Int)+1)=((k+1:Nat):Int):=by grind[Y6]
abbrev W(x:Int):Int:=IntKind.i64.wrap x
@[simp] theorem ZAZ:W 0=0:=rfl
theorem uN(a b:Int):W (W a+b)=W (a+b):=by grind[IntKind.wrap_i64]
def cx(a b:Int):W (a+W b)=W (a+b):=by grind[IntKind.wrap_i64]
def W_W(a:Int):W (W a)=W a:=by simp[AD]
variable {e:Nat}{cs:List PV}
def cy{args:List PV}{sz:Nat}(j:Nat)
  (h:∀S nx,yd nx S->Spec P f args S (λp S'=>∃v,p=.sl (nx+j) v sz 0 k/\S'=S.set (nx+j) (.cells v e cs))) (s:k*sz=cs.length):Pure P f args (.lst k cs):=by
 intro S;refine⟨(h (λ_=>.dead) 0 (λ_ _=>rfl)).1,?_⟩;intro C w vs l hl r;have m:yd C.next S:=λi hi=>by
  cases hs:S i with
  |dead=>rfl
  |cells v e cs=>have:=l.lt i (by rw[hs];simp);omega
  |map v es=>have:=l.lt i (by rw[hs];simp);omega
 refine((h S C.next m).2 C w vs l hl r).mono ?_;rintro t w' ⟨p,u,S',C',rfl,⟨v,rfl,rfl⟩,c,a,b⟩;have d:=m (C.next+j) EA;have g:∀o,S o=S.set (C.next+j) (.cells v e cs) o\/S o=.dead:=by intro o;by_cases ho:o=C.next+j;subst ho;exact .inr d;exact .inl (q10 _ _ _ _ ho).symm
 obtain⟨k1,n⟩:=a.kill g;refine⟨.lst k cs,u,S,C',rfl,⟨rfl,rfl⟩,?_,k1,b.trans n⟩;have:=cw a (q11 _ _ _) d (λo ho=>by obtain q|q:=g o;rw[<-q];exact ho;exact absurd q ho) n c;simp_all
def WE{nx:Nat}{obs:List Ob}(x:Ob):(ext S nx obs).set (nx+obs.length+1) x=ext S nx (obs++[.dead,x]):=by
 have e:ext S nx obs=ext S nx (obs++[.dead]):=by funext i;simp only[ext];split;rfl;rw[List.getD_eq_getElem?_getD,List.getD_eq_getElem?_getD];by_cases h3:i-nx<obs.length;rw[As h3];rw[Ao EA];by_cases a:i-nx=obs.length;rw[Am EA,a];simp;rw[Ao EF]
 rw[e];have:=jE (S:=S) (nx:=nx) (obs:=obs++[.dead]) x;grind
variable {nx:Nat}{obs:List Ob}
def yn{Q:Exit->(Nat->PV)->Store->Prop}{c:Code}{ver d:Nat}(j i:Nat)(f:obs[j]?=some (.cells ver d cs))(hi:cs[i]?=some (.sc (.slice none 0 0)))
  (h:PW P r n N c Q F (ext S nx (obs.set j (.cells ver d (cs.set i (.lst 0 [])))))):PW P r n N c Q F (ext S nx obs):=by
 have g:j<obs.length:=(Ad.1 f).1;refine QS (F':=F) (S':=ext S nx (obs.set j (.cells ver d (cs.set i (.lst 0 []))))) (λC w a st=>?_) h;have hs:ext S nx obs (nx+j)=.cells ver d cs:=by rw[zS,List.getD_eq_getElem?_getD,f];rfl
 have:=st.sim.relabel (cs':=cs.set i (.lst 0 [])) hs EB (by intro k l b;rw[BG]at b;split at b;rename_i e;subst e;split at b;cases b;refine .inr ⟨_,hi,λv hv=>?_⟩;cases hv;exact .lst0;cases b;exact .inl b);rw[yi _ EA EA,AM]at this;exact⟨C,⟨this.1,st.size,λk=>(st.fr k).mono this.2,r.keep this.2 st.v⟩,this.2⟩
def qT{Q Q2:Exit->(Nat->PV)->Store->Prop}{σ:Type}(I:σ->Prop)(L:σ->List (Nat × PV))(B:σ->Store)(T:σ->List Ob){S0:Store}
  (h1:PW P r n N x (QQ (At nx I L B T) Q) F S0) (h2:∀s,I s->PW P r n N y Q2 (fr (L s)) (ext (B s) nx (T s))):PW P r n N x (QQ (PW P r n N y Q2) Q) F S0:=by
 refine VI h1 ?_;intro e F' S' a;cases e with
 |normal =>
 obtain⟨s,more,hI,b,rfl⟩:=a;exact VQ (L s) b (h2 s hI)
 |_=>exact a
def Kz{Q:Exit->(Nat->PV)->Store->Prop}{c:Code}(a more:List Ob)(b:obs=a++more)(h:PW P r n N c Q F (ext S nx a)):PW P r n N c Q F (ext S nx obs):=by subst b;exact WD (fG more) h
def Wk(p q:PV):Prop:=∀(C:Ctx) (S:Store) (w:World) (v:Value),Rel C S w p v->Rel C S w q v
theorem Wk.rfl{p:PV}:Wk p p:=λ_ _ _ _ h=>h
theorem Wk.nil:Wk (.sc (.slice none 0 0)) (.lst 0 []):=λ_ _ _ _ h=>by cases h;exact .lst0
inductive WkL:List PV->List PV->Prop where
 |nil:WkL [] []
 |cons {p q:PV} {l m:List PV} (h:Wk p q) (t:WkL l m):WkL (p::l) (q::m)
theorem WkL.len{l m:List PV}(h:WkL l m):l.length=m.length:=by induction h<;>simp_all
theorem WkL.at{l m:List PV}(h:WkL l m):∀(i:Nat) (q:PV),m[i]?=some q->∃p,l[i]?=some p/\Wk p q:=by induction h<;>grind
def KA{args a:List PV}(b:WkL args a)(h:Spec P f a S Q):Spec P f args S Q:=by refine⟨h.1,λC w vs c hl d=>h.2 C w vs c (b.len ▸ hl) λi q v e hv=>?_⟩;obtain⟨p,g,j⟩:=b.at i q e;exact j _ _ _ _ (d i p v g hv)
variable {w:World}{D:Nat}
def mV{x y:Obj}(a:w.heap[D]?=some x)(b:Nat)(o:Obj)(hb:w.heap[b]?=some o)(ho:o≠x):(w.putObj D y).heap[b]?=some o:=by grind[World.putObj_heap_other]
def Obj.odd(x:Obj):Prop:=(∀c e f,x≠.cells c e f)/\(∀m k,x≠.map m k)
def cA(r:Loop):Obj.odd (.loop r):=⟨λ_ _ _ e=>(by cases e),λ_ _ e=>(by cases e)⟩
variable {C:Ctx}{p:PV}
def fM{x y:Obj}(f:w.heap[D]?=some x)(hx:Obj.odd x){v:Value}(g:Rel C S w p v):Rel C S (w.putObj D y) p v:=by
 have c:=mV (y:=y) f;induction g with
 |junk v=>exact .junk v
 |sc v=>exact .sc v
 |agg hl h1 _ a=>exact .agg hl h1 a
 |tup hl _ a=>exact .tup hl a
 |lst0=>exact .lst0
 |lst1 hn hm hb b hs h1 _ a=>exact .lst1 hn hm (c _ _ hb (λe=>hx.1 _ _ _ e.symm)) b hs h1 a
 |ip hb b hs h1 _ a=>exact .ip (c _ _ hb (λe=>hx.1 _ _ _ e.symm)) b hs h1 a
 |nl0=>exact .nl0
 |nl hn hb b hl h1 _ a=>exact .nl hn (c _ _ hb (λe=>hx.1 _ _ _ e.symm)) b hl h1 a
 |ptr h1 ho h=>exact .ptr h1 ho h
 |sl h1 ho h=>exact .sl h1 ho h
 |fn hf hc _ _ a d=>exact .fn hf hc a d
 |ifc _ a=>exact .ifc a
 |mp h1 ho h=>exact .mp h1 ho h
theorem Sim.put(h:Sim C S w){x y:Obj}(f:w.heap[D]?=some x)(hx:Obj.odd x):Sim C S (w.putObj D y):=by have a:=mV (y:=y) f;refine⟨h.lt,h.clk,h.O,?_,?_⟩;intro o ver e cs hs;obtain hn|⟨b,k,c,h1,h2,h3,d,j,l⟩:=h.cells o ver e cs hs;exact .inl hn;exact .inr ⟨b,k,c,h1,a _ _ h2 (λe=>hx.1 _ _ _ e.symm),h3,d,j,λi p v n hv=>fM f hx (l i p v n hv)⟩;intro o ver es hs;obtain⟨b,k,ms,cl,h1,h2,h3,d⟩:=h.maps o ver es hs;exact⟨b,k,ms,cl,h1,a _ _ h2 (λe=>hx.2 _ _ e.symm),h3,λi e m g hm=>⟨(d i e m g hm).1,fM f hx (d i e m g hm).2⟩⟩
variable {S2:Store}{d:World}
theorem Step.around{C2 C3:Ctx}{S3:Store}{f:World}{l:Nat}{g h:Obj}(s1:Step C S d C2 S2 w)(s2:Step C2 S2 (w.putObj l h) C3 S3 f)(hl:d.heap[l]?=some g)(hM:¬C.M S l):
  Step C S d C3 S3 (f.putObj l g):=by
 have i:=qX hl;have z1:=s1.size;have z2:=s2.size;simp only[World.putObj_size]at z2;refine⟨s2.os.trans s1.os,⟨s2.tape.1.trans s1.tape.1,AF s1.tape.2 s2.tape.2⟩,s2.output.trans s1.output,by simp;omega,AF s1.next s2.next,AF s1.clock s2.clock,λb hb e=>?_,?_⟩;obtain⟨k1,j⟩:=s1.blocks b hb e;obtain⟨k,m⟩:=s2.blocks b EF j;grind[World.putObj_heap_same,World.putObj_heap_other];intro o v1 hv;obtain q|⟨v0,a,b,c⟩:=s2.vers o v1 hv;have h1:=s1.next;have h2:=s1.clock;omega;obtain q|⟨u,a',b',n⟩:=s1.vers o v0 a<;>grind
variable {S':Store}{w':World}
theorem Step.beyond{C':Ctx}{l:Nat}(o:Obj)(h:Step C S w C' S' w')(hl:w.heap.size<=l):Step C S w C' S' (w'.putObj l o) :=
 ⟨h.os,h.tape,h.output,by simpa using h.size,h.next,h.clock,λb hb hM=>by obtain⟨k1,a⟩:=h.blocks b hb hM;grind[World.putObj_heap_other],h.vers⟩
def PYield(P:Program)(V:Ctx->Store->World->Prop)(l:Nat)(args:List PV)(S:Store)(Q:Store->Prop):Prop :=
 ∀(C:Ctx) (w:World) (vs:Array Value),Sim C S w->V C S w->args.length=vs.size->(∀(i:Nat) (c:PV) (v:Value),args[i]?=some c->vs[i]?=some v->Rel C S w c v) ->
  YieldAt (Fe jI) 0 P l vs w λe w'=>∃S' C',e=.returned (.bool true)/\Q S'/\Sim C' S' w'/\Step C S w C' S' w'
abbrev xN(l:Nat):PV:=.sc (.func (.yield l) #[] #[])
def JA(P:Program)(k:FuncId)(caps:List PV)(xs:List (List PV)):Prop :=
 qS P k/\∀(l:Nat) (V:Ctx->Store->World->Prop) (_:∀{C C':Ctx} {S S':Store} {w w':World},Step C S w C' S' w'->V C S w->V C' S' w') (m:Nat) (J:Nat->Store->Prop),(∀i A,J i A->yd m A) ->
  (∀i A obs x,xs[i]?=some x->J i A->PYield P V l x (ext A m obs) (λT=>∃A',J (i+1) A'/\T=ext A' m obs)) ->
  ∀A,J 0 A->PCallsV P V k (xN l::caps) A (λ_ T=>J xs.length T)
section
variable {P:Program} {n nx N:Nat} {Q:Exit->(Nat->PV)->Store->Prop} {F:Nat->PV} {S:Store} {obs:List Ob}
def WF{V:Ctx->Store->World->Prop}{keep:∀{C C':Ctx} {S S':Store} {w w':World},Step C S w C' S' w'->V C S w->V C' S' w'}{o:Oper}{c:Call}{x:Operand}{l:Nat}{K:PV->Store->Prop}{R:Store->Prop}
  (ho:o.op=.call c) (hc:c.callee=.value x) (hx:ev F x=xN l) (h:PYield P V l (c.args.toList.map (ev F)) S R) (q:∀S',R S'->K (.sc (.bool true)) S'):PO P ⟨none,V,keep⟩ 0 o F S K:=by
 intro G n C w a N st next Q' f;have j:x∈o.op.operands:=by simp[ho,Op.operands,Call.operands,hc]
 have k:ev G x=xN l:=(n x j).trans hx;have g:c.args.toList.map (ev F)=c.args.toList.map (ev G):=AQ λy p=>(n y (by grind[Op.operands,Call.operands])).symm;rw[g]at h;have d:=st.ev x;rw[k]at d;generalize hv:a.eval x=v at d;cases d;have b:=VG (l:=c.args.toList) st.ev;simp only[Array.toArray_toList]at b;obtain⟨fn,tmps,assign,body,p,r⟩:=h C w (c.args.map a.eval) st.sim st.v b.1 b.2;have i:(execOp a.eval o).run P w=.ok (.round l fn tmps assign body) w:=by unfold execOp;simp only[ho,resolve,hc,hv,Deferred.ofValue,Sem.run_bind,Sem.run_pure,Aq,invoke];have:(#[]:Array Value)++c.args.map a.eval=c.args.map a.eval:=EB;rw[this];exact p
 refine qx (x:=.round l fn tmps assign body) (w':=w) EI i ?_;rw[Oper.uponIn_round];refine⟨λs=>(by cases s),r.mono ?_⟩;rintro e w' ⟨S',C',rfl,t,hs,m⟩;exact f _ w' C' S' _ (q _ t) (.sc _) hs m
def VR {f : FuncId} {fn : Func} {c : Code} {rs : List ResultVar} {caps : List PV} {xs : List (List PV)} (hf : P.funcs[f]? = some fn) (hname : (fn.name == "runtime.NumGoroutine") = false) (hb : fn.body = some c) (hN : fn.ntmps = N) (hrs : fn.results.toList = rs) (hargs : caps.length + 1 ≤ N)
  (h:∀(l:Nat) (V:Ctx->Store->World->Prop) (keep:∀{C C':Ctx} {S S':Store} {w w':World},Step C S w C' S' w'->V C S w->V C' S' w') (nx:Nat) (J:Nat->Store->Prop),(∀i A,J i A->yd nx A) ->
   (∀i A obs x,xs[i]?=some x->J i A->PYield P V l x (ext A nx obs) (λT=>∃A',J (i+1) A'/\T=ext A' nx obs)) ->
   ∀A,J 0 A->PW P ⟨none,V,keep⟩ 0 N c (Yu P rs (λ_ T=>J xs.length T)) (ZD (xN l::caps)) (ext A nx [])):JA P f caps xs:=by
 refine⟨qL hf hname hb,λl V keep m J a d A b=>?_⟩;have:=h l V keep m J a d A b;rw[jm (a 0 A b)]at this;exact fu hf hb hN hrs EA this
def Z6{rs:List ResultVar}{J:Store->Prop}{A:Store}(a:yd nx A)(h1:vJ P F (ext A nx obs) rs=some cs)(b:J A):
  ∃cs S',vJ P F (ext A nx obs) rs=some cs/\J S'/\∀o,S' o=ext A nx obs o\/S' o=.dead:=⟨cs,A,h1,b,zV a⟩
def VS(F:Nat->PV):List Nat->List PV->Nat->PV
 |p::ps,x::xs=>VS (vI F p x) ps xs
 |_,_=>F
theorem mW:∀(ps:List Nat) (vs:List Value) (xs:List PV) (F:Nat->PV) (t:Array Value),t.size=N->(∀p∈ps,p<N)->xs.length=vs.length->(∀i,Rel C S w (F i) (t.getD i undef)) ->
  (∀(i:Nat) (c:PV) (v:Value),xs[i]?=some c->vs[i]?=some v->Rel C S w c v) ->
  ((ps.zip vs).foldl (λt (p,v)=>t.setIfInBounds p v) t).size=N/\∀i,Rel C S w (VS F ps xs i) (((ps.zip vs).foldl (λt (p,v)=>t.setIfInBounds p v) t).getD i undef)
 |[],_,_,F,t,a,_,_,b,_=>⟨a,b⟩
 |p::ps,[],[],F,t,a,_,_,b,_=>⟨a,b⟩
 |p::ps,v::vs,x::xs,F,t,a,e,hl,b,hx=>by
  refine mW ps vs xs (vI F p x) (t.setIfInBounds p v) (by simp[a]) (λq f=>e q (by simp[f])) (by simpa using hl) (λi=>?_) λi c v hc hv=>hx (i+1) c v (by simpa using hc) (by simpa using hv);have d:p<t.size:=by rw[a];exact e p EB
  simp only[vI,Bj];rw[Du];by_cases h:i=p;subst h;simp[d];exact hx 0 x v rfl rfl;grind[Array.getD_eq_getD_getElem?]
def ird(l:Nat):Rd:=⟨some l,λ_ _ _=>True,λ_ _=>trivial⟩
def mX{σ:Type}(nx:Nat)(I:Nat->σ->Prop)(B:σ->Store)(T:σ->List Ob)(i:Nat)(more:List Ob):Exit->(Nat->PV)->Store->Prop
 |.normal,_,S=>∃s extra,I i s/\S=ext (B s) nx (T s++more++extra)
 |_,_,_=>False
def vK{σ:Type}{I:Nat->σ->Prop}{B:σ->Store}{T:σ->List Ob}{i:Nat}{more:List Ob}(s:σ)(a:List Ob)(hI:I i s)(b:B s=S)(c:T s++more++a=obs):mX nx I B T i more .normal F (ext S nx obs):=⟨s,a,hI,by rw[b,c]⟩
def cB(obs more:List Ob)(a:k=nx+obs.length):ext (ext S nx obs) k more=ext S nx (obs++more):=by subst a;funext i;simp only[ext];grind
def Xw{V:Ctx->Store->World->Prop}{keep:∀{C C':Ctx} {S S':Store} {w w':World},Step C S w C' S' w'->V C S w->V C' S' w'}{g:Operand}{ps:Array Tmp}{assign body:Code}{k:FuncId}{xs:List (List PV)}{σ:Type}
  (I:Nat->σ->Prop) (L:List (Nat × PV)) (B:σ->Store) (T:σ->List Ob) (s0:σ)
  (hit:JA P k cs xs) (hg:ev F g=.fn (.func k) [] cs) (d9:∀x∈xs,x.length=ps.size) (e0:∀p∈ps.toList,p<N) (hL:∀x∈L,F x.1=x.2) (h0:I 0 s0) (hB:B s0=S) (hT:T s0=obs) (hl:∀i s,I i s->(T s).length=obs.length)
  (round:∀l i s more x,I i s->xs[i]?=some x->PW P (ird l) 0 N assign (QQ (PW P (ird l) 0 N body (mX nx I B T (i+1) more)) (λ_ _ _=>False)) (VS (fr L) ps.toList x) (ext (B s) nx (T s++more)))
  (done:∀s,I xs.length s->Q .normal F (ext (B s) nx (T s))):PW P ⟨none,V,keep⟩ 0 N (.rangeFunc g ps assign body) Q F (ext S nx obs):=by
 intro C w a st;refine wpIn_rangeFunc ?_;intro fn f8;obtain⟨b,d⟩:∃b:LoopState->Option Code->Loop,b=λst pe=>{ state:=st,pending:=pe,fn,tmps:=a.tmps,params:=ps,assign,body,defers:=w.heap.size }:=⟨_,rfl⟩;obtain⟨k1,j1,m1⟩:=st.sim.alloc (.deferred (some []));obtain⟨k2,j2,m2⟩:=k1.alloc (.loop (b .ready none));rw[World.size_alloc]at m2;obtain⟨W1,a0⟩:∃W1,(w.alloc (.deferred (some []))).alloc (.loop (b .ready none))=W1:=⟨_,rfl⟩;rw[a0]at k2 j2;have e1:W1.heap[w.heap.size+1]?=some (.loop (b .ready none)):=by rw[<-a0];have:=QP (w.alloc (.deferred (some []))) (.loop (b .ready none));rwa[World.size_alloc]at this
 have e4:W1.heap[w.heap.size]?=some (.deferred (some [])):=by rw[<-a0,Z3 _ _ _ EB];exact QP w _
 have h:Step C (ext S nx obs) w C (ext S nx obs) W1:=j1.trans j2;obtain⟨V0,m⟩:∃V0:Ctx->Store->World->Prop,∀C' S' w',V0 C' S' w'<->w'.heap[w.heap.size+1]?=some (.loop (b .ready none))/\w'.heap[w.heap.size]?=some (.deferred (some []))/\¬C'.M S' (w.heap.size+1)/\¬C'.M S' w.heap.size/\Step C (ext S nx obs) w C' S' w':=⟨_,λ_ _ _=>Iff.rfl⟩;have n:∀{C1 C2:Ctx} {S1 S2:Store} {w1 w2:World},Step C1 S1 w1 C2 S2 w2->V0 C1 S1 w1->V0 C2 S2 w2:=by intro C1 C2 S1 S2 w1 w2 q hv;obtain⟨a1,a2,a3,a4,a5⟩:=(m _ _ _).1 hv;obtain⟨b1,b2⟩:=q.blocks _ (qX a1) a3;obtain⟨c1,c2⟩:=q.blocks _ (qX a2) a4;exact(m _ _ _).2 ⟨b1.trans a1,c1.trans a2,b2,c2,a5.trans q⟩
 have d0:V0 C (ext S nx obs) W1:=(m _ _ _).2 ⟨e1,e4,m2,m1,h⟩;have b7:=st.ev g;rw[hg]at b7;generalize e5:a.eval g=gv at b7;cases b7 with
 |fn e6 e7 f9 e8 =>
 rename_i fv lb;obtain rfl:fv=#[]:=Array.eq_empty_of_size_eq_zero e6.symm;have e9:∀i A,(∃s,I i s/\A=ext (B s) nx (T s))->yd (nx+obs.length) A:=by rintro i A ⟨s,hs,rfl⟩;rw[<-hl i s hs];exact xM
 have f0:∀i A more x,xs[i]?=some x->(∃s,I i s/\A=ext (B s) nx (T s))->PYield P V0 (w.heap.size+1) x (ext A (nx+obs.length) more) (λT'=>∃A',(∃s,I (i+1) s/\A'=ext (B s) nx (T s))/\T'=ext A' (nx+obs.length) more):=by
  rintro i A more x hx ⟨s,hs,rfl⟩;rw[cB _ _ (by rw[hl i s hs])];intro C1 w1 vs f1 f2 f7 d1;obtain⟨a1,a2,a3,a4,a5⟩:=(m _ _ _).1 f2;have g0:=d9 x (Aa hx);have hy:=run_yield (P:=P) (args:=vs) a1 (by rw[d];simp only;omega);rw[d]at hy;simp only at hy;have d2:=mW (N:=N) (S:=ext (B s) nx (T s++more)) (C:=C1) (w:=w1) ps.toList vs.toList x (fr L) a.tmps st.size e0 EA (λi=>by obtain e|e:=mS hL i;rw[e];exact(st.fr i).mono a5;rw[e];exact .junk _) (by simpa using d1);have b8:(ps.zip vs).foldl (λtmps (t,a)=>tmps.setIfInBounds t a) a.tmps=(ps.toList.zip vs.toList).foldl (λt (p,v)=>t.setIfInBounds p v) a.tmps:=by rw[<-Array.foldl_toList,Array.toList_zip]
  rw[b8]at hy;refine⟨fn,_,assign,body,hy,roundIn_of_wpIn trivial ?_⟩;have d3:St (ird (w.heap.size+1)) C1 (ext (B s) nx (T s++more)) w1 N (VS (fr L) ps.toList x) { tmps:=(ps.toList.zip vs.toList).foldl (λt (p,v)=>t.setIfInBounds p v) a.tmps,defers:=[] }:=⟨f1,d2.1,d2.2,trivial⟩;refine wpIn_mono (round (w.heap.size+1) i s more x hs hx C1 w1 _ d3) ?_;rintro e g1 w2 ⟨F2,S2,C2,hq,c6,g2,u⟩;cases e with
  |normal =>
   have e2:=u.blocks _ (qX a1) a3;have a7:=e2.1.trans a1;refine⟨_,run_beginRound a7 (by rw[d]),?_⟩;have d4:=c6.sim.put (y:=.loop { b .ready none with state:=.busy }) a7 (cA _);refine wpIn_mono (hq C2 _ _ ⟨d4,c6.size,λj=>fM a7 (cA _) (c6.fr j),trivial⟩) ?_;rintro e g3 w3 ⟨F3,S3,C3,d5,f3,g4,z⟩;cases e with
   |normal =>
   obtain⟨s',c7,d6,rfl⟩:=d5;have a9:(w2.putObj (w.heap.size+1) (.loop { b .ready none with state:=.busy })).heap[w.heap.size+1]?=some (.loop { b .ready none with state:=.busy }):=Ca (qX a7);have e3:=z.blocks (w.heap.size+1) (qX a9) e2.2;have d7:=e3.1.trans a9;have f:=run_endRound (P:=P) none d7;have c8:=fG (S:=B s') (nx:=nx) (obs:=T s'++more) c7;obtain⟨q1,q2⟩:=f3.sim.kill c8;have f4:({ { b .ready none with state:=LoopState.busy } with state:=if (none:Option Code).isNone then .ready else .done,pending:=none }:Loop)=b .ready none:=by rw[d];rfl
   rw[f4]at f;refine⟨_,_,f,_,C3,rfl,⟨_,⟨s',d6,rfl⟩,by rw[cB _ _ (by rw[hl _ s' d6])]⟩,?_,?_⟩;exact q1.put d7 (cA _);have g5:=u.around (z.trans q2) a1 a3;omega
   |_=>exact d5.elim
  |_=>exact hq.elim
 have f5:=hit.2 (w.heap.size+1) V0 n (nx+obs.length) (λi A=>∃s,I i s/\A=ext (B s) nx (T s)) e9 f0 (ext S nx obs) ⟨s0,h0,by rw[hB,hT]⟩ C W1 (#[.func (.yield (w.heap.size+1)) #[] #[]]++lb) k2 d0 (by simp[e7];omega) (by
  intro i c v hc hv;cases i with
  |zero =>
  rw[BB EB]at hv;simp at hc hv;subst hc;subst hv;exact .sc _
  |succ i =>
  rw[B4 EB]at hv;exact(e8 i c v (by simpa using hc) (by simpa using hv)).mono h)
 refine⟨w.heap.size+1,[{ target:=.collected w.heap.size,args:=#[] }],W1,{ target:=.fn (.func k) lb,args:=#[.func (.yield (w.heap.size+1)) #[] #[]] },W1,k,
  #[.func (.yield (w.heap.size+1)) #[] #[]]++lb,W1,?_,?_,?_,?_,λhd=>(by cases hd),?_⟩
 rw[<-a0,d];exact run_enterLoop_outer _ _ _ _ _
 .simp only[resolve,e5];simp[go_sem]
 intro f' _;trivial;simp only[invoke];exact hit.1 _ _;refine(ft (r:=⟨none,V,keep⟩) f5).mono ?_;rintro e w' ⟨p,v,S',C',rfl,⟨s,hs,rfl⟩,_,d8,q⟩;obtain⟨a1,a2,a3,a4,a5⟩:=(m _ _ _).1 (n q d0);have f:=run_endLoop (P:=P) a1 (by rw[d];simp);have f6:(b .ready none).pending=none:=by rw[d]
 rw[f6]at f;have a6:=λo=>a5.beyond (l:=w.heap.size+1) o EA;refine⟨none,_,f,F,_,C',done s hs,⟨d8.put a1 (cA _),st.size,λi=>(st.fr i).mono (a6 _),keep (a6 _) st.v⟩,⟨[{ target:=.collected w.heap.size,args:=#[] }],rfl,⟨_,Af _,rfl,?_,a4,by simp⟩,trivial⟩,a6 _⟩;rw[BC EA];exact a2
end
def WG(id ver:Nat)(cs:List PV)(p:PV):PV :=
 match p with
 |.sl o v sz 0 k=>if o=id/\v=ver/\k*sz=cs.length then .lst k cs else .sl o v sz 0 k
 |.ptr o v off=>if o=id/\v=ver/\off<=cs.length then .ip (cs.drop off) else .ptr o v off
 |p=>p
def Xx(id ver:Nat)(cs:List PV)(p:PV):PV :=
 match p with
 |.fn f fs cap=>.fn f (fs.map (WG id ver cs)) (cap.map (WG id ver cs))
 |p=>WG id ver cs p
def Y9(id ver:Nat)(cs:List PV)(x:Ob):Ob :=
 match x with
 |.cells v e ds=>.cells v e (ds.map (Xx id ver cs))
 |x=>x
def KB(id ver:Nat)(cs:List PV)(x:Ob):(Y9 id ver cs x).ver=x.ver:=by cases x<;>rfl
variable {u:Value}
theorem fN{T:Store}{id ver:Nat}(l:Sim C S w)(hid:S id=.cells ver e cs)(hT:T id=.dead)(g:∀o,T o≠.dead->S o≠.dead)(st:Step C S w C T w)
  (h:Rel C S w p u):Rel C T w (WG id ver cs p) u:=by
 unfold WG;split;rename_i o v sz k;split
 .rename_i hc;obtain⟨rfl,rfl,x⟩:=hc;cases h with
  |sl h1 h2 h3 =>
  obtain⟨ad,cap,rfl,y,z,q3,q4⟩:=h1;have a:∀b k',C.loc o=some (b,k')->¬C.M T b:=by rintro b k' hl ⟨i,n,hi,d⟩;by_cases f:i=o;simp_all;exact f (l.O i o b n k' (g i hi) (by rw[hid];simp) d hl)
  rcases (h3 v (by rw[hid];rfl)).2 rfl with ⟨z1,z2,_,z4⟩|⟨b,k',ad',cap',z1,z2,z3,z4⟩
  subst z2;have:cs=[]:=Av EA;subst this;cases z4;exact .lst0;cases z2;obtain⟨hn,_⟩|⟨b2,kk,c,g1,q,g3,g4,r,s⟩:=l.cells o v e cs hid;simp_all;rw[g1]at z1;cases z1;obtain⟨rfl,_⟩:=z3 rfl;exact .lst1 y z q (a _ _ g1) (λ_=>by omega) (λj v t hv=>r j v t (by simpa using hv)) (λj p v m hv=>(s j p v m (by simpa using hv)).mono st)
 exact h.mono st;rename_i o v off;split
 .rename_i hc;obtain⟨rfl,rfl,x⟩:=hc;cases h with
  |ptr h1 h2 h3 =>
  obtain⟨b,k',z1,z2⟩:=(h3 v (by rw[hid];rfl)).2 rfl;have a:¬C.M T b:=by rintro⟨i,n,hi,d⟩;by_cases f:i=o;simp_all;exact f (l.O i o b n k' (g i hi) (by rw[hid];simp) d z1)
  obtain⟨hn,_⟩|⟨b2,kk,c,g1,q,g3,g4,r,s⟩:=l.cells o v e cs hid;simp_all;rw[g1]at z1;cases z1;subst z2;refine .ip q a (λ_=>by simp;omega) (λj v t hv=>r (off+j) v (by simp at t;omega) hv) (λj p v m hv=>?_);rw[AV]at m;exact(s (off+j) p v m hv).mono st
 exact h.mono st;exact h.mono st
def KC{T:Store}{id ver:Nat}(d:Sim C S w)(hid:S id=.cells ver e cs)(f:T id=.dead)(b:∀o,T o≠.dead->S o≠.dead)(st:Step C S w C T w)
  (h:Rel C S w p u):Rel C T w (Xx id ver cs p) u:=by
 unfold Xx;split
 .cases h with
  |fn hf hc h1 h2 =>
  refine .fn (by simpa using hf) (by simpa using hc) (λi c v hc hv=>?_) (λi c v hc hv=>?_);rw[Ai]at hc;obtain⟨c0,a,rfl⟩:=An.1 hc;exact fN d hid f b st (h1 i c0 v a hv);rw[Ai]at hc;obtain⟨c0,a,rfl⟩:=An.1 hc;exact fN d hid f b st (h2 i c0 v a hv)
 grind[fN]
section
variable {P:Program} {r:Rd} {n nx N:Nat} {Q:Exit->(Nat->PV)->Store->Prop} {F:Nat->PV} {S:Store} {obs:List Ob}
def w9{c:Code}(j:Nat){ver:Nat}(hj:obs[j]?=some (.cells ver e cs))(h:PW P r n N c Q (λi=>Xx (nx+j) ver cs (F i)) (ext S nx ((obs.map (Y9 (nx+j) ver cs)).set j .dead))):PW P r n N c Q F (ext S nx obs):=by
 have y:j<obs.length:=(Ad.1 hj).1;refine QS (F':=λi=>Xx (nx+j) ver cs (F i)) (S':=ext S nx ((obs.map (Y9 (nx+j) ver cs)).set j .dead)) (λC w a st=>?_) h;have hid:ext S nx obs (nx+j)=.cells ver e cs:=by rw[zS,List.getD_eq_getElem?_getD,hj];rfl
 have hT:ext S nx ((obs.map (Y9 (nx+j) ver cs)).set j .dead) (nx+j)=.dead:=by rw[zS,List.getD_eq_getElem?_getD,A9 (by simpa using y)];rfl
 have g:∀o,ext S nx ((obs.map (Y9 (nx+j) ver cs)).set j .dead) o=.dead\/(o<nx/\ext S nx ((obs.map (Y9 (nx+j) ver cs)).set j .dead) o=ext S nx obs o)\/(nx<=o/\ext S nx ((obs.map (Y9 (nx+j) ver cs)).set j .dead) o=Y9 (nx+j) ver cs (ext S nx obs o)):=by intro o;by_cases ho:o<nx;simp_all[zG];by_cases a0:o=nx+j;simp_all;refine .inr (.inr ⟨by omega,?_⟩);simp only[ext];rw[if_neg ho,if_neg ho,List.getD_eq_getElem?_getD,List.getD_eq_getElem?_getD,Bf EA,Ai];cases obs[o-nx]?<;>rfl
 generalize a1:ext S nx ((obs.map (Y9 (nx+j) ver cs)).set j .dead)=T at *;generalize a2:ext S nx obs=S1 at *;have l:∀o v,(T o).ver=some v->(S1 o).ver=some v:=by intro o v hv;obtain q|⟨_,q⟩|⟨_,q⟩:=g o;rw[q]at hv;cases hv;simp_all;simp_all[KB]
 have f:∀o,T o≠.dead->S1 o≠.dead:=by intro o ho hd;obtain q|⟨_,q⟩|⟨_,q⟩:=g o;exact ho q;simp_all;rw[hd]at q;exact ho q
 have hM:∀b,C.M T b->C.M S1 b:=λb ⟨o,k,ho,hl⟩=>⟨o,k,f o ho,hl⟩;have d:Step C S1 w C T w:=⟨rfl,⟨rfl,Af _⟩,rfl,Af _,Af _,Af _,λb _ hb=>⟨rfl,λh=>hb (hM b h)⟩,λo v1 hv=>.inr ⟨v1,l o v1 hv,Af _,λ_=>rfl⟩⟩;have s:∀{p u},Rel C S1 w p u->Rel C T w (Xx (nx+j) ver cs p) u:=λh=>KC st.sim hid hT f d h;refine⟨C,⟨⟨λo ho=>st.sim.lt o (f o ho),λo v hv=>st.sim.clk o v (l o v hv),λo o' b k k' ho z=>st.sim.O o o' b k k' (f o ho) (f o' z),?_,?_⟩,st.size,λi=>s (st.fr i),r.keep d st.v⟩,d⟩
 .intro o v e' ds ho;obtain q|⟨_,q⟩|⟨_,q⟩:=g o;simp_all;rw[q]at ho;obtain hn|⟨b,k,c,h1,h2,h3,t,h5,h6⟩:=st.sim.cells o v e' ds ho;exact .inl hn;exact .inr ⟨b,k,c,h1,h2,h3,t,h5,λi p u hp hu=>(h6 i p u hp hu).mono d⟩;rw[q]at ho;cases hs:S1 o with
  |dead=>simp_all
  |map v es=>rw[hs]at ho;cases ho
  |cells v2 e2 ds2 =>
  rw[hs]at ho;cases ho;obtain⟨h1,h2⟩|⟨b,k,c,h1,h2,h3,t,h5,h6⟩:=st.sim.cells o _ _ ds2 hs<;>grind
 intro o v es ho;have hs:S1 o=.map v es:=by
  obtain q|⟨_,q⟩|⟨_,q⟩:=g o;simp_all;simp_all;rw[q]at ho;cases hs:S1 o with
  |dead=>simp_all
  |map v es=>rw[hs]at ho;exact ho
  |cells v2 e2 ds2=>rw[hs]at ho;cases ho
 obtain⟨b,k,ms,cl,h1,h2,h3,t⟩:=st.sim.maps o v es hs;exact⟨b,k,ms,cl,h1,h2,h3,λi x m hx hm=>⟨(t i x m hx hm).1,(t i x m hx hm).2.mono d⟩⟩
end
def mY{args:List PV}{sz:Nat}(j:Nat)
  (h:∀S nx,yd nx S->Spec P f args S (λp S'=>∃v,p=.agg [.sl (nx+j) v sz 0 k]/\S'=S.set (nx+j) (.cells v e cs))) (y:k*sz=cs.length):Pure P f args (.agg [.lst k cs]):=by
 intro S;refine⟨(h (λ_=>.dead) 0 (λ_ _=>rfl)).1,?_⟩;intro C w vs l hl s;have n:yd C.next S:=λi hi=>by
  cases hs:S i with
  |dead=>rfl
  |cells v e cs=>have:=l.lt i (by rw[hs];simp);omega
  |map v es=>have:=l.lt i (by rw[hs];simp);omega
 refine((h S C.next n).2 C w vs l hl s).mono ?_;rintro z w' ⟨p,u,S',C',rfl,⟨v,rfl,rfl⟩,d,a,b⟩;have m:=n (C.next+j) EA;have g:∀o,S o=S.set (C.next+j) (.cells v e cs) o\/S o=.dead:=by intro o;by_cases ho:o=C.next+j;simp_all;simp_all[q10]
 obtain⟨k1,r⟩:=a.kill g;refine⟨.agg [.lst k cs],u,S,C',rfl,⟨rfl,rfl⟩,?_,k1,b.trans r⟩;cases d with
 |agg t h1 h2 =>
 refine .agg EA h1 λi c x hc hv=>?_;cases i with
 |succ i=>simp at hc
 |zero =>
 simp at hc;subst hc;have:=cw a (q11 _ _ _) m (λo ho=>by obtain q|q:=g o;rw[<-q];exact ho;exact absurd q ho) r (h2 0 _ x rfl hv);simp_all
def mZ(k:Nat):ext S nx obs=ext S nx (obs++List.replicate k .dead):=by funext i;simp only[ext];grind
def VT(k:Nat)(x:Ob):(ext S nx obs).set (nx+obs.length+k) x=ext S nx (obs++List.replicate k .dead++[x]):=by rw[mZ k];have:=jE (S:=S) (nx:=nx) (obs:=obs++List.replicate k .dead) x;grind
theorem Sim.few(h:Sim C S w){o ver:Nat}(hs:S o=.cells ver e cs)(m:Nat):Sim C (S.set o (.cells ver e (cs.take m))) w/\Step C S w C (S.set o (.cells ver e (cs.take m))) w:=by
 have a:∀i,S.set o (.cells ver e (cs.take m)) i≠.dead->S i≠.dead:=by intro i hi;by_cases q:i=o;simp_all;simp_all[q10]
 have r:∀i,(S.set o (.cells ver e (cs.take m)) i).ver=(S i).ver:=by intro i;by_cases q:i=o;subst q;rw[q11,hs];rfl;simp_all[q10]
 have st:Step C S w C (S.set o (.cells ver e (cs.take m))) w:=⟨rfl,⟨rfl,Af _⟩,rfl,Af _,Af _,Af _,λb _ hM=>⟨rfl,λ⟨i,k,hi,hl⟩=>hM ⟨i,k,a i hi,hl⟩⟩,
  λi v1 hv=>.inr ⟨v1,by simp_all,Af _,λ_=>rfl⟩⟩
 refine⟨⟨λi hi=>h.lt i (a i hi),λi v hv=>h.clk i v EJ,λi s b k k' hi g=>h.O i s b k k' (a i hi) (a s g),?_,?_⟩,st⟩;intro i u y ds hi;by_cases q:i=o;subst q;rw[q11]at hi;cases hi;obtain⟨h1,h2⟩|⟨b,k,c,h1,h2,h3,f,l,n⟩:=h.cells i _ _ _ hs;simp_all;refine .inr ⟨b,k,c,h1,h2,h3,by simp;omega,λj v t hv=>l j v (by simp at t;omega) hv,λj p v d hv=>?_⟩;rw[BV]at d;split at d;exact(n j p v d hv).mono st;cases d;rw[q10 _ _ _ _ q]at hi;obtain hn|⟨b,k,c,h1,h2,h3,f,l,n⟩:=h.cells i _ _ _ hi;exact .inl hn;exact .inr ⟨b,k,c,h1,h2,h3,f,l,λj p v d hv=>(n j p v d hv).mono st⟩;intro i v es hi;by_cases q:i=o;simp_all;rw[q10 _ _ _ _ q]at hi;obtain⟨b,k,ms,cl,h1,h2,h3,f⟩:=h.maps i v es hi;exact⟨b,k,ms,cl,h1,h2,h3,λj x m hx hm=>⟨(f j x m hx hm).1,(f j x m hx hm).2.mono st⟩⟩
def KD{Q:Exit->(Nat->PV)->Store->Prop}{c:Code}{ver:Nat}(j m:Nat)(b:obs[j]?=some (.cells ver e cs))
  (h:PW P r n N c Q F (ext S nx (obs.set j (.cells ver e (cs.take m))))):PW P r n N c Q F (ext S nx obs):=by
 have d:j<obs.length:=(Ad.1 b).1;refine QS (F':=F) (S':=ext S nx (obs.set j (.cells ver e (cs.take m)))) (λC w a st=>?_) h;have hs:ext S nx obs (nx+j)=.cells ver e cs:=by rw[zS,List.getD_eq_getElem?_getD,b];rfl
 have:=st.sim.few hs m;rw[yi _ EA EA,AM]at this;exact⟨C,⟨this.1,st.size,λk=>(st.fr k).mono this.2,r.keep this.2 st.v⟩,this.2⟩
@[simp] theorem KE(l m:List α)(k:Nat)(d:α):(l++m).getD (l.length+k) d=m.getD k d:=EI
@[simp] theorem ZA0(l m:List α)(d:α):(l++m).getD l.length d=m.getD 0 d:=KE l m 0 d
@[simp] theorem KF(l m:List α)(k:Nat)(x:α):(l++m).set (l.length+k) x=l++m.set k x:=EB
@[simp] theorem ZA1(l m:List α)(x:α):(l++m).set l.length x=l++m.set 0 x:=KF l m 0 x
@[simp low] theorem ZA2(a b:Int):(a != b)=!decide (a=b):=rfl
attribute [simp] WG Xx Y9 VS
variable {a b:Prop}
def zn(x:a)(y:b):a/\b:=⟨x,y⟩
def zD{c:Prop}(x:a)(y:b)(z:c):a/\b/\c:=⟨x,y,z⟩
def zR{c d:Prop}(x:a)(y:b)(z:c)(u:d):a/\b/\c/\d:=⟨x,y,z,u⟩
def yx{c d e:Prop}(x:a)(y:b)(z:c)(u:d)(v:e):a/\b/\c/\d/\e:=⟨x,y,z,u,v⟩
def zU{c d e f:Prop}(x:a)(y:b)(z:c)(u:d)(v:e)(w:f):a/\b/\c/\d/\e/\f:=⟨x,y,z,u,v,w⟩
abbrev KT:=(Nat->PV)->Store->List Ob->Prop
abbrev CT:=List Oper->(Nat->PV)->Store->List Ob->Option Nat->FuncId->List PV->Prop
abbrev HT:=List Oper->(Nat->PV)->Store->List Ob->Oper->Prop
section
variable {P:Program} {r:Rd} {n nx N:Nat} {Q:Exit->(Nat->PV)->Store->Prop} {F:Nat->PV} {S:Store} {obs:List Ob} {A:Prop} {R:KT->CT->HT->Prop}
abbrev XQ(P:Program)(nx:Nat)(D:List (Nat × Nat))(l:List Oper)(F:Nat->PV)(S:Store)(obs:List Ob)(R:KT->CT->HT->Prop):Prop :=
 ∀(K:KT) (Gc:CT) (Gh:HT) (X:List Oper->KT),(∀F S obs,X [] F S obs=K F S obs)->(∀o os F S obs,X (o::os) F S obs=Wz P nx D Gc Gh (X os) o os F S obs)->R K Gc Gh->X l F S obs
abbrev CQ(P:Program)(r:Rd)(n nx:Nat)(ops:Array Oper)(K:KT):CT:=λos F S obs d f args=>os <:+ ops.toList->SpecV P r.V f args (ext S nx obs) (λp S'=>∃S1 obs1,S'=ext S1 nx obs1/\XS P r n nx ops K os (yg F d p) S1 obs1)
abbrev HQ(P:Program)(r:Rd)(n nx:Nat)(ops:Array Oper)(K:KT):HT:=λos F S obs o=>os <:+ ops.toList->PO P r n o F (ext S nx obs) (λp S'=>∃S1 obs1,S'=ext S1 nx obs1/\XS P r n nx ops K os (yg F o.dst p) S1 obs1)
variable {ops:Array Oper}
def cC{id:Nat}(d:ul N ops=true)(h:XS P r n nx ops (λF' S' b=>Q .normal F' (ext S' nx b)) ops.toList F S obs):PW P r n N (.region id ops false) Q F (ext S nx obs):=by
 intro C w a st;refine wpIn_region ?_;have:=mP (Q':=λe a' w'=>∃F' S' C',Q e F' S'/\St r C' S' w' N F' a'/\Defs w.heap.size a.defers C' S' w' a'.defers/\Step C (ext S nx obs) w C' S' w') (bV d)
  (λF' S' b C' w' a' f st g c=>⟨F',_,C',f,st,.of_eq g,c⟩) ops.size 0 F S obs C w a rfl (K:=λF' S' b=>Q .normal F' (ext S' nx b)) (by simpa using h) st rfl (.refl _ _ _)
 simpa using this
variable {K:KT}
def Xy{l:List Oper}{D:List (Nat × Nat)}(hs:l <:+ ops.toList)(a:ZE ops D=true)(b:XQ P nx D l F S obs R)(h:R K (CQ P r n nx ops K) (HQ P r n nx ops K)):XS P r n nx ops K l F S obs :=
 WA a (Gc:=CQ P r n nx ops K) (Gh:=HQ P r n nx ops K) (λ_ _ _ _ _ _ _ h=>h) (λ_ _ _ _ _ h=>h) l F S obs hs (b K _ _ (XR P nx D K _ _) (λ_ _ _=>rfl) (λ_ _ _ _ _=>rfl) h)
def ze{id:Nat}(D:List (Nat × Nat))(a:A)
  (h:R (λF' S' b=>Q .normal F' (ext S' nx b)) (CQ P r n nx ops λF' S' b=>Q .normal F' (ext S' nx b)) (HQ P r n nx ops λF' S' b=>Q .normal F' (ext S' nx b)))
  (d:ul N ops=true:=by rfl) (e:ZE ops D=true:=by rfl)
  (f:A->XQ P nx D ops.toList F S obs R:=by intro a K Gc Gh X c g h;simp -implicitDefEqProofs [c,g,a];exact h):PW P r n N (.region id ops false) Q F (ext S nx obs) :=
 cC d (Xy (DW _) e (f a) h)
def aF{id:Nat}(D:List (Nat × Nat))(a:A)
  (h:R (λF' S' b=>QQ (PW P r n N y Q) Q .normal F' (ext S' nx b)) (CQ P r n nx ops λF' S' b=>QQ (PW P r n N y Q) Q .normal F' (ext S' nx b)) (HQ P r n nx ops λF' S' b=>QQ (PW P r n N y Q) Q .normal F' (ext S' nx b)))
  (d:ul N ops=true:=by rfl) (e:ZE ops D=true:=by rfl)
  (f:A->XQ P nx D ops.toList F S obs R:=by intro a K Gc Gh X c g h;simp -implicitDefEqProofs [c,g,a];exact h):PW P r n N (.seq (.region id ops false) y) Q F (ext S nx obs) :=
 za (ze D a h d e f)
def zb{id:Nat}
  (h:R (λF' S' a=>Q .normal F' (ext S' nx a)) (CQ P r n nx ops λF' S' a=>Q .normal F' (ext S' nx a)) (HQ P r n nx ops λF' S' a=>Q .normal F' (ext S' nx a)))
  (c:ul N ops=true:=by rfl) (d:ZE ops []=true:=by rfl)
  (e:XQ P nx [] ops.toList F S obs R:=by intro K Gc Gh X b f h;simp -implicitDefEqProofs [b,f];exact h):PW P r n N (.region id ops false) Q F (ext S nx obs) :=
 cC c (Xy (DW _) d e h)
def EK{id:Nat}
  (h:R (λF' S' a=>(QQ (PW P r n N y Q) Q) .normal F' (ext S' nx a)) (CQ P r n nx ops λF' S' a=>(QQ (PW P r n N y Q) Q) .normal F' (ext S' nx a)) (HQ P r n nx ops λF' S' a=>(QQ (PW P r n N y Q) Q) .normal F' (ext S' nx a)))
  (c:ul N ops=true:=by rfl) (d:ZE ops []=true:=by rfl)
  (e:XQ P nx [] ops.toList F S obs R:=by intro K Gc Gh X b f h;simp -implicitDefEqProofs [b,f];exact h):PW P r n N (.seq (.region id ops false) y) Q F (ext S nx obs):=za (zb h c d e)
variable {os:List Oper}
def yP{d:Option Nat}{args:List PV}{v:PV}(D:List (Nat × Nat))(c:Pure P f args v)(a:A)
  (h:R K (CQ P r n nx ops K) (HQ P r n nx ops K)) (e:ZE ops D=true:=by rfl)
  (g:A->XQ P nx D os (yg F d v) S obs R:=by intro a K Gc Gh X b i h;simp -implicitDefEqProofs [b,i,a];exact h):CQ P r n nx ops K os F S obs d f args :=
 λhs=>((c _).mono (by rintro _ _ ⟨rfl,rfl⟩;exact⟨_,_,rfl,Xy hs e (g a) h⟩)).v
def zq{d:Option Nat}{args:List PV}{v:PV}(b:Pure P f args v)
  (h:R K (CQ P r n nx ops K) (HQ P r n nx ops K)) (c:ZE ops []=true:=by rfl)
  (e:XQ P nx [] os (yg F d v) S obs R:=by intro K Gc Gh X a g h;simp -implicitDefEqProofs [a,g];exact h):CQ P r n nx ops K os F S obs d f args :=
 λhs=>((b _).mono (by rintro _ _ ⟨rfl,rfl⟩;exact⟨_,_,rfl,Xy hs c e h⟩)).v
def xA(D:List (Nat × Nat))(a:A)(hs:os <:+ ops.toList)
  (h:R K (CQ P r n nx ops K) (HQ P r n nx ops K)) (c:ZE ops D=true:=by rfl)
  (d:A->XQ P nx D os F S obs R:=by intro a K Gc Gh X b e h;simp -implicitDefEqProofs [b,e,a];exact h):XS P r n nx ops K os F S obs:=Xy hs c (d a) h
def zO(hs:os <:+ ops.toList)
  (h:R K (CQ P r n nx ops K) (HQ P r n nx ops K)) (b:ZE ops []=true:=by rfl)
  (c:XQ P nx [] os F S obs R:=by intro K Gc Gh X a d h;simp -implicitDefEqProofs [a,d];exact h):XS P r n nx ops K os F S obs:=Xy hs b c h
end
section
abbrev PT:=Row->(Nat->PV)->Store->List Ob->Option Nat->FuncId->List PV->Prop
abbrev HT':=Row->(Nat->PV)->Store->List Ob->Oper->Prop
variable {P:Program} {r:Rd} {n nx N:Nat} {Q:Exit->(Nat->PV)->Store->Prop} {F:Nat->PV} {S:Store} {obs:List Ob} {A:Prop} {R:KT->PT->PT->HT'->Prop}
abbrev YQ(P:Program)(nx:Nat)(ops:Array Oper)(ids:Option (List Nat))(S0:Store)(row:Row)(F:Nat->PV)(S:Store)(obs:List Ob)(R:KT->PT->PT->HT'->Prop):Prop :=
 ∀(K:KT) (Gp Gc:PT) (Gh:HT') (X:Row->KT),(∀F S obs,X .done F S obs=K F S obs)->(∀F S obs,X .stop F S obs=True)->(∀i is F S obs,X (.pure i is) F S obs=WB P ops ids S0 Gp (X is) i is F S obs) ->
  (∀i is more F S obs,X (.alt i is more) F S obs=(WC P nx ops ids S0 Gc Gh (X is) i is F S obs/\X more F S obs))->R K Gp Gc Gh->X row F S obs
abbrev GP(P:Program)(r:Rd)(n nx:Nat)(ops:Array Oper)(ids:Option (List Nat))(S0:Store)(K:KT):PT:=λis F S obs d f args=>∃p,Pure P f args p/\PX P r n ops ids S0 is (yg F d p) (ext S nx obs) (KX nx K)
abbrev GC(P:Program)(r:Rd)(n nx:Nat)(ops:Array Oper)(ids:Option (List Nat))(S0:Store)(K:KT):PT:=λis F S obs d f args=>SpecV P r.V f args (ext S nx obs) (λp S'=>yY ids S0 S'/\PX P r n ops ids S0 is (yg F d p) S' (KX nx K))
abbrev GH(P:Program)(r:Rd)(n nx:Nat)(ops:Array Oper)(ids:Option (List Nat))(S0:Store)(K:KT):HT':=λis F S obs o=>jC P F (ext S nx obs) o=none/\PO P r n o F (ext S nx obs) (λp S'=>yY ids S0 S'/\PX P r n ops ids S0 is (yg F o.dst p) S' (KX nx K))
variable {ops:Array Oper}{ids:Option (List Nat)}{K:KT}{row:Row}
def fO{S0:Store}(a:YQ P nx ops ids S0 row F S obs R)(h:R K (GP P r n nx ops ids S0 K) (GC P r n nx ops ids S0 K) (GH P r n nx ops ids S0 K)):PX P r n ops ids S0 row F (ext S nx obs) (KX nx K) :=
 QW (Gp:=GP P r n nx ops ids S0 K) (Gc:=GC P r n nx ops ids S0 K) (Gh:=GH P r n nx ops ids S0 K) (λ_ _ _ _ _ _ _ h=>h) (λ_ _ _ _ _ _ _ h=>h) (λ_ _ _ _ _ h=>h) row F S obs
  (a K _ _ _ (XD P nx ops ids S0 K _ _ _) (λ_ _ _=>rfl) (λ_ _ _=>rfl) (λ_ _ _ _ _=>rfl) (λ_ _ _ _ _ _=>rfl) h)
def zA{id:Nat}(ids:Option (List Nat))(row:Row)(hm:P.follows .mixedOrders=true)(a:A)
  (h:R (λF' S' b=>Q .normal F' (ext S' nx b)) (GP P r n nx ops ids (ext S nx obs) λF' S' b=>Q .normal F' (ext S' nx b)) (GC P r n nx ops ids (ext S nx obs) λF' S' b=>Q .normal F' (ext S' nx b)) (GH P r n nx ops ids (ext S nx obs) λF' S' b=>Q .normal F' (ext S' nx b)))
  (g:ul N ops=true:=by rfl) (i:Xp ops=true:=by rfl) (c:wR ops [] [] row=true:=by rfl)
  (j:A->YQ P nx ops ids (ext S nx obs) row F S obs R:=by intro a K Gp Gc Gh X d e f k h;simp -implicitDefEqProofs [d,e,f,k,a];exact h):PW P r n N (.region id ops true) Q F (ext S nx obs) :=
 cg ids row hm g i c (mR row F _ (fO (j a) h))
def aG{id:Nat}(ids:Option (List Nat))(row:Row)(hm:P.follows .mixedOrders=true)(a:A)
  (h:R (λF' S' b=>QQ (PW P r n N y Q) Q .normal F' (ext S' nx b)) (GP P r n nx ops ids (ext S nx obs) λF' S' b=>QQ (PW P r n N y Q) Q .normal F' (ext S' nx b)) (GC P r n nx ops ids (ext S nx obs) λF' S' b=>QQ (PW P r n N y Q) Q .normal F' (ext S' nx b)) (GH P r n nx ops ids (ext S nx obs) λF' S' b=>QQ (PW P r n N y Q) Q .normal F' (ext S' nx b)))
  (g:ul N ops=true:=by rfl) (i:Xp ops=true:=by rfl) (c:wR ops [] [] row=true:=by rfl)
  (j:A->YQ P nx ops ids (ext S nx obs) row F S obs R:=by intro a K Gp Gc Gh X d e f k h;simp -implicitDefEqProofs [d,e,f,k,a];exact h):PW P r n N (.seq (.region id ops true) y) Q F (ext S nx obs) :=
 za (zA ids row hm a h g i c j)
def zJ{S0:Store}{g:Row}{d:Option Nat}{args:List PV}{v:PV}(i:Pure P f args v)(a:A)
  (h:R K (GP P r n nx ops ids S0 K) (GC P r n nx ops ids S0 K) (GH P r n nx ops ids S0 K))
  (j:A->YQ P nx ops ids S0 g (yg F d v) S obs R:=by intro a K Gp Gc Gh X b c e k h;simp -implicitDefEqProofs [b,c,e,k,a];exact h):GP P r n nx ops ids S0 K g F S obs d f args :=
 ⟨v,i,fO (j a) h⟩
def xl{S0:Store}{e:Row}(a:A)
  (h:R K (GP P r n nx ops ids S0 K) (GC P r n nx ops ids S0 K) (GH P r n nx ops ids S0 K))
  (f:A->YQ P nx ops ids S0 e F S obs R:=by intro a K Gp Gc Gh X b c d g h;simp -implicitDefEqProofs [b,c,d,g,a];exact h):PX P r n ops ids S0 e F (ext S nx obs) (KX nx K):=fO (f a) h
end
theorem zE:undef=Value.tuple #[]:=rfl
section
variable {P:Program} {nx N:Nat} {S:Store} {f:FuncId} {fn:Func} {c:Code} {rs:Array ResultVar} {args:List PV}
def zt{v:PV}(hf:P.funcs[f]?=some fn)(b:fn.ntmps=N)(a:fn.results=rs)(h:∀S nx,yd nx S->PW P jI 0 N c (Yu P rs.toList (λp S'=>p=v/\S'=S)) (ZD args) (ext S nx []))
  (hname : (fn.name == "runtime.NumGoroutine") = false := by rfl) (hb : fn.body = some c := by exact rfl) (hargs : args.length ≤ N := by simp) : Pure P f args v :=
 Kv hf hname hb b (congrArg Array.toList a) hargs h
def yr(hf:P.funcs[f]?=some fn)(b:fn.ntmps=N)(a:fn.results=rs)(h:∀nx,yd nx S->PW P jI 0 N c (Yu P rs.toList Q) (ZD args) (ext S nx []))
  (hname : (fn.name == "runtime.NumGoroutine") = false := by rfl) (hb : fn.body = some c := by exact rfl) (hargs : args.length ≤ N := by simp) : Spec P f args S Q :=
 mT hf hname hb b (congrArg Array.toList a) hargs h
def Z7(b:yd nx S)(hf:P.funcs[f]?=some fn)(d:fn.ntmps=N)(a:fn.results=rs)(h:PW P jI 0 N c (Yu P rs.toList Q) (ZD args) (ext S nx []))
  (hname : (fn.name == "runtime.NumGoroutine") = false := by rfl) (hb : fn.body = some c := by exact rfl) (hargs : args.length ≤ N := by simp) : Spec P f args S Q :=
 Ku b hf hname hb d (congrArg Array.toList a) hargs h
end
instance {α:Type} [Enc α]:Enc (List α):=⟨λl=>[L l],1,λ_=>rfl,λ_=>rfl⟩
@[simp] theorem KG[Enc α](l:List α):Enc.enc l=[L l]:=rfl
@[simp high] theorem jJ[Enc α](l:List (List α)):(l.flatMap Enc.enc).length=l.length:=(xz l).trans (BU _)
@[simp high] theorem KH[Enc α](l:List (List α)):(l.flatMap Enc.enc).take l.length=l.flatMap Enc.enc:=Ae (Cw (jJ l))
abbrev U(n:Nat):PV:=.sc (.int .u64 n)
instance:Enc Nat:=⟨λx=>[U x],1,λ_=>rfl,λ_=>rfl⟩
@[simp] theorem ZA3(x:Nat):Enc.enc x=[U x]:=rfl
@[simp high] theorem nb(l:List Nat):(l.flatMap Enc.enc).length=l.length:=(xz l).trans (BU _)
@[simp high] theorem ZA4(l:List Nat):(l.flatMap Enc.enc).take l.length=l.flatMap Enc.enc:=Ae (Cw (nb l))
instance:Enc Bool:=⟨λx=>[B x],1,λ_=>rfl,λ_=>rfl⟩
@[simp] theorem ZA5(x:Bool):Enc.enc x=[B x]:=rfl
@[simp high] theorem KI(l:List Bool):(l.flatMap Enc.enc).length=l.length:=(xz l).trans (BU _)
@[simp high] theorem ZA6(l:List Bool):(l.flatMap Enc.enc).take l.length=l.flatMap Enc.enc:=Ae (Cw (KI l))
structure Stop where
 c:Int
 q:Int
 deriving DecidableEq
instance:Inhabited Stop:=⟨⟨0,0⟩⟩
instance:Enc Stop:=⟨λs=>[I s.c,I s.q],2,λ_=>rfl,λ_=>rfl⟩
@[simp] theorem ZA7(s:Stop):Enc.enc s=[I s.c,I s.q]:=rfl
@[simp high] theorem Qa(l:List Stop):(l.flatMap Enc.enc).length=l.length*2:=xz l
@[simp high] theorem ZA8(l:List Stop):(l.flatMap Enc.enc).take (l.length*2)=l.flatMap Enc.enc:=Yw l
structure Cust where
 kind:Int
 R:Int
 J:List Nat
 D:Int
 size:Int
 H:Int
 Y:Int
 U:Int
 deriving DecidableEq
instance:Inhabited Cust:=⟨⟨0,0,[],0,0,0,0,0⟩⟩
abbrev yh(c:Cust):List PV:=[I c.kind,I c.R,L c.J,I c.D,I c.size,I c.H,I c.Y,I c.U]
instance:Enc Cust:=⟨yh,8,λ_=>rfl,λ_=>rfl⟩
@[simp] theorem ZA9(c:Cust):Enc.enc c=[I c.kind,I c.R,L c.J,I c.D,I c.size,I c.H,I c.Y,I c.U]:=rfl
@[simp high] theorem ZBa(l:List Cust):(l.flatMap Enc.enc).length=l.length*8:=xz l
@[simp high] theorem ZBb(l:List Cust):(l.flatMap Enc.enc).take (l.length*8)=l.flatMap Enc.enc:=Yw l
structure Inst where
 days:Int
 X:Int
 Q:Int
 len:Int
 y:List Cust
 O:List (List Int)
 deriving DecidableEq
abbrev zB(x:Inst):List PV:=[I x.days,I x.X,I x.Q,I x.len,L x.y,L x.O]
abbrev zM:=List Stop
abbrev zo:=List zM
abbrev zy:=List zo
open Go.ChangeShapes Go.WideShapes Go.ChangeAt Go.RowKit
def S0:Store:=λ_=>.dead
def C0:Ctx:=⟨λ_=>none,0,0⟩
def sim0(w:World):Sim C0 S0 w :=
 ⟨λ_ h=>absurd rfl h,(λ_ _ h=>by cases h),λ_ _ _ _ _ h=>absurd rfl h,(λ_ _ _ _ h=>by cases h),(λ_ _ _ h=>by cases h)⟩
def nf(b:Nat):¬C0.M S0 b:=by rintro⟨o,k,h,_⟩;exact h rfl
def KJ(h:Step C0 S0 w C S' w'):Below w.heap.size w w' :=
 ⟨h.os,h.tape.1,h.output,h.size,λb hb=>(h.blocks b hb (nf b)).1⟩
def Qb(P:Program)(w:World)(t:TypeId)(α:Type)[Enc α](Ok:α->Prop):Prop :=
 ∀(H:Type) (enc:TypeId × Value->H) (fuel:Nat) (cs:List Value) (x:DataW H × List MemPlace),DataW.trod enc P w 0 (λ_=>true) true fuel t cs=some x->∃a:α,Ok a/\RelL C0 S0 w (Enc.enc a) cs.toArray
section
variable {P:Program} {w:World}
def cD{v:Value}(h:Rel C0 S0 w p v)(h1:v.oneCell'=true):RelL C0 S0 w [p] #[v]:=by
 refine⟨rfl,λi u a=>?_,λi q u b a=>?_⟩
 .match i with
  |0=>cases a;exact h1
  |i+1=>cases a
 match i with
 |0=>cases b;cases a;exact h
 |i+1=>cases b
variable {t:TypeId}
def Zi(c:P.underlying t=some (.int .i64)):Qb P w t Int zL:=by
 intro H enc a cs x h;cases a with
 |zero=>cases h
 |succ n =>
 unfold DataW.trod at h;rw[c]at h
 match cs,h with
 |[.int k z],h =>
 simp only at h;split at h;rename_i d;obtain⟨rfl,b⟩:=d;refine⟨z,?_,cD (.sc _) rfl⟩;unfold Lit.wf at b;simp only[Aw,decide_eq_true_eq]at b;exact b;cases h
def KK(c:P.underlying t=some (.int .u64)):Qb P w t Nat (·<2^64):=by
 intro H enc a cs x h;cases a with
 |zero=>cases h
 |succ n =>
 unfold DataW.trod at h;rw[c]at h
 match cs,h with
 |[.int k z],h =>
 simp only at h;split at h;rename_i d;obtain⟨rfl,b⟩:=d;unfold Lit.wf at b;simp only[Aw,decide_eq_true_eq]at b;have h0:0<=z:=b.1;have h1:z<=18446744073709551615:=b.2;obtain⟨m,rfl⟩:=Au h0;exact⟨m,by omega,cD (.sc _) rfl⟩;cases h
variable {vs:List Value}
def fQ(h:RelL C0 S0 w cs vs.toArray):cs.length=vs.length/\(∀(i:Nat) (v:Value),vs[i]?=some v->v.oneCell'=true)/\∀(i:Nat) (p:PV) (v:Value),cs[i]?=some p->vs[i]?=some v->Rel C0 S0 w p v:=by obtain⟨h1,h2,h3⟩:=h;simp only[B1,AH]at h1 h2 h3;exact⟨h1,h2,h3⟩
theorem ng{Q:Nat->α->Prop}:∀(n:Nat),(∀i,i<n->∃a,Q i a)->∃l:List α,l.length=n/\∀(i:Nat) (a:α),l[i]?=some a->Q i a
 |0,_=>⟨[],rfl,λi a h=>nomatch h⟩
 |n+1,h=>by obtain⟨l,hl,c⟩:=ng n λi hi=>h i EA;obtain⟨a,d⟩:=h n EA;refine⟨l++[a],by simp[hl],λi b hb=>?_⟩;by_cases hi:i<n;rw[As EA]at hb;exact c i b hb;by_cases e:i=n;subst e;rw[Am EA,hl]at hb;simp at hb;subst hb;exact d;rw[Ao EF]at hb;cases hb
def KL[Enc α](l:List α)(i j:Nat)(c:j<Enc.sz α){a:α}(hi:l[i]?=some a):(l.flatMap Enc.enc)[i*Enc.sz α+j]?=(Enc.enc a)[j]?:=by
 have b:=(Ad.1 hi).1;have:=fL b;have e:(l.flatMap Enc.enc)[i*Enc.sz α+j]?=((l.flatMap Enc.enc).drop (i*Enc.sz α))[j]?:=by rw[AV]
 rw[e,this,As (by rw[Enc.len];exact c)];rw[(Ad.1 hi).2]
def VU{e:TypeId}[Enc α]{Ok:α->Prop}(ht:P.underlying t=some (.slice e))(a7:P.cellsOf e=Enc.sz α)(h0:Enc.sz α≠0)(he:Qb P w e α Ok):Qb P w t (List α) (λl=>l.length<=9223372036854775807/\∀a∈l,Ok a):=by
 intro H enc c7 cs x h;obtain⟨rfl,_⟩|⟨a,len,cap,g,rest,n,_,rfl,rfl,hb,hl,hm,c8,a8,d1,d2⟩:=DataW.trod_slice ht h;exact⟨[],⟨by simp,by simp⟩,cD .lst0 rfl⟩;have key:∀i,i<len->∃z:α,Ok z/\∃vs:List Value,w.cells? 0 (a.add (i*P.cellsOf e)) (P.cellsOf e)=some vs/\RelL C0 S0 w (Enc.enc z) vs.toArray:=by intro i hi;have h1:=a8 i hi;have h2:g[i]?=some (g[i]' EA):=EB;rw[h2,Option.bind_eq_some_iff]at h1;obtain⟨vs,hv,hx⟩:=h1;obtain⟨z,hz,hr⟩:=he H enc n vs _ hx;exact⟨z,hz,vs,hv,hr⟩
 obtain⟨zs,u,hz⟩:=ng len key;have d3:len<=9223372036854775807:=by unfold maxLen at hm;omega
 refine⟨zs,⟨by omega,λz a9=>?_⟩,?_⟩;obtain⟨i,hi⟩:=Co a9;exact(hz i z hi).1;refine cD (p:=L zs) (v:=.slice (some a) len cap) ?_ rfl;obtain y|y:=Ch len;subst y;have:zs=[]:=Av u;subst this;exact .lst0;obtain⟨b,off,d⟩:=a;have first:=hz 0 _ (Ac (by omega:0<zs.length));obtain⟨_,a3,b7,d4⟩:=first;obtain⟨_,b8,a0⟩:=World.cells?_some b7;have a4:∃c e' fz,w.heap[b]?=some (.cells c e' fz)/\d=none:=by
  have h1:=a0 0 EA;have c6:a3[0]?=some (a3[0]' EA):=EB;rw[c6]at h1;unfold World.cell? at h1;have q1:(((⟨b,off,d⟩:Addr).add (0*P.cellsOf e)).add 0).block=b:=by unfold Addr.add;split<;>simp_all
  have q3:d≠none->(((⟨b,off,d⟩:Addr).add (0*P.cellsOf e)).add 0).spot≠none:=by intro hs;simp[Addr.add,hs]
  rw[q1]at h1;split at h1
  .rename_i c e' fz m;refine⟨c,e',fz,m,?_⟩;cases q:d with
   |none=>rfl
   |some s =>
   have:=q3 (by rw[q];simp);rw[q]at this h1;split at h1;cases h1;rename_i r;exfalso;cases hq:(((⟨b,off,some s⟩:Addr).add (0*P.cellsOf e)).add 0).spot with
   |none=>exact this hq
   |some s2=>rw[hq]at r;exact r rfl
  cases h1
 obtain⟨c,e',fz,m,rfl⟩:=a4;have o:∀i j,i<len->j<Enc.sz α->∃z v,zs[i]?=some z/\c[off+(i*Enc.sz α+j)]?=some v/\v.oneCell'=true/\∃p,(Enc.enc z)[j]?=some p/\Rel C0 S0 w p v:=by intro i j hi hj;have a5:zs[i]?=some (zs[i]' EA):=EB;obtain⟨_,vs,hv,hr⟩:=hz i _ a5;obtain⟨_,b8,a0⟩:=World.cells?_some hv;obtain⟨r1,r2,r3⟩:=fQ hr;rw[Enc.len]at r1;have a1:vs[j]?=some (vs[j]' EA):=EB;have h1:=a0 j EA;rw[a1,Addr.add_plain,Addr.add_plain]at h1;unfold World.cell? at h1;simp only[m]at h1;rw[if_neg EB]at h1;refine⟨_,_,a5,?_,r2 j _ a1,?_⟩;rw[a7,Nat.add_assoc]at h1;exact h1;have hp:(Enc.enc (zs[i]' EA))[j]?=some ((Enc.enc (zs[i]' EA))[j]'(by rw[Enc.len];exact hj)):=EB;exact⟨_,hp,r3 j _ _ hp a1⟩
 have split:∀i,i<len*Enc.sz α->i/Enc.sz α<len/\i%Enc.sz α<Enc.sz α/\i/Enc.sz α*Enc.sz α+i%Enc.sz α=i:=by intro i hi;refine⟨Nat.div_lt_of_lt_mul (by rw[Em];exact hi),Nat.mod_lt _ (Ci h0),?_⟩;rw[Em];exact Nat.div_add_mod i _
 have a2:(zs.flatMap Enc.enc).length=len*Enc.sz α:=by rw[xz,u]
 have f:∀i,i<len*Enc.sz α->∃v,c[off+i]?=some v/\v.oneCell'=true/\∃p,(zs.flatMap Enc.enc)[i]?=some p/\Rel C0 S0 w p v:=by intro i hi;obtain⟨s1,s2,s3⟩:=split i hi;obtain⟨z,v,g1,g2,g3,p,g4,g5⟩:=o _ _ s1 s2;rw[s3]at g2;refine⟨v,g2,g3,p,?_,g5⟩;rw[<-s3,KL zs _ _ s2 g1];exact g4
 rw[<-u]at hl ⊢;refine .lst1 hl (by unfold xx;omega) m (nf b) (λ_=>?_) (λi v hi hv=>?_) (λi p v hp hv=>?_);have d0:0<len*Enc.sz α:=Nat.mul_pos y (Ci h0);obtain⟨v,hv,_⟩:=f (len*Enc.sz α-1) EA;have:=(Bn.1 hv).1;rw[a2];omega;rw[a2]at hi;obtain⟨v',k,h1,_⟩:=f i hi;rw[hv]at k;cases k;exact h1;have hi:i<len*Enc.sz α:=by have:=(Ad.1 hp).1;rw[a2]at this;exact this
 obtain⟨v',k,_,p',a6,hr⟩:=f i hi;rw[hv]at k;cases k;rw[hp]at a6;cases a6;exact hr
def nh{fs:Array Field}{H:Type}{enc:TypeId × Value->H}{a:Nat}{cs:List Value}{x:DataW H × List MemPlace}(d:P.underlying t=some (.struct fs))(h:DataW.trod enc P w 0 (λ_=>true) true a t cs=some x):
  cs.length=P.cellsOf t/\∃n,∀(i:Nat) (f:Field),fs[i]?=some f->∃y,DataW.trod enc P w 0 (λ_=>true) true n f.type ((cs.drop f.offset).take (P.cellsOf f.type))=some y:=by
 cases a with
 |zero=>cases h
 |succ n =>
 unfold DataW.trod at h;rw[d]at h;simp only at h;split at h;rename_i hl;refine⟨hl,n,λi f hf=>?_⟩;obtain⟨e,c,_⟩:=An.1 h;have b:=mapM_some_length c;have hi:i<e.length:=by have:=(Bn.1 hf).1;rw[b];simpa using this
 have:=mapM_some_get c i f (by rw[Array.getElem?_toList];exact hf);rw[Ac hi]at this;exact⟨_,this⟩;cases h
def Z8{ds:List PV}{us:List Value}(h:RelL C0 S0 w cs vs.toArray)(k:RelL C0 S0 w ds us.toArray):RelL C0 S0 w (cs++ds) (vs++us).toArray:=by have:=Wt h k [];simp only[AA]at this;obtain⟨a,c⟩:=fQ h;obtain⟨b1,b2⟩:=fQ k;exact⟨by simp[a,b1],λi v hv=>this.2.1 i v (by have:=(Bn.1 hv).1;simp at this;simp;omega) (by simpa using hv),λi p v b hv=>this.2.2 i p v b (by simpa using hv)⟩
end
variable {H:Type}{before:List MemPlace}
def KM{enc:TypeId × Value->H}{f:Func}{s:ChangeSpec}{apart g a h:Bool}{W:World}{args:Array Value}{v:Value}{ds l:List (DataW H)}{pa pv:List MemPlace}
  (o:DataW.Whole enc P f.params.toList s.vars apart W args.toList ds l before)
  (e:∀(b:Nat) (i:Nat->Bool) (w:Bool),DataW.TrodAll enc P w' b i w f.resultTypes.toList (v.resultList f.resultTypes.size) (s.fn H (ds++l)).results [])
  (c:∀i:Nat->Bool,(∀p∈before,i p.block=true)->DataW.TrodAll enc P w' 0 i true f.params.toList args.toList (s.fn H (ds++l)).args pa)
  (d:∀i:Nat->Bool,(∀p∈before,i p.block=true)->DataW.TrodVars enc P w' i s.vars (s.fn H (ds++l)).vars pv)
  (k:before=pa++pv) (hb:Below W.heap.size W w')
  (q:∀(j:Nat) (t:TypeId) (r:Value),f.resultTypes[j]?=some t->(v.resultList f.resultTypes.size)[j]?=some r->Value.okWide P w' .any 0 t r) :
  s.post enc P f apart g a h W args v w':=by
 have hold:∀p∈before,(λb=>decide (b<W.heap.size)) p.block=true:=λp m=>by simpa using o.lt p m
 have u:=o.lt;refine⟨ds,l,before,[],pa,pv,o,e _ _ _,c _ hold,d _ hold,hb.frame _,λ_=>?_⟩;obtain⟨_,_,_,_,_,x,hn⟩:=o;refine⟨q,_,_,([]++pa)++pv,⟨[]++pa,pv,trodAll_append (c _ (λ_ _=>rfl)) (e _ _ _),d _ (λ_ _=>rfl),rfl,?_,?_⟩,?_⟩;intro b off m;have n:MemPlace.cell b off∈before:=by rw[k];simpa using m
 rw[hb.frozen (u _ n)];exact x b off n;intro y;have:=hn y;rw[k]at this;simpa using this;intro p m _;rw[k];simpa using m
def KN{t:TypeId}[Enc α]{Ok:α->Prop}(h:Qb P w t α Ok){enc:TypeId × Value->H}{vs:Array Value}{d:DataW H}{p:List MemPlace}(f:DataW.Trod enc P w 0 (λ_=>true) true t (.agg vs) d p):
  ∃a:α,Ok a/\Rel C0 S0 w (.agg (Enc.enc a)) (.agg vs):=by
 obtain⟨b,hf⟩:=f;obtain⟨a,g,c⟩:=h H enc b _ _ hf;refine⟨a,g,?_⟩;have e:(Value.agg vs).cells.toList.toArray=vs:=by simp[Value.cells]
 rw[e]at c;exact .agg c.1 c.2.1 c.2.2
def ni{t:TypeId}[Enc α]{Ok:α->Prop}(h:Qb P w t α Ok){enc:TypeId × Value->H}{v:Value}{d:DataW H}{p:List MemPlace}(hv:v.cells=#[v])(e:DataW.Trod enc P w 0 (λ_=>true) true t v d p):
  ∃a:α,Ok a/\∀q,(Enc.enc a)[0]?=some q->Rel C0 S0 w q v:=by
 obtain⟨b,hf⟩:=e;obtain⟨a,f,c⟩:=h H enc b _ _ hf;refine⟨a,f,λq g=>?_⟩;rw[hv]at c;exact c.2.2 0 q v g rfl
end Go.Proofs.YtdjbbndbalhekaaGreatDoor.Pv
namespace Go.Proofs.YtdjbbndbalhekaaGreatDoor
open Go Go.ChangeShapes Go.WideShapes Go.ChangeAt Go.RowKit Pv
def KO:ownKnob prog.godebug=none:=ED
def KP:laidOutB prog=true:=ED
def KQ{f:FuncId}{args:List Pv.PV}(h:Pv.Pure prog f args (Pv.B true)){W:World}{vs:Array Value}(hl:args.length=vs.size)(d:∀(i:Nat) (c:Pv.PV) (v:Value),args[i]?=some c->vs[i]?=some v->Pv.Rel Pv.C0 Pv.S0 W c v):
  Calls prog f vs W λe W'=>e=.returned (.bool true)/\Below W.heap.size W W':=by
 refine((h Pv.S0).2 Pv.C0 W vs (Pv.sim0 W) hl d).mono ?_;rintro e W' ⟨p,v,S',C',rfl,⟨rfl,rfl⟩,a,hs,b⟩;cases a;exact⟨rfl,KJ b⟩
theorem nj{H:Type}{enc:TypeId × Value->H}{W W':World}{c:Nat->Bool}(hb:Below W.heap.size W W'):∀(ts:List TypeId) (vs:List Value) (ds:List (DataW H)) (ps:List MemPlace),
  (∀t∈ts,prog.readableRec t=true/\t<prog.types.size)->DataW.TrodAll enc prog W 0 (λ_=>true) true ts vs ds ps->(∀p∈ps,p.block<W.heap.size)->(∀p∈ps,c p.block=true)->DataW.TrodAll enc prog W' 0 c true ts vs ds ps
 |[],[],[],_,_,h,_,_=>h
 |t::ts,v::vs,d::ds,ps,e,h,a,b=>by obtain⟨p,q,h1,h2,rfl⟩:=h;obtain⟨r1,r2⟩:=e t EB;exact⟨p,q,WideElems.Trod_stays KP r1 r2 h1 (λx hx=>hb.same (a x (by simp[hx]))) (λx hx=>b x (by simp[hx])),nj hb ts vs ds q (λt' h'=>e t' (by simp[h'])) h2 (λx hx=>a x (by simp[hx])) (λx hx=>b x (by simp[hx])),rfl⟩
 |[],[],_::_,_,_,h,_,_=>h.elim
 |[],_::_,_,_,_,h,_,_=>h.elim
 |_::_,[],_,_,_,h,_,_=>h.elim
 |_::_,_::_,[],_,_,h,_,_=>h.elim
def KR{H:Type}{enc:TypeId × Value->H}{s:ChangeSpec}{f:Func}{W W':World}{args:Array Value}{ds:List (DataW H)}{before:List MemPlace}(a:s.vars=[])(c:f.resultTypes=#[4])(e:∀t∈f.params.toList,prog.readableRec t=true/\t<prog.types.size)
  (i:DataW.Whole enc prog f.params.toList s.vars false W args.toList ds [] before) (l:(s.fn H (ds++[])).results=[.lit (.bool true)]) (m:(s.fn H (ds++[])).args=ds) (hv:(s.fn H (ds++[])).vars=[]) (hb:Below W.heap.size W W') :
  s.post enc prog f false true false false W args (.bool true) W':=by
 have d:=i;obtain⟨p,q,n,j,rfl,o,r⟩:=i;rw[a]at j;obtain⟨_,rfl⟩:=trodVars_none j;have g:=d.lt;refine KM (pa:=p) (pv:=[]) d (λb k u=>?_) (λk h=>?_) (λk _=>?_) rfl hb (ok_one c rfl (okWide_bool_mk underlying4 true));rw[l,c];exact trodAll_mk1 (shut_bool underlying4 true);rw[m];exact nj hb _ _ _ _ e n (λx hx=>g x (by simp[hx])) (λx hx=>h x (by simp[hx]));rw[hv,a];rfl
end Go.Proofs.YtdjbbndbalhekaaGreatDoor
namespace Go.Proofs.YtdjbbndbalhekaaGreatDoor
open Go Go.ChangeShapes Go.WideShapes Go.ChangeAt Go.RowKit Pv
def qY{a b:Bool}(h:a=true)(k:b=true):(a&&b)=true:=by rw[h,k];rfl
def KS{P:Program}{f:FuncId}{fn:Func}{s:ChangeSpec}{c:OpenClaim}
  (h1:c.wf (OpenSpec.ofChange s)=true) (h2:laidOutB P=true) (h3:mapsRowed P=true) (h4:fn.params.all (P.readableRec ·)=true) (h5:namedTie P c.named s.vars=true)
  (h6:(c.stops==[])=true) (h7:(P.stops==[])=true) (h8:(c.knobs==[])=true) (h9:(P.stopKnobs==[])=true)
  (a:(c.inPlace==P.inPlace f)=true) (b:(c.unfollowed==P.unfollowed f)=true) (d:(c.recurses==P.recurses f)=true) (e:(c.named==P.varsNamed f)=true)
  (g:(c.maps==(fn.params.toList++s.plain.varTypes P).any (P.mapsRec ·))=true) (h:(c.ifaces==(fn.params.toList++s.plain.varTypes P).any (P.ifacesRec ·))=true) (i:(c.mapsOut==P.mapsAmong fn.resultTypes.toList)=true)
  (j:(c.loops==(fn.params.toList++s.plain.varTypes P).any (P.loopsFrom ·))=true) (l:(c.wideKeys==(fn.params.toList++s.plain.varTypes P++fn.resultTypes.toList).any (P.wideKeysFrom ·))=true)
  (m:s.vars.all (P.varReadable ·)=true) (n:fn.resultTypes.all (λt=>P.readableRec t&&decide (t<P.types.size))=true) (o:(c.ifacesOut==fn.resultTypes.toList.any (P.ifacesRec ·))=true) (p:(c.loopsOut==fn.resultTypes.toList.any (P.loopsFrom ·))=true)
  (q:(c.plainKeys==P.plainKeys)=true) (r:c.shortTexts.isNone=true) (u:P.stopsHeard=true) (v:P.mayEnter=true) (w:(c.lifted==P.liftsFinal)=true) (x:(P.make==some c.make)=true)
  (y:(c.kinds==(if c.domain.isEmpty then [] else fn.params.toList.map λt=>match P.underlying t with|some (.int k)=>some k|_=>none))=true) (z:(c.pinned==c.pinnedBy)=true)
  (a0:(c.veiled==(fn.params.toList++s.plain.varTypes P++fn.resultTypes.toList).any (P.veiledRec ·))=true) (a1:c.veiledFits P fn.params.toList (fn.params.toList++s.plain.varTypes P++fn.resultTypes.toList)=true) :
  joinedFacts P f fn s c=true:=by
 exact qY (qY (qY (qY (qY (qY (qY (qY (qY (qY (qY (qY (qY (qY (qY (qY (qY (qY (qY (qY (qY (qY (qY (qY (qY (qY (qY (qY (qY (qY (qY h1 h2) h3) h4) h5) h6) h7) h8) h9) a) b) d) e) g) h) i) j) l) m) n) o) p) q) r) u) v) w) x) y) z) a0) a1
def KU:laidOutB Tryz.pinned.checked.prog=true:=ED
def KV:mapsRowed Tryz.pinned.checked.prog=true:=ED
def KW:(Tryz.pinned.checked.prog.stops==[])=true:=ED
def KY:(Tryz.pinned.checked.prog.stopKnobs==[])=true:=ED
def KZ:Tryz.pinned.checked.prog.stopsHeard=true:=ED
def La:Tryz.pinned.checked.prog.mayEnter=true:=ED
end Go.Proofs.YtdjbbndbalhekaaGreatDoor
namespace Go.Proofs.YtdjbbndbalhekaaGreatDoor.Pv
open Go
def mixed:prog.follows .mixedOrders=true:=ED
abbrev i9(n:Nat)(v:Value):Prop:=Program.zeroOf prog n=some v
abbrev E0(n k:Nat):Prop:=prog.cellsOf n=k
abbrev E1(n k:Nat):Prop:=Program.bytesOf' prog n=some k
abbrev E2(n:Nat):Prop:=(prog.info? n).isSome=true
theorem E3{α:Type}{a b:α}(h:a=b:=by kernel_rfl):a=b:=h
@[simp] theorem c0:E0 0 1/\E1 0 0/\E2 0/\E0 1 1/\E1 1 8/\i9 1 .nilFunc/\E2 1/\E0 2 1/\E1 2 8/\i9 2 (.int .i64 0)/\E2 2/\E0 3 1/\E1 3 8/\E2 3/\E0 4 1/\E1 4 1/\i9 4 (.bool false)/\E2 4/\E0 5 1/\E1 5 1/\i9 5 (.int .u8 0)/\E1 6 1/\i9 6 (.int .u8 0)/\Wp prog 7=true/\i9 7 (.agg #[.int .i64 0,.int .i64 0,.bool false,.int .u8 0])/\Wp prog 8=true/\E0 9 1/\E1 9 16/\i9 9 (.string ⟨#[]⟩)/\E2 9/\i9 20 .nilIface/\i9 21 (.int .i32 0)/\E0 22 1/\i9 22 (.slice none 0 0)/\E2 22/\E0 23 1/\E2 23/\i9 24 (.agg #[.int .i64 0,.int .i64 0,.int .i64 0,.int .i64 0,.slice none 0 0,.slice none 0 0]):=⟨E3,E3,E3,E3,E3,E3,E3,E3,E3,E3,E3,E3,E3,E3,E3,E3,E3,E3,E3,E3,E3,E3,E3,E3,E3,E3,E3,E3,E3,E3,E3,E3,E3,E3,E3,E3,E3,E3⟩
@[simp] theorem c25:E0 25 6/\i9 25 (.agg #[.int .i64 0,.int .i64 0,.int .i64 0,.int .i64 0,.slice none 0 0,.slice none 0 0])/\E2 25/\E0 26 1/\E1 26 24/\i9 26 (.slice none 0 0)/\E2 26/\i9 28 .nilFunc/\E0 29 1/\E2 29/\E0 31 1/\i9 31 (.agg #[.slice none 0 0])/\E2 31/\E2 32/\E0 33 6/\i9 33 (.agg #[.int .i64 0,.int .i64 0,.int .i64 0,.int .i64 0,.slice none 0 0,.slice none 0 0])/\E2 33/\i9 37 .nilFunc/\E0 38 1/\i9 38 .nilFunc/\i9 40 .nilFunc/\i9 45 .nilFunc/\i9 46 .nilFunc/\E0 48 1/\E2 48/\E0 49 1/\E1 49 8/\i9 49 (.int .i64 0)/\E2 49/\i9 51 .nilFunc/\E0 52 1/\E1 52 24/\i9 52 (.slice none 0 0)/\i9 53 .nilFunc/\i9 55 .nilFunc/\E0 57 1/\E2 57:=⟨E3,E3,E3,E3,E3,E3,E3,E3,E3,E3,E3,E3,E3,E3,E3,E3,E3,E3,E3,E3,E3,E3,E3,E3,E3,E3,E3,E3,E3,E3,E3,E3,E3,E3,E3,E3,E3⟩
@[simp] theorem c59:E0 59 8/\E1 59 80/\i9 59 (.agg #[.int .i64 0,.int .i64 0,.slice none 0 0,.int .i64 0,.int .i64 0,.int .i64 0,.int .i64 0,.int .i64 0])/\E2 59/\E2 64/\E0 65 1/\E1 65 8/\i9 65 (.int .u64 0)/\E2 65/\i9 66 (.pointer none)/\E0 68 4/\i9 68 (.agg #[.int .i64 0,.int .i64 0,.int .i64 0,.int .i64 0])/\E2 68/\i9 70 (.agg #[.string ⟨#[]⟩,.int .i64 0,.int .i64 0,.int .i64 0,.int .i64 0,.int .i64 0,.int .i64 0,.int .i64 0,.int .i64 0,.slice none 0 0,.slice none 0 0,.int .i64 0,.int .i64 0,.int .i64 0,.int .i64 0,.slice none 0 0,.slice none 0 0])/\i9 71 (.agg #[.string ⟨#[]⟩,.int .i64 0,.int .i64 0,.int .i64 0,.int .i64 0,.int .i64 0,.int .i64 0,.int .i64 0,.int .i64 0,.slice none 0 0,.slice none 0 0,.int .i64 0,.int .i64 0,.int .i64 0,.int .i64 0,.slice none 0 0,.slice none 0 0])/\E0 72 1/\i9 72 .nilFunc/\i9 75 .nilFunc/\E0 76 1/\i9 76 (.pointer none)/\E0 77 1/\i9 77 (.slice none 0 0)/\E0 79 2/\i9 79 (.agg #[.pointer none,.slice none 0 0])/\E0 94 1/\E2 94/\E0 96 1/\E1 96 24/\i9 96 (.agg #[.slice none 0 0])/\E2 96/\E0 97 1/\E1 97 24/\i9 97 (.slice none 0 0)/\E2 97/\E0 99 1/\E1 99 24/\i9 99 (.agg #[.slice none 0 0])/\E2 99/\Wp prog 101=true/\i9 105 .nilFunc:=⟨E3,E3,E3,E3,E3,E3,E3,E3,E3,E3,E3,E3,E3,E3,E3,E3,E3,E3,E3,E3,E3,E3,E3,E3,E3,E3,E3,E3,E3,E3,E3,E3,E3,E3,E3,E3,E3,E3,E3,E3⟩
@[simp] theorem ZCa:i9 111 (.agg #[.int .i64 0,.int .i64 0,.int .i64 0,.int .i64 0])/\E0 113 2/\i9 113 (.agg #[.slice none 0 0,.slice none 0 0])/\E2 113/\i9 119 (.agg #[.int .u8 0,.int .u8 0,.int .u8 0,.int .u8 0,.int .u8 0,.int .u8 0,.int .u8 0,.int .u8 0,.int .u8 0,.int .u8 0,.int .u8 0,.int .u8 0,.int .u8 0,.int .u8 0,.int .u8 0,.int .u8 0,.int .u8 0,.int .u8 0,.int .u8 0,.int .u8 0])/\E0 124 3/\i9 124 (.agg #[.int .i64 0,.int .i64 0,.int .i64 0])/\i9 127 (.pointer none)/\i9 129 (.agg #[.slice none 0 0,.int .i64 0,.int .i64 0,.int .i64 0,.int .i64 0,.int .i64 0,.slice none 0 0,.slice none 0 0,.int .i64 0,.bool false])/\i9 131 .nilFunc/\E0 132 1/\i9 132 (.pointer none)/\i9 138 .nilFunc/\i9 139 (.agg #[.int .i64 0,.int .i64 0,.int .i64 0,.int .i64 0,.slice none 0 0,.slice none 0 0,.slice none 0 0,.int .i64 0])/\E0 140 8/\i9 140 (.agg #[.int .i64 0,.int .i64 0,.int .i64 0,.int .i64 0,.slice none 0 0,.slice none 0 0,.slice none 0 0,.int .i64 0])/\E0 144 1/\E1 144 24/\i9 144 (.slice none 0 0)/\i9 146 .nilFunc/\i9 164 (.pointer none)/\E0 178 1/\i9 178 .nilFunc/\E0 180 9/\i9 180 (.agg #[.int .i64 0,.int .i64 0,.slice none 0 0,.int .i64 0,.int .i64 0,.int .i64 0,.int .i64 0,.int .i64 0,.int .i64 0])/\i9 183 .nilFunc/\i9 189 .nilFunc/\E0 197 2/\E1 197 16/\i9 197 (.agg #[.int .i64 0,.int .i64 0])/\i9 205 (.agg #[.int .u64 0])/\i9 208 (.agg #[.int .i64 0,.int .i64 0,.int .i64 0,.int .i64 0,.slice none 0 0,.slice none 0 0,.slice none 0 0,.slice none 0 0,.slice none 0 0])/\i9 218 .nilFunc/\i9 222 .nilFunc/\E0 225 1/\E2 225/\E0 227 2/\i9 227 (.agg #[.nilFunc,.int .i64 0])/\i9 228 (.agg #[.int .i64 0,.int .i64 0,.int .i64 0,.int .i64 0,.slice none 0 0,.slice none 0 0,.slice none 0 0])/\i9 229 (.agg #[.int .i64 0,.int .i64 0,.int .i64 0,.int .i64 0,.slice none 0 0,.slice none 0 0,.slice none 0 0]):=⟨E3,E3,E3,E3,E3,E3,E3,E3,E3,E3,E3,E3,E3,E3,E3,E3,E3,E3,E3,E3,E3,E3,E3,E3,E3,E3,E3,E3,E3,E3,E3,E3,E3,E3,E3,E3,E3,E3,E3,E3⟩
@[simp] theorem ZCC:E0 236 2/\i9 236 (.agg #[.slice none 0 0,.bool false])/\i9 243 (.agg #[.int .i64 0,.int .i64 0,.int .i64 0,.int .i64 0,.slice none 0 0,.slice none 0 0,.slice none 0 0])/\E0 252 1/\E2 252/\E0 253 1/\E2 253/\i9 255 (.agg #[.int .i64 0,.int .i64 0,.int .i64 0,.int .i64 0,.slice none 0 0,.slice none 0 0,.slice none 0 0,.int .i64 0,.slice none 0 0,.slice none 0 0,.slice none 0 0])/\i9 265 (.agg #[.int .i64 0,.int .i64 0,.int .i64 0,.int .i64 0,.slice none 0 0,.slice none 0 0,.slice none 0 0,.int .i64 0,.int .i64 0,.int .i64 0,.int .i64 0])/\E0 325 3/\Wp prog 325=true/\i9 325 (.agg #[.bool false,.int .i64 0,.int .i64 0])/\E0 340 5/\i9 340 (.agg #[.int .i64 0,.int .i64 0,.int .i64 0,.int .i64 0,.int .i64 0])/\E2 340/\E0 353 1/\i9 353 .nilFunc/\E0 355 1/\i9 355 .nilFunc/\E0 359 1/\i9 359 (.slice none 0 0)/\E0 364 1/\i9 364 (.pointer none)/\E0 370 4/\i9 370 (.agg #[.int .i64 0,.int .i64 0,.int .i64 0,.bool false])/\E2 370/\E0 372 20/\i9 372 (.agg #[.int .i64 0,.int .i64 0,.int .i64 0,.bool false,.int .i64 0,.int .i64 0,.int .i64 0,.bool false,.int .i64 0,.int .i64 0,.int .i64 0,.bool false,.int .i64 0,.int .i64 0,.int .i64 0,.bool false,.int .i64 0,.int .i64 0,.int .i64 0,.bool false])/\E0 378 1/\i9 378 (.pointer none)/\E0 379 1/\E2 379/\E0 380 1/\E2 380/\i9 382 (.agg #[.int .i64 0,.int .i64 0,.int .i64 0,.int .i64 0,.slice none 0 0,.slice none 0 0,.slice none 0 0,.int .i64 0,.map none])/\E0 387 3/\E1 387 24/\i9 387 (.agg #[.int .i64 0,.int .i64 0,.int .i64 0])/\E0 390 13/\i9 390 (.agg #[.int .i64 0,.int .i64 0,.int .i64 0,.int .i64 0,.slice none 0 0,.slice none 0 0,.slice none 0 0,.slice none 0 0,.bool false,.slice none 0 0,.int .i64 0,.slice none 0 0,.slice none 0 0]):=⟨E3,E3,E3,E3,E3,E3,E3,E3,E3,E3,E3,E3,E3,E3,E3,E3,E3,E3,E3,E3,E3,E3,E3,E3,E3,E3,E3,E3,E3,E3,E3,E3,E3,E3,E3,E3,E3,E3,E3,E3⟩
@[simp] theorem ZDg:E0 395 3/\i9 395 (.agg #[.int .i64 0,.int .i64 0,.int .i64 0])/\E0 401 1/\E2 401/\i9 403 (.agg #[.int .i64 0,.int .i64 0,.int .i64 0,.int .i64 0,.slice none 0 0,.slice none 0 0,.slice none 0 0,.slice none 0 0])/\E0 405 4/\E1 405 80/\i9 405 (.agg #[.slice none 0 0,.slice none 0 0,.slice none 0 0,.int .i64 0])/\E0 407 1/\E2 407/\E0 408 1/\E2 408/\E0 410 2/\i9 410 (.agg #[.nilFunc,.nilFunc])/\E2 410/\E0 411 8/\i9 411 (.agg #[.nilFunc,.nilFunc,.nilFunc,.nilFunc,.nilFunc,.nilFunc,.nilFunc,.nilFunc])/\E0 415 7/\i9 415 (.agg #[.int .i64 0,.int .i64 0,.int .i64 0,.int .i64 0,.int .i64 0,.int .i64 0,.int .i64 0])/\E0 424 1/\E1 424 24/\i9 424 (.slice none 0 0)/\E0 436 1/\E2 436/\E0 438 2/\i9 438 (.agg #[.slice none 0 0,.map none])/\E2 438/\i9 440 (.agg #[.slice none 0 0,.map none])/\E0 444 2/\E1 444 16/\i9 444 (.agg #[.int .i64 0,.int .i64 0]):=⟨E3,E3,E3,E3,E3,E3,E3,E3,E3,E3,E3,E3,E3,E3,E3,E3,E3,E3,E3,E3,E3,E3,E3,E3,E3,E3,E3,E3,E3,E3,E3⟩
@[simp] theorem z3:Program.zeroOf prog 3=some (.int .i64 0):=ED
@[simp] theorem fR:prog.cellsOf 101=2:=ED
@[simp] theorem nk:Program.bytesOf' prog 101=some 16:=ED
@[simp] theorem nm:Program.zeroOf prog 101=some (.agg #[(.int .i64 0),(.int .i64 0)]):=ED
@[simp] theorem fS:(prog.info? 101).isSome=true:=ED
attribute [simp] underlying0 underlying1 underlying3 underlying4 underlying5 underlying9 underlying20 underlying21 underlying22 underlying23 underlying25 underlying26 underlying29 underlying31 underlying33 underlying38 underlying45 underlying48 underlying49 underlying52 underlying57 underlying59 underlying65 underlying68 underlying71 underlying72 underlying73 underlying76 underlying77 underlying79 underlying81 underlying82 underlying94 underlying96 underlying97 underlying99 underlying101 underlying102 underlying111 underlying113 underlying119 underlying124 underlying126 underlying129 underlying130 underlying132 underlying133 underlying140 underlying144 underlying164 underlying175 underlying178 underlying180 underlying190 underlying194 underlying197 underlying205 underlying208 underlying219 underlying223 underlying225 underlying227 underlying229 underlying236 underlying243 underlying248 underlying252 underlying253 underlying255 underlying265 underlying266 underlying289 underlying292 underlying293 underlying300 underlying303 underlying305 underlying316 underlying325 underlying326 underlying340 underlying344 underlying346 underlying347 underlying348 underlying353 underlying355 underlying359 underlying364 underlying370 underlying372 underlying378 underlying379 underlying380 underlying382 underlying387 underlying390 underlying395 underlying401 underlying403 underlying405 underlying407 underlying408 underlying410 underlying411 underlying415 underlying422 underlying424 underlying436 underlying438 underlying440 underlying442 underlying444
def Lb:qS prog 151:=qL func151 ED rfl
def Lc:qS prog 152:=qL func152 ED rfl
def Ld:qS prog 194:=qL func194 ED rfl
def Le:qS prog 223:=qL func223 ED rfl
def Lf:qS prog 339:=qL func339 ED rfl
def Lg:qS prog 340:=qL func340 ED rfl
def Lh:qS prog 358:=qL func358 ED rfl
def Li:qS prog 359:=qL func359 ED rfl
def Lj:qS prog 360:=qL func360 ED rfl
def nn:qS prog 368:=qL func368 ED rfl
def Lk:qS prog 369:=qL func369 ED rfl
def Ll:qS prog 371:=qL func371 ED rfl
def np:qS prog 404:=qL func404 ED rfl
def fT:qS prog 405:=qL func405 ED rfl
def Lm:qS prog 406:=qL func406 ED rfl
def Lo:qS prog 407:=qL func407 ED rfl
def fU:qS prog 408:=qL func408 ED rfl
def yU(n i:Nat):Nat:=n/2^i%2
def jP(n:Nat):List Int:=(List.range 64).map λi=>((yU n i:Nat):Int)
def wE:List Int->Int
 |[]=>0
 |b::l=>2*wE l+b
def WH(n:Nat):(jP n).length=64:=by simp[jP]
theorem cE(n i:Nat):yU n i<=1:=by unfold yU;omega
def fV(n:Nat):∀b∈jP n,b=0\/b=1:=by intro b hb;simp only[jP,Aj]at hb;obtain⟨i,_,rfl⟩:=hb;have:=cE n i;omega
def fW(l:List Int)(h:∀b∈l,b=0\/b=1):0<=wE l/\wE l<2^l.length:=by
 induction l with
 |nil=>simp[wE]
 |cons b l a =>
 obtain⟨h1,h2⟩:=a (λc hc=>h c (by simp[hc]));have:=h b EB;simp only[wE,Ab,En];omega
def cF(l:List Int)(k:Nat)(v:Int)(h:k<l.length):yl (l.flatMap Enc.enc) k [I v]=(l.set k v).flatMap Enc.enc:=by
 have e:∀l:List Int,l.flatMap Enc.enc=l.map I:=λl=>by induction l<;>simp_all
 rw[e,e,yl,List.map_set,AK,if_pos (by simpa using h)];simp
def fX(n:Nat):qw n (.int .i64 0)=(List.replicate n (0:Int)).flatMap Enc.enc:=by
 induction n with
 |zero=>simp
 |succ n a=>rw[Jw,a,Br];simp[jW,Value.cells]
def uO(n k:Nat):List Int:=(List.range 64).map λi=>if i<k then ((yU n i:Nat):Int) else 0
def Lp(n:Nat):uO n 0=List.replicate 64 0:=by apply Bi;simp[uO];intro i h1 h2;simp only[D0];simp[uO]
def Lq(n k:Nat)(h:64<=k):uO n k=jP n:=by apply Bi;simp[uO,jP];intro i h1 h2;simp[uO]at h1;simp[uO,jP,show i<k by omega]
def Lr(n k:Nat)(h:k<64):(uO n k).set k ((yU n k:Nat):Int)=uO n (k+1):=by apply Bi;simp[uO];intro i h1 h2;rw[Do];simp only[uO,CH,CJ];split;rename_i e;subst e;simp;rename_i e;by_cases q:i<k;rw[if_pos q,if_pos EA];rw[if_neg q,if_neg EA]
def Ls(n k:Nat):(uO n k).length=64:=by simp[uO]
abbrev SP:=@Spec prog
def nq(n:Nat)(hn:n<2^64)(S:Store)(nx:Nat)(d:yd nx S):SP 59 [U n] S (λp S'=>∃v,p=.sl nx v 1 0 64/\S'=S.set nx (.cells v 3 ((jP n).flatMap Enc.enc))):=by
 refine Z7 d func59 ntmps59 results59 ?_;refine EK ?_;refine EK ?_;intro v0;repeat apply za
 refine zb ?_;refine zj (zC (λs:Nat × Nat=>s.1<=64) (λ(k,v)=>[(0,U (n/2^k)),(3,.sl nx v 1 0 64),(4,I k)]) (λ(k,v)=>[.cells v 3 ((uO n k).flatMap Enc.enc)]) (λs=>64-s.1) (0,v0) [] EB EB (by simp[Lp,fX]) ?_);rintro⟨k,v⟩ h;simp only at h ⊢;repeat apply za
 refine zb ?_;refine zv rfl (λhc=>?_) (λhc=>?_);simp at hc;have a:k<64:=EA;have hl:=Ls n k;have hm:n/2^k<18446744073709551616:=Nat.lt_of_le_of_lt (Nat.div_le_self _ _) hn;generalize b:n/2^k=m at *;have e:(m:Int).tmod 2=(m:Int)%2:=AY EA;have f:IntKind.i64.wrap ((m:Int)%2)=(m:Int)%2:=wr _ EA EA;have t3:IntKind.u64.wrap ((m:Int)/2)=(m:Int)/2:=IntWalk.u64_in _ EA;have g:(m:Int).tdiv 2=(m:Int)/2:=Bx EA;have t4:m%2=yU n k:=by unfold yU;rw[b]
 have t5:m/2=n/2^(k+1):=by rw[<-b,Nat.div_div_eq_div_mul,D5]
 have i:(m:Int)/2=(n:Int)/2^(k+1):=by exact_mod_cast t5
 have l:(m:Int)%2=(yU n k:Nat):=by exact_mod_cast t4
 have hs:=cF (uO n k) k ((m:Int)%2) EA;refine zh (aA (aF [] (yx hc e f hs hl) ?_));refine⟨by omega,?_⟩;refine ze [] (zn t3 g) ?_;refine zb ?_;exact zr (k+1,v) [] a EF (by simp[zu k EA,i,g,t3]) rfl (by simp[<-Lr n k a,<-l,e,f,hs]);simp at hc;have c:k=64:=EA;subst c;refine zx (EK ?_);refine zg ⟨_,_,rfl,⟨v,rfl,rfl⟩,Xv (j:=0) d (by simp[Lq n 64])⟩
abbrev PP:=Pure prog
def nr(n:Nat)(hn:n<2^64):PP 59 [U n] (L (jP n)):=by have:=cy 0 (λS nx a=>nq n hn S nx a) (by simp[WH]);rw[<-WH n]at this;exact this
def Lt(l:List Int)(hl:l.length=64)(a:∀b∈l,b=0\/b=1):PP 95 [L l] (.sc (.int .u64 (wE l))):=by
 refine zt func95 ntmps95 results95 λS nx e=>?_;refine EK ?_;refine EK ?_;repeat apply za
 refine zb ?_;refine zj (zC (λm:Nat=>m<=64) (λm=>[(0,L l),(3,.sc (.int .u64 (wE (l.drop m)))),(4,I ((m:Int)-1))]) (λ_=>[]) (λm=>m) 64 [] EB (by simp[AT (Cw hl),wE]) EB ?_);rintro m hm;repeat apply za
 refine zb ?_;refine zv rfl (λhc=>?_) (λhc=>?_)
 .simp at hc;obtain⟨j,rfl⟩:∃j,m=j+1:=⟨m-1,by omega⟩;obtain⟨b,tl,f,g,a3,h⟩:=zF rfl l j EA;have hb:=a b (Aa f);have q:=fW (l.drop (j+1)) (λc hc=>a c (BS hc));have p:(2:Int)^(l.drop (j+1)).length<=9223372036854775808:=by
   have:(l.drop (j+1)).length<=63:=EF
   calc (2:Int)^(l.drop (j+1)).length<=2^63:=by exact_mod_cast BL EH this
    _=9223372036854775808:=EH
  have g1:(j:Int)<l.length:=EA;have i:IntKind.u64.wrap (2*wE (l.drop (j+1)))=2*wE (l.drop (j+1)):=IntWalk.u64_in _ EA;have k:IntKind.u64.wrap b=b:=IntWalk.u64_in _ EA;have n:IntKind.u64.wrap (2*wE (l.drop (j+1))+b)=wE (l.drop j):=by rw[IntWalk.u64_in _ EA,g];rfl
  have s1:((j:Int)+1-1)=j:=EA;refine zh (aA (ze [] (zU h g1 i k n s1) ?_));refine zb ?_;have o:IntKind.i64.wrap ((j:Int)-1)=(j:Int)-1:=wr _ EA EA;exact zr j [] EA EA (by simp[s1,o]) rfl EB
 simp at hc;have d:m=0:=EA;subst d;refine zx (EK ?_);exact zg (zi e rfl rfl)
def nt(n d:Nat)(h:d<64):(jP n)[d]?=some ((yU n d:Nat):Int):=by simp[jP,h]
def Lu(n:Nat)(d:Int)(hn:n<2^64)(h0:0<=d)(h1:d<=63):PP 57 [U n,I d] (B (decide (yU n d.toNat=1))):=by
 obtain⟨k,rfl⟩:=Au h0;have c:k<64:=EA;have hl:=WH n;obtain⟨b,tl,a,g,a3,e⟩:=zF rfl (jP n) k EA;rw[nt n k c]at a;cases a;have g1:(k:Int)<64:=EA;have g3:¬(63:Int)<k:=EA;refine zt func57 ntmps57 results57 λS nx f=>?_;refine EK ?_;repeat apply za
 refine ze [(2,8)] g3 ?_;refine zk rfl (zh (EK ?_));refine zq (nr n hn) ?_;refine aF [] (zD e g1 hl) ?_;exact zg (zi f rfl EF)
def VV(n d:Nat):Int:=wE ((jP n).set d 1)
variable {d:Nat}
def fY{l:List Int}{v b:Int}(h:b∈l.set d v):b∈l\/b=v:=by obtain h|h:=BH h;exact .inl h;exact .inr h
def Lv(n:Nat)(d:Int)(hn:n<2^64)(h0:0<=d)(h1:d<=63):PP 58 [U n,I d,I 1] (.sc (.int .u64 (VV n d.toNat))):=by
 obtain⟨k,rfl⟩:=Au h0;have g:k<64:=EA;have hl:=WH n;have g1:(k:Int)<64:=EA;have g3:¬(63:Int)<k:=EA;have hs:=cF (jP n) k 1 EA;refine zt func58 ntmps58 results58 λS nx f=>?_;refine EK ?_;repeat apply za
 refine ze [(2,10)] g3 ?_;refine zk rfl (zh (EK ?_));refine λc=>((nq n hn _ _ xM).mono ?_).v;rintro _ _ ⟨v,rfl,rfl⟩;refine⟨_,_,jE _,zO c ?_⟩;refine aF [] (zD g1 hs hl) ?_;refine⟨by omega,?_⟩;refine zY 0 rfl ?_;have e:((jP n).set k 1).length=64:=by simp[hl]
 have a:=Lt ((jP n).set k 1) e (λb hb=>by obtain h|h:=fY hb;exact fV n b h;exact .inr h);have this:PP 95 [.lst 64 (((jP n).set k 1).flatMap Enc.enc)] (.sc (.int .u64 (wE ((jP n).set k 1)))):=by rw[show (64:Nat)=((jP n).set k 1).length from e.symm];exact a
 refine aF [] hl ?_;refine zq this ?_;exact zg (zi f rfl rfl)
def yM(n lo hi:Int):Int:=lo+(if n<0 then -(n+1) else n)%(hi-lo+1)
def wF(n lo hi:Int)(h:lo<=hi):lo<=yM n lo hi/\yM n lo hi<=hi:=by unfold yM;have a:=D6 (if n<0 then -(n+1) else n) (show hi-lo+1≠0 by omega);have b:=DD (if n<0 then -(n+1) else n) (show 0<hi-lo+1 by omega);omega
def Yx(n lo hi:Int)(hn:zL n)(h0:0<=lo)(h1:lo<=hi)(h2:hi<=4294967296):PP 25 [I n,I lo,I hi] (I (yM n lo hi)):=by
 have j:=wF n lo hi h1;have c:IntKind.i64.wrap (hi-lo)=hi-lo:=wr _ EA EA;have w2:IntKind.i64.wrap (hi-lo+1)=hi-lo+1:=wr _ EA EA;have w0:¬hi-lo+1=0:=EA;have d:IntKind.i64.wrap (yM n lo hi)=yM n lo hi:=wr _ EA EA;unfold zL at hn;refine zt func25 ntmps25 results25 λS nx f=>?_;refine EK ?_;repeat apply za
 refine zb ?_;by_cases h:n<0;have g:IntKind.i64.wrap (n+1)=n+1:=wr _ EA EA;have i:IntKind.i64.wrap (-(n+1))=-(n+1):=wr _ EA EA;have a:(-(n+1)).tmod (hi-lo+1)=(-(n+1))%(hi-lo+1):=AY EA;have b:lo+(-(n+1))%(hi-lo+1)=yM n lo hi:=by unfold yM;rw[if_pos h]
 refine zm (by simp[h]) ?_;have e:-(n+1)=-1+-n:=EA;refine ze [] (zn g i) ?_;refine aF [] (zU c w2 w0 a b d) ?_;exact zg (zi f rfl rfl);have a:n.tmod (hi-lo+1)=n%(hi-lo+1):=AY EA;have b:lo+n%(hi-lo+1)=yM n lo hi:=by unfold yM;rw[if_neg h]
 refine zk (by simp[h]) ?_;refine zh (aF [] (zU c w2 w0 a b d) ?_);exact zg (zi f rfl rfl)
def WI(n d:Nat):Nat:=(VV n d).toNat
def nu(n d:Nat):VV n d=((WI n d:Nat):Int)/\WI n d<2^64:=by have h:=fW ((jP n).set d 1) (λb hb=>by obtain h|h:=fY hb;exact fV n b h;exact .inr h);rw[BP,WH]at h;unfold WI VV;omega
def x7(p:Nat):Nat->Nat
 |0=>0
 |k+1=>if yU p k=1 then WI (x7 p k) k else x7 p k
theorem cG(p:Nat):∀k,x7 p k<2^64
 |0=>by simp[x7]
 |k+1=>by unfold x7;split;exact(nu _ _).2;exact cG p k
def Yy(pats:List Nat)(days:Int):List Nat :=
 if pats=[] then [1] else (pats.take 4).map λp=>x7 p days.toNat
def xn(c:Cust)(days:Int):Cust :=
 if c.kind.tmod 2=0 then ⟨2,0,[],yM c.D 0 9,yM c.size 1 30,yM c.H 0 (yM c.size 1 30),yM c.Y 1 2,yM c.U 0 4⟩
 else ⟨1,yM c.R 1 15,Yy c.J days,0,0,0,0,0⟩
structure CustOk (c:Cust):Prop where
 kind:zL c.kind
 R:zL c.R
 J:∀p∈c.J,p<2^64
 npats:c.J.length<=9223372036854775807
 D:zL c.D
 size:zL c.size
 H:zL c.H
 Y:zL c.Y
 U:zL c.U
variable {α β:Type}{k:Nat}
def nv(f:α->β){l:List α}{a:α}(b:l.take (k+1)=l.take k++[a]):(l.take (k+1)).map f=(l.take k).map f++[f a]:=by rw[b];simp
abbrev R0:=Row.pures [17,18,19,20,21,22] (.alt 23 (.done) .stop)
abbrev R3:=Row.pures [0,1,2,3,4,5,6,7,8,9,10,11,12,13,14,15] .done
abbrev R4:=Row.pures [0,1,2,3,5,6,7,8] (.alt 4 (.alt 9 (Row.pures [10,11,12,13] (.alt 14 (.done) .stop)) .stop) (.alt 9 (.alt 4 (Row.pures [10,11,12,13] (.alt 14 (.done) .stop)) .stop) .stop))
abbrev R5:=Row.pures [0,2,3] (.alt 1 (.alt 4 (Row.pures [5,6] (.alt 7 (Row.pures [8] (.alt 9 (.done) .stop)) .stop)) .stop) (.alt 4 (Row.pures [5,6] (.alt 1 (.alt 7 (Row.pures [8] (.alt 9 (.done) .stop)) .stop) .stop)) .stop))
abbrev R6:=Row.pures [0,1,2,3,4,6,7] (.alt 5 (.alt 8 (Row.pures [9,10,11] (.alt 12 (.done) .stop)) .stop) .stop)
abbrev R7:=Row.pures [0,1,2,3,4,5,6,7,8,9,10,11,12,13,14] .done
abbrev R8:=Row.pures [0,1,2,3,4,5,6,7,8,9,10,11,12,13] .done
abbrev R9:=Row.pures [15,16,17,18,19,20,21] (.alt 22 (.done) .stop)
abbrev Ra:=Row.pures [0,1,2,3,4,5,6,7,8,9,10,11,12,13,14,15,16,17,18,19] .done
abbrev Rb:=Row.pures [13,14,15,16,17,18] (.alt 19 (.done) .stop)
abbrev Rc:=Row.pures [0,1,2,3,4,5,6,7,8,9,10,11,12,13,14,15,16,17,18,19,20,21,22,23] .done
abbrev Re:=Row.pures [12] (.alt 13 (.done) .stop)
abbrev Rf:=Row.pures [0,1,2,3,4,5,6,7,8,9] .done
abbrev Rg:=Row.pures [0,1,2,3,4,5,6,7,8] .done
abbrev Rh:=Row.pures [0,1,2,3,4,5,6,7,8,9,10] .done
abbrev Ri:=Row.pures [10,11,12,13] (.alt 14 (.done) .stop)
abbrev Rj:=Row.pures [0,1,2,3,4,5,6,7,8,9,10,11,12,13,14,15,16,17,18,19,20] .done
abbrev Rk:=Row.pures [0,1,2,3,4,5,6,7,8,9,10,11] .done
abbrev Rl:=Row.pures [8] (.alt 9 (.done) .stop)
abbrev Rm:=Row.pures [10] (.alt 9 (.alt 11 (Row.pures [12] (.alt 13 (.done) .stop)) .stop) .stop)
abbrev Rn:=Row.pures [0,1,2,3,4,5,6,7,8,9,10,11,12] (.alt 13 (.alt 14 (.done) .stop) .stop)
abbrev Ro:=Row.pures [0,1,2,3,4] (.alt 5 (Row.pures [6] .done) .stop)
abbrev Rp:=Row.pures [0,1,2,3,4,5,6,7,8,9,10,11,12] .done
abbrev Rq:=Row.pures [9,10] (.alt 11 (Row.pures [12] (.alt 13 (.done) .stop)) .stop)
abbrev Rr:=Row.pures [0,1,2,3,4,5,6] (.alt 7 (.done) .stop)
abbrev Rs:=Row.pures [0,1,2,3,4,5,6,7,8,9,10,11,12,13,14,15,16,17,18] .done
abbrev Rt:=Row.pures [0,1,2,3,5,6] (.alt 4 (.alt 7 (Row.pures [8,9] (.alt 10 (.done) .stop)) .stop) .stop)
abbrev Ru:=Row.pures [0,1,2,3,4,5,6,7,8,9,10,11,12,13,14,15,16,17] (.alt 18 (.alt 19 (.done) .stop) .stop)
abbrev Rv:=Row.pures [0,1,2,3,4,5,6,7,8,10,11] (.alt 9 (Row.pures [12,13] (.alt 14 (.done) .stop)) .stop)
abbrev Rw:=Row.pures [0,2,3,4,5,6] (.alt 1 (.alt 7 (Row.pures [8] (.alt 9 (.done) .stop)) .stop) .stop)
abbrev Rx:=Row.pures [0,1,2,3,4,5,6,8,9,10,11] (.alt 7 (.alt 12 (Row.pures [13,14] .done) .stop) .stop)
abbrev Ry:=Row.pures [0,1,2,3,4,5,6,7,8,9,10,11] (.alt 12 (.alt 13 (Row.pures [14] .done) .stop) .stop)
abbrev Rz:=Row.pures [0,1,2,3,4,5,6,7,8,9,10,11,12,13,14,15,16,17,18,19,20,21,22,23,24,25,26,27] .done
abbrev RA:=Row.pures [0,1,2,3,4,5,6,7,8,9,10,11,12,13,14,15,16] .done
abbrev RB:=Row.pures [9,10] (.alt 1 (.alt 11 (Row.pures [12] (.alt 13 (.done) .stop)) .stop) .stop)
abbrev RC:=Row.pures [0,2,3,4] (.alt 1 (.alt 5 (Row.pures [6] (.alt 7 (.done) .stop)) .stop) .stop)
abbrev RD:=Row.pures [9,10,11] (.alt 12 (.done) .stop)
abbrev RE:=Row.pures [0,1,2,3,4,5,6,7] .done
abbrev RF:=Row.pures [5,6] (.alt 1 (.alt 7 (Row.pures [8] (.alt 9 (.done) .stop)) .stop) .stop)
abbrev RG:=Row.pures [0,1,2,3,4,5,6,7,8,9,10,11,12,13,14,15,16,17,18,19,20,21,22,23,24] .done
abbrev RH:=Row.pures [24] (.alt 25 (Row.pures [26] (.alt 27 (.done) .stop)) .stop)
abbrev RI:=Row.pures [12] (.alt 13 (Row.pures [14] (.alt 15 (.done) .stop)) .stop)
abbrev RJ:=Row.pures [5,6] (.alt 7 (Row.pures [8] (.alt 9 (.done) .stop)) .stop)
abbrev RK:=Row.pures [0,1,2,3,4,5,6,7,8,9,10,11,12] (.alt 13 (.done) .stop)
abbrev RL:=Row.pures [0,1,2,3,4,5,6] .done
abbrev RM:=Row.pures [0,1,2,3,4,5,6,7] (.alt 8 (Row.pures [9] .done) .stop)
abbrev RN:=Row.pures [6] .done
abbrev RO:=Row.pures [0,1,2,3,4,5,6,7,8,9,10,11,12,13,14,15,16,17] .done
abbrev RP:=Row.pures [14] (.alt 15 (.done) .stop)
abbrev RQ:=Row.pures [0,1,2,3] (.alt 4 (Row.pures [5] .done) .stop)
abbrev RR:=Row.pures [0,1,2,3,4] .done
abbrev RS:=Row.pures [10,11] (.alt 12 (.done) .stop)
abbrev RT:=Row.pures [12,13] (.alt 14 (.done) .stop)
abbrev RU:=Row.pures [13,14] (.alt 15 (.done) .stop)
abbrev RV:=Row.pures [8,9] (.alt 10 (.done) .stop)
abbrev RW:=Row.pures [26] (.alt 27 (.done) .stop)
abbrev RX:=Row.pures [5,6] (.alt 7 (.done) .stop)
abbrev RY:=Row.pures [6] (.alt 7 (.done) .stop)
abbrev RZ:=Row.pures [4] (.alt 5 (.done) .stop)
abbrev U0:=Row.pures [14] .done
abbrev U1:=Row.pures [9] .done
abbrev U2:=Row.pures [0,1,2,3] .done
abbrev U3:=Row.pures [13,14] .done
abbrev U4:=Row.pures [5,6] .done
abbrev U5:=Row.pures [5] .done
abbrev U6:=Row.pures [8] .done
abbrev U7:=Row.pures [4] .done
def Lw(c:Cust)(days:Int)(hc:CustOk c)(h0:0<=days)(h1:days<=63):PP 26 [.agg (yh c),I days] (.agg (yh (xn c days))):=by
 obtain⟨n,rfl⟩:=Au h0;have hs:=wF c.size 1 30 EA;refine zt func26 ntmps26 results26 λS nx t=>?_;refine EK ?_;intro v0 v1;repeat apply za
 refine zb ?_;by_cases e:c.kind.tmod 2=0;refine zm (by simp[e]) ?_;refine aG (some [nx]) Rn mixed trivial ?_;refine zJ (Yx _ _ _ hc.D EA EA EA) trivial ?_;refine zJ (Yx _ _ _ hc.size EA EA EA) trivial ?_;refine zJ (Yx _ _ _ hc.Y EA EA EA) trivial ?_;refine zJ (Yx _ _ _ hc.U EA EA EA) trivial ?_;intro a;refine EK ?_;refine zq (Yx _ _ _ hc.H EA EA EA) ?_;refine EK ?_;refine yn 1 2 rfl rfl ?_;exact zg (zi t EC (by simp[xn,e]));refine zk (by simp[e]) ?_;refine zh (EK ?_);refine zq (Yx _ _ _ hc.R EA EA EA) ?_;intro a;refine za (qy 2 2 65 1 rfl rfl λv3=>?_);refine EK ?_;have a0:=hc.npats;refine qT (nx:=nx) (σ:=Nat × Nat × Nat × Nat) (λ_=>True) (λ(v,v1,a,v3)=>[(4,.ptr (nx+1) v1 0),(6,.ptr (nx+2) a 0)]) (λ_=>S)
  (λ(v,v1,a,v3)=>[.cells v 59 (yh c),.cells v1 59 [I 0,I 0,.sc (.slice none 0 0),I 0,I 0,I 0,I 0,I 0],.cells a 59 [I 1,I (yM c.R 1 15),.sl (nx+3) v3 1 0 (c.J.take 4).length,I 0,I 0,I 0,I 0,I 0],.cells v3 65 (((c.J.take 4).map λp=>x7 p n).flatMap Enc.enc)]) ?_ ?_
 repeat apply za
 refine zj (zC (λs:Nat × List Nat × Nat × Nat × Nat × Nat=>s.1<=c.J.length/\s.1<=4/\s.2.1=(c.J.take s.1).map λp=>x7 p n) (λ(k,out,v,v1,a,v3)=>[(1,I n),(2,.ptr nx v 0),(4,.ptr (nx+1) v1 0),(6,.ptr (nx+2) a 0),(7,I k)])
  (λ(k,out,v,v1,a,v3)=>[.cells v 59 (yh c),.cells v1 59 [I 0,I 0,.sc (.slice none 0 0),I 0,I 0,I 0,I 0,I 0],.cells a 59 [I 1,I (yM c.R 1 15),.sl (nx+3) v3 1 0 out.length,I 0,I 0,I 0,I 0,I 0],.cells v3 65 (out.flatMap Enc.enc)])
  (λs=>4-s.1) (0,[],v0,v1,a,v3) [] EB EB EB ?_)
 rintro⟨k,out,v0,v1,a,v3⟩ ⟨u,w,ho⟩;simp only at u w ho ⊢;have a4:out.length=k:=by rw[ho];simp;omega
 have h:(k=c.J.length\/k=4)->out=(c.J.take 4).map λp=>x7 p n:=by rintro(q|q);rw[ho,Ae EA,Ae EA];rw[ho,q]
 have f:(k=c.J.length\/k=4)->out.length=(c.J.take 4).length:=λq=>by rw[h q];simp
 by_cases b:k<c.J.length;by_cases m:(k:Int)<4;repeat apply za
 refine ze [(5,43)] (zn b m) ?_;refine zm rfl ?_;obtain⟨p,tl,a1,a2,a3,e0⟩:=zF rfl c.J k b;have hp:=hc.J p (Aa a1);refine zh (aA (EK ?_));repeat apply za
 refine zb ?_;refine zj (zC (λs:Nat × Nat × Nat × Nat × Nat=>s.1<=n) (λ(d,v,v1,a,v3)=>[(1,I n),(2,.ptr nx v 0),(4,.ptr (nx+1) v1 0),(6,.ptr (nx+2) a 0),(7,I k),(8,U (x7 p d)),(9,I d)])
  (λ(d,v,v1,a,v3)=>[.cells v 59 (yh c),.cells v1 59 [I 0,I 0,.sc (.slice none 0 0),I 0,I 0,I 0,I 0,I 0],.cells a 59 [I 1,I (yM c.R 1 15),.sl (nx+3) v3 1 0 out.length,I 0,I 0,I 0,I 0,I 0],.cells v3 65 (out.flatMap Enc.enc)])
  (λs=>n-s.1) (0,v0,v1,a,v3) [] EB (by simp[x7]) EB ?_)
 rintro⟨d,v0,v1,a,v3⟩ x;simp only at x ⊢;repeat apply za
 refine zb ?_;refine zv rfl (λi=>?_) (λi=>?_);simp at i;refine zh (aA (aF [] (zn b e0) ?_));refine zq (Lu p d hp EA EA) ?_;refine zv rfl (λhb=>?_) (λhb=>?_);simp at hb;refine zb ?_;refine zq (Lv _ d (cG p d) EA EA) ?_;refine zb ?_;exact zr (d+1,v0,v1,a,v3) [] EF EF (by simp[zu d EA,x7,hb,(nu _ _).1]) rfl EB;simp at hb;refine zh (zb ?_);exact zr (d+1,v0,v1,a,v3) [] EF EF (by simp[zu d EA,x7,hb]) rfl EB;simp at i;have y:d=n:=EA;subst y;refine zx (zb ?_);refine⟨by omega,?_⟩;refine zb ?_;exact zr (k+1,out++[x7 p d],v0,v1,a,v3+1) [] (by simp[nv _ a3,ho];omega) EF (by simp[zu k EA]) rfl EB;repeat apply za
 refine ze [(5,43)] (zn b m) ?_;refine zk rfl ?_;have e:=h (.inr EA);have j:=f (.inr EA);exact zx (yb (v0,v1,a,v3) [] trivial EB rfl (by simp only[j];rw[<-e];simp));repeat apply za
 refine ze [(5,43)] (zn b zE) ?_;refine zk rfl ?_;have e:=h (.inl EA);have j:=f (.inl EA);exact zx (yb (v0,v1,a,v3) [] trivial EB rfl (by simp only[j];rw[<-e];simp));rintro⟨v0,v1,a,v3⟩ -;simp only;by_cases r:c.J=[];have z:xn c n=⟨1,yM c.R 1 15,[1],0,0,0,0,0⟩:=by simp[xn,e,Yy,r]
 rw[z,r];repeat apply za
 refine zb ?_;refine zm rfl (zb ?_);refine EK ?_;refine zY 3 rfl ?_;exact EL t;have z:xn c n=⟨1,yM c.R 1 15,(c.J.take 4).map λp=>x7 p n,0,0,0,0,0⟩:=by simp[xn,e,Yy,r]
 have g:((c.J.take 4).map λp=>x7 p n).length=(c.J.take 4).length:=EB;have l:¬(c.J.take 4).length=0:=by simp[r]
 rw[z,<-g];rw[<-g]at l;generalize (c.J.take 4).map (λp=>x7 p n)=out at *;have o:out≠[]:=by simpa using l
 repeat apply za
 refine ze [] (zn l o) ?_;refine zk rfl (zh (EK ?_));refine zY 3 rfl ?_;exact EL t
def arc(x:Inst)(a b:Int):Int:=if a<0\/b<0 then 0 else ((x.O.getD a.toNat []).getD b.toNat 0)
def cH(x:Inst)(a b:Int)(h:a<0\/b<0):arc x a b=0:=if_pos h
def nw(x:Inst)(a b:Int)(h:(x.O.length:Int)<=a):arc x a b=0:=by
 unfold arc;split;rfl;have:x.O.getD a.toNat []=[]:=by rw[List.getD_eq_getElem?_getD,Ao EA];rfl
 rw[this];rfl
variable {x:Inst}{a:Int}{row:List Int}
def ny(b:x.O[a.toNat]?=some row):x.O.getD a.toNat []=row:=by rw[List.getD_eq_getElem?_getD,b];rfl
def nz(x:Inst)(a b:Int)(c:x.O[a.toNat]?=some row)(h:(row.length:Int)<=b):arc x a b=0:=by unfold arc;split;rfl;rw[ny c,List.getD_eq_getElem?_getD,Ao EA];rfl
def nA(x:Inst)(a b:Int){d:Int}(e:0<=a)(hb:0<=b)(c:x.O[a.toNat]?=some row)(h:row[b.toNat]?=some d):arc x a b=d:=by unfold arc;rw[if_neg EA,ny c,List.getD_eq_getElem?_getD,h];rfl
def cI(x:Inst)(a b:Int):PP 27 [.agg (zB x),I a,I b] (I (arc x a b)):=by
 refine zt func27 ntmps27 results27 λS nx c=>?_;refine EK ?_;intros;by_cases e:a<0;repeat apply za
 refine ze [(2,10),(6,14)] (zn e zE) ?_;refine zm rfl (EK ?_);exact zg (zi c rfl (by rw[cH _ _ _ (.inl e)];rfl));by_cases hb:b<0;repeat apply za
 refine ze [(2,10),(6,14)] (zD e hb zE) ?_;refine zm rfl (EK ?_);exact zg (zi c rfl (by rw[cH _ _ _ (.inr hb)];rfl));by_cases hl:(x.O.length:Int)<=a;repeat apply za
 refine ze [(2,10),(6,14)] (zD e hb hl) ?_;refine zm rfl (EK ?_);exact zg (zi c rfl (by rw[nw _ _ _ hl];rfl));have h:a<x.O.length:=EA;have f:0<=a:=EA;obtain⟨row,tl,k,_,_,l⟩:=zF rfl x.O a.toNat EA;repeat apply za
 refine ze [(2,10),(6,14)] (zD e hb hl) ?_;refine zk rfl (zh (aF [(2,10),(6,14)] (zD f h l) ?_));by_cases i:(row.length:Int)<=b;repeat apply za
 refine ze [] i ?_;refine zm rfl (EK ?_);exact zg (zi c rfl (by rw[nz _ _ _ k i];rfl));have j:b<row.length:=EA;have g:0<=b:=EA;obtain⟨d,m,b1,_,_,n⟩:=zF rfl row b.toNat EA;repeat apply za
 refine ze [] i ?_;refine zk rfl (zh (aF [] (zD g j n) ?_));exact zg (zi c rfl (by rw[nA x a b f g k b1];rfl))
def un(x:Inst)(a b:Int):PP 215 [.agg (zB x),I a,I b] (I (arc x a b)):=by
 refine zt func215 ntmps215 results215 λS nx g=>?_;refine EK ?_;intros;by_cases f:a<0;repeat apply za
 refine ze [(2,9),(9,16),(13,20)] (zn f zE) ?_;refine zm rfl (EK ?_);exact zg (zi g rfl (by rw[cH _ _ _ (.inl f)];rfl));by_cases hl:(x.O.length:Int)<=a;repeat apply za
 refine ze [(2,9),(9,16),(13,20)] (zD f hl zE) ?_;refine zm rfl (EK ?_);exact zg (zi g rfl (by rw[nw _ _ _ hl];rfl));by_cases hb:b<0;repeat apply za
 refine ze [(2,9),(9,16),(13,20)] (zR f hb hl zE) ?_;refine zm rfl (EK ?_);exact zg (zi g rfl (by rw[cH _ _ _ (.inr hb)];rfl));have e:a<x.O.length:=EA;have c:0<=a:=EA;obtain⟨row,tl,l,_,_,i⟩:=zF rfl x.O a.toNat EA;by_cases j:(row.length:Int)<=b;repeat apply za
 refine ze [(2,9),(9,16),(13,20)] (zU f hb hl c e (zn i j)) ?_;refine zm rfl (EK ?_);exact zg (zi g rfl (by rw[nz _ _ _ l j];rfl));have k:b<row.length:=EA;have h:0<=b:=EA;obtain⟨d,m,b1,_,_,n⟩:=zF rfl row b.toNat EA;repeat apply za
 refine ze [(2,9),(9,16),(13,20)] (zU f hb hl c e (zn i j)) ?_;refine zk rfl (zh (aF [(2,9),(9,16),(13,20)] (zU c e i h k n) ?_));exact zg (zi g rfl (by rw[nA x a b c h l b1];rfl))
def jQ(x:Inst):Int->List Int->Int
 |a,[]=>arc x a 0
 |a,c::l=>arc x a (c+1)+jQ x (c+1) l
def yJ(x:Inst)(l:List Int):Int:=if l=[] then 0 else jQ x 0 l
def qA(c:Int):Prop:=-4611686018427387904<=c/\c<=4611686018427387904
def Yz{c:Int}(h:qA c):IntKind.i64.wrap (c+1)=c+1:=wr _ (by unfold qA at h;omega) (by unfold qA at h;omega)
def nB(x:Inst)(l:List Int)(hl:l.length<=1048576)(hs:∀c∈l,qA c):PP 163 [.agg (zB x),L l] (I (W (yJ x l))):=by
 refine zt func163 ntmps163 results163 λS nx e=>?_;refine EK ?_;intro v0;repeat apply za
 refine zb ?_;refine zv rfl (λhc=>?_) (λhc=>?_);simp at hc;subst hc;refine EK ?_;exact zg (zi e rfl rfl);refine zh ?_;simp at hc;refine EK ?_;repeat apply za
 refine zb ?_;refine zj (zC (λs:Nat × Int × Int × Nat=>s.1<=l.length/\s.2.1+jQ x s.2.2.1 (l.drop s.1)=jQ x 0 l) (λ(k,s,a,v)=>[(2,.ptr nx v 0),(5,I (W s)),(6,I a),(12,L l),(13,I l.length),(14,I k)])
  (λ(k,s,a,v)=>[.cells v 25 (zB x)]) (λs=>l.length-s.1) (0,0,0,v0) [] EB EB EB ?_)
 rintro⟨k,s,a,v⟩ ⟨f,ho⟩;simp only at f ho ⊢;refine EK ?_;refine za (zv rfl (λb=>?_) (λb=>?_));simp at b;obtain⟨c,tl,g,h,a3,i⟩:=zF rfl l k b;have d:=Yz (hs c (Aa g));rw[h]at ho;refine zh (aA (aF [] (zn b i) ?_));refine aF [] d ?_;refine yP [] (un _ _ _) d ?_;refine ze [] d ?_;refine zb ?_;exact zr (k+1,s+arc x a (c+1),c+1,v) [] (by simp only[jQ]at ho;exact⟨by omega,by rw[<-ho];simp;omega⟩) EF (by simp[zu k EA,uN,d]) rfl EB;simp at b;refine zx (EK ?_);refine zq (un _ _ _) ?_;rw[AT b]at ho;exact zg (zi e rfl (by simp only[yJ,if_neg hc,<-ho,jQ,zp];simp[uN]))
def Lx(x:Inst)(l:List Int)(hl:l.length<=1048576)(hs:∀c∈l,qA c):PP 88 [.agg (zB x),L l] (I (W (yJ x l))):=by
 refine zt func88 ntmps88 results88 λS nx t=>?_;refine EK ?_;intro v0;repeat apply za
 refine zb ?_;refine zv rfl (λhc=>?_) (λhc=>?_);simp at hc;subst hc;refine EK ?_;exact zg (zi t rfl rfl);refine zh ?_;simp at hc;cases l with
 |nil=>exact absurd rfl hc
 |cons c0 a =>
 have b:=Yz (hs c0 EB);obtain⟨cl,tl,m,a2,a3,i⟩:=zF rfl (c0::a) a.length EB;simp only[Ax,Kx,CK,List.cons_append,AI]at i;have d:(a.length:Int)<a.length+1:=EA;have e:=Yz (hs cl (Aa m));have wl:IntKind.i64.wrap (a.length:Int)=(a.length:Int):=wr _ EA (by simp at hl;omega);refine aG none RA mixed (yx b wl i e d) ?_;refine zJ (cI _ _ _) (yx b wl i e d) ?_;refine zJ (cI _ _ _) (yx b wl i e d) ?_;repeat apply za
 refine zb ?_;generalize f:c0::a=l at *;have u:l.length=a.length+1:=by rw[<-f];rfl
 have y:(PV.lst (a.length+1) (I c0::a.flatMap Enc.enc))=L l:=by rw[<-f];rfl
 refine zj (zC (λs:Nat × Int × Int × Nat=>s.1+1<=l.length/\l[s.1]?=some s.2.2.1/\s.2.1+jQ x (s.2.2.1+1) (l.drop (s.1+1))=jQ x 0 l+arc x (cl+1) 0) (λ(j,s,p,v)=>[(1,L l),(2,.ptr nx v 0),(5,I (W s)),(6,I ((j+1:Nat):Int))])
  (λ(j,s,p,v)=>[.cells v 25 (zB x)]) (λs=>l.length-s.1) (0,arc x 0 (c0+1)+arc x (cl+1) 0,c0,v0) [] (by rw[<-f];simp[jQ];omega) (by simp[y]) EB ?_)
 rintro⟨j,s,p,v⟩ ⟨z,k,ho⟩;simp only at z ho k ⊢;repeat apply za
 refine zb ?_;refine zv rfl (λn=>?_) (λn=>?_);simp at n;have o:j+1<l.length:=EA;obtain⟨c,a0,b1,b2,b3,e1⟩:=zF rfl l (j+1) o;obtain⟨p',a4,w,d2,d3,e2⟩:=zF rfl l j EA;rw[k]at w;cases w;have g:=Yz (hs c (Aa b1));have h:=Yz (hs p (Aa k));have wj:IntKind.i64.wrap (j:Int)=j:=wr _ EA EA;have g1:(j:Int)<l.length:=EA;have g2:(j:Int)+1<l.length:=EA;have g3:0<=(j:Int)+1:=EA;rw[b2]at ho;refine zh (aA (zA none R3 mixed (zU g h wj e1 e2 (zD g1 g2 g3)) ?_));refine zJ (cI _ _ _) (zn g h) ?_;have w2:IntKind.i64.wrap ((j:Int)+1+1)=((j+1+1:Nat):Int):=by rw[wr _ EA EA];omega
 refine zb ?_;exact zr (j+1,s+arc x (p+1) (c+1),c,v) [] (by simp only[jQ]at ho;exact⟨by omega,b1,by rw[<-ho];simp;omega⟩) EF (by simp[w2,uN]) rfl EB;simp at n;refine zx (EK ?_);rw[AT EA]at ho;have q:p=cl:=by have:j=a.length:=EA;subst this;rw[k]at m;cases m;rfl
 subst q;have r:s=jQ x 0 l:=by simp only[jQ]at ho;omega
 exact zg (zi t rfl (by simp[yJ,hc,r]))
def Zj(x:Inst)(n a:Nat):List Int:=(List.range (n+1)).map λb=>if a≠b then yM (arc x a b) 0 60 else 0
def yW(x:Inst):Inst :=
 ⟨yM x.days 1 7,yM x.X 0 5,yM x.Q 0 40,yM x.len 0 300,(x.y.take 6).map λc=>xn c (yM x.days 1 7),(List.range ((x.y.take 6).length+1)).map λa=>Zj x (x.y.take 6).length a⟩
structure InstOk (x:Inst):Prop where
 days:zL x.days
 X:zL x.X
 Q:zL x.Q
 len:zL x.len
 ag:x.y.length<=9223372036854775807
 y:∀c∈x.y,CustOk c
 ndist:x.O.length<=9223372036854775807
 O:∀r∈x.O,r.length<=9223372036854775807/\∀d∈r,zL d
def Ly(hx:InstOk x)(a b:Int):zL (arc x a b):=by
 unfold arc;split;unfold zL;omega;rw[List.getD_eq_getElem?_getD,List.getD_eq_getElem?_getD];cases e:x.O[a.toNat]? with
 |none=>simp[zL]
 |some r =>
 cases c:r[b.toNat]? with
 |none=>simp[c,zL]
 |some d =>
 simp only[Option.getD_some,c];exact(hx.O r (Aa e)).2 d (Aa c)
def wS(x:Inst)(n a k:Nat):List Int:=(List.range (n+1)).map λb=>if b<k then (if a≠b then yM (arc x a b) 0 60 else 0) else 0
def nC(x:Inst)(n a k:Nat):(wS x n a k).length=n+1:=by simp[wS]
def Lz(x:Inst)(n a:Nat):wS x n a 0=List.replicate (n+1) 0:=by apply Bi;simp[wS];intro i h1 h2;simp only[D0];simp[wS]
def nD(x:Inst)(n a:Nat):wS x n a (n+1)=Zj x n a:=by apply Bi;simp[wS,Zj];intro i h1 h2;simp[wS]at h1;simp[wS,Zj,h1]
def LA(x:Inst)(n a k:Nat)(h:k<=n)(b:a≠k):(wS x n a k).set k (yM (arc x a k) 0 60)=wS x n a (k+1):=by apply Bi;simp[wS];intro i h1 h2;rw[Do];simp only[wS,CH,CJ];split;rename_i e;subst e;simp[b];rename_i e;by_cases q:i<k;simp[q,show i<k+1 by omega];simp[q,show ¬i<k+1 by omega]
def LB(x:Inst)(n k:Nat):wS x n k k=wS x n k (k+1):=by apply Bi;simp[wS];intro i h1 h2;simp only[wS,CH,CJ];by_cases q:i<k;simp[q,show i<k+1 by omega];by_cases e:i=k;subst e;simp;simp[q,show ¬i<k+1 by omega]
abbrev cJ(x:Inst)(v0 v1 v2:Nat)(cs ds:PV):List Ob :=
 [.cells v0 25 (zB x),.cells v1 25 [I 0,I 0,I 0,I 0,.sc (.slice none 0 0),.sc (.slice none 0 0)],.cells v2 25 [I (yM x.days 1 7),I (yM x.X 0 5),I (yM x.Q 0 40),I (yM x.len 0 300),cs,ds]]
def LC(x:Inst)(hx:InstOk x):PP 5 [.agg (zB x)] (.agg (zB (yW x))):=by
 have a4:=wF x.days 1 7 EA;have a5:=hx.ag;refine zt func5 ntmps5 results5 λS nx hd=>?_;refine EK ?_;intro v0 v1;refine aG (some [nx]) Rn mixed trivial ?_;refine zJ (Yx _ _ _ hx.days EA EA EA) trivial ?_;refine zJ (Yx _ _ _ hx.X EA EA EA) trivial ?_;refine zJ (Yx _ _ _ hx.Q EA EA EA) trivial ?_;refine zJ (Yx _ _ _ hx.len EA EA EA) trivial ?_;intro d;refine za (qy 2 4 59 8 rfl rfl λv3=>?_);refine EK ?_;have m:yM x.days 1 7<=63:=EA;generalize e:yM x.days 1 7=dz at *;refine qT (nx:=nx) (σ:=Nat × Nat × Nat × Nat) (λ_=>True) (λ(v0,v1,d,v3)=>[(1,.ptr nx v0 0),(2,.ptr (nx+1) v1 0),(3,.ptr (nx+2) d 0)]) (λ_=>S)
  (λ(v0,v1,d,v3)=>cJ x v0 v1 d (.sl (nx+3) v3 8 0 ((x.y.take 6).map λc=>xn c dz).length) (.sc (.slice none 0 0))++[.cells v3 59 (((x.y.take 6).map λc=>xn c dz).flatMap Enc.enc)]) ?_ ?_
 .repeat apply za
  refine zj (zC (λs:Nat × List Cust × Nat × Nat × Nat × Nat=>s.1<=x.y.length/\s.1<=6/\s.2.1=(x.y.take s.1).map λc=>xn c dz) (λ(k,out,v0,v1,d,v3)=>[(1,.ptr nx v0 0),(2,.ptr (nx+1) v1 0),(3,.ptr (nx+2) d 0),(4,I k)])
   (λ(k,out,v0,v1,d,v3)=>cJ x v0 v1 d (.sl (nx+3) v3 8 0 out.length) (.sc (.slice none 0 0))++[.cells v3 59 (out.flatMap Enc.enc)]) (λs=>6-s.1) (0,[],v0,v1,d,v3) [] EB EB (by simp[e]) ?_)
  rintro⟨k,out,v0,v1,d,v3⟩ ⟨n,o,ho⟩;simp only at n o ho ⊢;have p:out.length=k:=by rw[ho];simp;omega
  have i:(k=x.y.length\/k=6)->out=(x.y.take 6).map λc=>xn c dz:=by rintro(q|q);rw[ho,Ae EA,Ae EA];rw[ho,q]
  by_cases f:k<x.y.length
  .by_cases j:(k:Int)<6
   .repeat apply za
    refine ze [(5,27)] (zn f j) ?_;refine zm rfl ?_;obtain⟨c,tl,a1,a2,a3,e1,e0⟩:=el 8 rfl x.y k f;have hc:=hx.y c (Aa a1);refine zh (aA (zA (some [nx]) (Row.pures [0,2,3,4,5,6,7] (.alt 1 (.alt 8 Rq .stop) (.alt 8 RB .stop))) mixed (zD f e0 e) ?_));have w1:=zu k EA;refine⟨?_,?_⟩;all_goals
     refine zJ (Lw c dz hc EA m) trivial ?_;refine⟨by omega,?_⟩;refine zb ?_;exact zr (k+1,out++[xn c dz],v0,v1,d,v3+1) [] (by simp[nv _ a3,ho];omega) EF (by simp[w1]) rfl (by simp[e])
   repeat apply za
   refine ze [(5,27)] (zn f j) ?_;refine zk rfl ?_;have r:=i (.inr EA);exact zx (yb (v0,v1,d,v3) [] trivial EB rfl (by simp only[<-r];simp))
  repeat apply za
  refine ze [(5,27)] (zn f zE) ?_;refine zk rfl ?_;have r:=i (.inl EA);exact zx (yb (v0,v1,d,v3) [] trivial EB rfl (by simp only[<-r];simp))
 rintro⟨v0,v1,d,v3⟩ -;simp only;have hg:yW x=⟨dz,yM x.X 0 5,yM x.Q 0 40,yM x.len 0 300,(x.y.take 6).map λc=>xn c dz,(List.range ((x.y.take 6).length+1)).map λa=>Zj x (x.y.take 6).length a⟩:=by unfold yW;rw[e]
 have t:((x.y.take 6).map λc=>xn c dz).length=(x.y.take 6).length:=EB;have u:(x.y.take 6).length<=6:=EF;rw[hg];rw[<-t]at u ⊢;generalize (x.y.take 6).map (λc=>xn c dz)=cs at *;refine EK ?_;refine za (qy 2 5 26 1 rfl rfl λv4=>?_);refine EK ?_;have w0:IntKind.i64.wrap ((cs.length:Int)+1)=((cs.length+1:Nat):Int):=zu _ EA;refine zj (zC (λs:Nat × List (List Int) × Nat × Nat × Nat × Nat × Nat=>s.1<=cs.length+1/\s.2.1=(List.range s.1).map λa=>Zj x cs.length a) (λ(a,out,v0,v1,d,v3,v4)=>[(1,.ptr nx v0 0),(2,.ptr (nx+1) v1 0),(3,.ptr (nx+2) d 0),(5,I cs.length),(6,I a)])
  (λ(a,out,v0,v1,d,v3,v4)=>cJ x v0 v1 d (.sl (nx+3) v3 8 0 cs.length) (.sl (nx+4) v4 1 0 out.length)++[.cells v3 59 (cs.flatMap Enc.enc),.cells v4 26 (out.flatMap Enc.enc)]) (λs=>cs.length+1-s.1) (0,[],v0,v1,d,v3,v4) [] EB EB (by simp[e]) ?_)
 rintro⟨a,out,v0,v1,d,v3,v4⟩ ⟨ha,ho⟩;simp only at ha ho ⊢;have p:out.length=a:=by rw[ho];simp
 repeat apply za
 refine zb ?_;refine zv rfl (λhc=>?_) (λhc=>?_);simp at hc;refine zh (aA (aF [] w0 ?_));refine⟨by omega,λv5=>?_⟩;repeat apply za
 refine zb ?_;refine zj (zC (λs:Nat × Nat × Nat × Nat × Nat × Nat × Nat=>s.1<=cs.length+1) (λ(b,v0,v1,d,v3,v4,v5)=>[(1,.ptr nx v0 0),(2,.ptr (nx+1) v1 0),(3,.ptr (nx+2) d 0),(5,I cs.length),(6,I a),(7,.sl (nx+5) v5 1 0 (cs.length+1)),(8,I b)])
  (λ(b,v0,v1,d,v3,v4,v5)=>cJ x v0 v1 d (.sl (nx+3) v3 8 0 cs.length) (.sl (nx+4) v4 1 0 out.length)++[.cells v3 59 (cs.flatMap Enc.enc),.cells v4 26 (out.flatMap Enc.enc),.cells v5 3 ((wS x cs.length a b).flatMap Enc.enc)]) (λs=>cs.length+1-s.1) (0,v0,v1,d,v3,v4,v5) [] EB EB (by simp[e,Lz,fX]) ?_)
 rintro⟨b,v0,v1,d,v3,v4,v5⟩ hb;simp only at hb ⊢;repeat apply za
 refine zb ?_;refine zv rfl (λh=>?_) (λh=>?_);simp at h;have g:=nC x cs.length a b;have v:=cF (wS x cs.length a b) b (yM (arc x a b) 0 60) EA;have g1:(b:Int)<cs.length+1:=EA;refine zh (aA (EK ?_));by_cases l:a=b;subst l;refine aC (zb ?_);exact zr (a+1,v0,v1,d,v3,v4,v5) [] EF EF (by simp[zu a EA]) rfl (by simp[e,LB]);have a0:((a:Int) != b)=true:=EF;refine zm EF ?_;refine zb ?_;refine zq (cI x a b) ?_;refine yP [] (Yx _ _ _ (Ly hx _ _) EA EA EA) (zD g1 v g) ?_;refine⟨by omega,?_⟩;refine zb ?_;exact zr (b+1,v0,v1,d,v3,v4,v5) [] EF EF (by simp[zu b EA]) rfl (by simp[e,LA x _ _ _ (show b<=cs.length by omega) l]);simp at h;have w:b=cs.length+1:=EA;subst w;refine zx ?_;have g:=nC x cs.length a (cs.length+1);refine zY 5 rfl ?_;refine ze [] g ?_;refine⟨by omega,?_⟩;refine zb ?_;have y:(Zj x cs.length a).length=cs.length+1:=by rw[<-nD,g]
 exact zr (a+1,out++[Zj x cs.length a],v0,v1,d,v3,v4+1) [.dead] (by simp[AC,ho];omega) EF (by simp[zu a EA]) rfl (by simp[e,nD,y]);simp at hc;have z:a=cs.length+1:=EA;subst z;refine zx (EK ?_);refine zY 3 rfl ?_;refine zY 4 rfl ?_;exact zg (zi hd EC (by simp[ho,e]))
def LD(w:World):Qb prog w 59 Cust CustOk:=by
 intro H enc a cs x h;obtain⟨hl,n,hf⟩:=nh underlying59 h;simp only[c59]at hl
 match cs,hl with
 |[v0,v1,g,v3,v4,v5,i,j],_ =>
 obtain⟨s,h0⟩:=hf 0 _ rfl;obtain⟨t,h1⟩:=hf 1 _ rfl;obtain⟨u,h2⟩:=hf 2 _ rfl;obtain⟨v,h3⟩:=hf 3 _ rfl;obtain⟨y,b⟩:=hf 4 _ rfl;obtain⟨z,c⟩:=hf 5 _ rfl;obtain⟨y6,d⟩:=hf 6 _ rfl;obtain⟨y7,e⟩:=hf 7 _ rfl;simp at h0 h1 h2 h3 b c d e;obtain⟨z0,k0,r0⟩:=Zi underlying3 H enc n _ _ h0;obtain⟨z1,k1,r1⟩:=Zi underlying3 H enc n _ _ h1;obtain⟨z2,f,r2⟩:=VU (α:=Nat) underlying57 EC EH (KK underlying65) H enc n _ _ h2;obtain⟨z3,k,r3⟩:=Zi underlying3 H enc n _ _ h3;obtain⟨z4,l,r4⟩:=Zi underlying3 H enc n _ _ b;obtain⟨z5,m,r5⟩:=Zi underlying3 H enc n _ _ c;obtain⟨z6,o,p⟩:=Zi underlying3 H enc n _ _ d;obtain⟨z7,q,r⟩:=Zi underlying3 H enc n _ _ e;exact⟨⟨z0,z1,z2,z3,z4,z5,z6,z7⟩,⟨k0,k1,f.2,f.1,k,l,m,o,q⟩,
  Z8 (vs:=[v0]) r0 (Z8 (vs:=[v1]) r1 (Z8 (vs:=[g]) r2 (Z8 (vs:=[v3]) r3 (Z8 (vs:=[v4]) r4 (Z8 (vs:=[v5]) r5 (Z8 (vs:=[i]) (us:=[j]) p r))))))⟩
instance:Enc Inst:=⟨zB,6,λ_=>rfl,λ_=>rfl⟩
def LF(w:World):Qb prog w 25 Inst InstOk:=by
 intro H enc a cs x h;obtain⟨hl,n,hf⟩:=nh underlying25 h;simp only[c25]at hl
 match cs,hl with
 |[v0,v1,f,v3,v4,v5],_ =>
 obtain⟨j,h0⟩:=hf 0 _ rfl;obtain⟨k,h1⟩:=hf 1 _ rfl;obtain⟨l,h2⟩:=hf 2 _ rfl;obtain⟨m,h3⟩:=hf 3 _ rfl;obtain⟨o,b⟩:=hf 4 _ rfl;obtain⟨p,c⟩:=hf 5 _ rfl;simp at h0 h1 h2 h3 b c;obtain⟨z0,k0,r0⟩:=Zi underlying3 H enc n _ _ h0;obtain⟨z1,k1,r1⟩:=Zi underlying3 H enc n _ _ h1;obtain⟨z2,g,r2⟩:=Zi underlying3 H enc n _ _ h2;obtain⟨z3,i,r3⟩:=Zi underlying3 H enc n _ _ h3;obtain⟨z4,d,r4⟩:=VU (α:=Cust) underlying22 EC EH (LD w) H enc n _ _ b;obtain⟨z5,e,r5⟩:=VU (α:=List Int) underlying23 EC EH (VU (α:=Int) underlying26 EC EH (Zi underlying3)) H enc n _ _ c;exact⟨⟨z0,z1,z2,z3,z4,z5⟩,⟨k0,k1,g,i,d.1,d.2,e.1,e.2⟩,
  Z8 (vs:=[v0]) r0 (Z8 (vs:=[v1]) r1 (Z8 (vs:=[f]) r2 (Z8 (vs:=[v3]) r3 (Z8 (vs:=[v4]) (us:=[v5]) r4 r5))))⟩
def LG(w:World):Qb prog w 26 (List Int) (λl=>l.length<=9223372036854775807/\∀z∈l,zL z):=VU underlying26 EC EH (Zi underlying3)
abbrev qt(l:List Int):List Int:=l.mergeSort λx y=>decide (x<=y)
def JB(l:List Int):(qt l).length=l.length:=List.length_mergeSort l
def cK(l:List Int):l.flatMap Enc.enc=l.map I:=by induction l<;>simp_all
def WJ(S:Store)(o:Nat)(x:Ob)(h:S o=x):S.set o x=S:=by funext i;simp only[Store.set];split;rename_i e;rw[e,h];rfl
variable {S:Store}
def Xz{C:Ctx}{w:World}{x:Int}{v:Value}(h:Rel C S w (I x) v):v=.int .i64 x:=by cases h;rfl
variable {vs:Array Value}
def fZ(h:1=vs.size):∃v,vs=#[v]:=by
 match vs,h with
 |⟨[v]⟩,_=>exact⟨v,rfl⟩
def cL{id ver:Nat}(zs:List Int)(hid:S id=.cells ver 3 (zs.flatMap Enc.enc))(hn:zs.length<=1048576):
  SP 157 [.sl id ver 1 0 zs.length] S (λp S'=>S'=S.set id (.cells ver 3 ((qt zs).flatMap Enc.enc))):=by
 refine⟨qL func157 EG rfl,?_⟩;intro C w vs s hl y;obtain⟨v,rfl⟩:=fZ hl;have hv:=y 0 _ v rfl rfl;cases hv with
 |sl h1 h2 h3 =>
 obtain⟨a,cap,rfl,q1,q2,q3,q4⟩:=h1;by_cases h0:zs=[];subst h0;refine(slices_Sort_int_none a cap w).mono ?_;rintro e w' ⟨rfl,rfl⟩;exact⟨.junk,_,S,C,rfl,by rw[show qt []=[] from by simp[qt]];exact(WJ S id _ hid).symm,.junk _,s,.refl _ _ _⟩;have x:0<zs.length:=BD.2 h0;obtain⟨a0,f⟩|⟨b,k,c,g1,t,g3,g4,g5,g6⟩:=s.cells id ver _ _ hid;rw[cK]at f;simp at f;exact absurd f h0;have ha:a=some ⟨b,0,none⟩:=by
  rcases (h3 ver (by rw[hid];rfl)).2 rfl with ⟨z1,_⟩|⟨b',k',a',cap',z1,z2,z3,z4⟩
  rw[g1]at z1;cases z1;rw[g1]at z1;cases z1;cases z2;exact(z3 rfl).1
 subst ha;rw[jY]at g4;have g:∀i,i<zs.length->c[i]?=some (.int .i64 (zs.getD i 0)):=by
  intro i hi;have a1:i<c.size:=EA;have e1:(zs.flatMap Enc.enc)[i]?=some (I (zs.getD i 0)):=by rw[cK];simp[hi]
  have e2:c[i]?=some c[i]:=EB;have:=Xz (g6 i _ _ e1 e2);rw[e2,this]
 have j:c.toList.take zs.length=zs.map (Value.int .i64):=by apply Bg;intro i;by_cases hi:i<zs.length;rw[AP hi,Array.getElem?_toList,g i hi];simp[hi];rw[Ao EF,Ao EF]
 refine(slices_Sort_int b 0 cap zs w (holds_of_blockI t j) (qX t) EA).mono ?_;rintro e w' ⟨rfl,n,os,rfl⟩;have u:=heap_sortedI (n:=n) (os:=os) (qt zs).toArray t;have m:=JB zs;have q:∀i,(Sort.putCells (Value.int .i64) 0 (qt zs).toArray c)[i]?=if i<zs.length then some (.int .i64 ((qt zs).getD i 0)) else c[i]?:=by intro i;by_cases hi:i<zs.length;rw[if_pos hi];have:i<c.size:=EA;have d:i<(qt zs).length:=EA;simp[Sort.putCells,d,this];intro h;omega;rw[if_neg hi];by_cases hc:i<c.size;have d:¬i<(qt zs).length:=EA;simp[Sort.putCells,d,hc];intro h;omega;rw[D1 (by simp[Sort.putCells];omega),D1 EA]
 obtain⟨t1,t2⟩:=s.turn (l:=C.loc id) (ver':=ver) (cs':=(qt zs).flatMap Enc.enc) hid (Af _) (λ_=>rfl) (by rw[g1];exact⟨grownBy_sortedI (n:=n) (os:=os) (qt zs).toArray,Dp _ _⟩)
  (.inr ⟨b,k,_,g1,.inr (by rw[g1];rfl),u,by simp[Sort.putCells,g3],by rw[jY,m];exact g4,λi z hi o=>by
    rw[q]at o;rw[jY,m]at hi;rw[if_pos hi]at o;cases o;rfl,
   λi p z r o=>by
    rw[q]at o;have hi:i<zs.length:=by have:=(Ad.1 r).1;rw[jY,m]at this;exact this
    rw[if_pos hi]at o;cases o;rw[cK,Ai]at r;have d:i<(qt zs).length:=EA;rw[Ac d]at r;cases r;rw[List.getD_eq_getElem?_getD,Ac d];exact .sc _⟩)
 exact⟨.junk,_,_,_,rfl,rfl,.junk _,t1,t2⟩
def yy(l:List Stop):List Value:=l.flatMap λs=>[.int .i64 s.c,.int .i64 s.q]
def nE(l:List Stop):l.flatMap Enc.enc=(yy l).map PV.sc:=by unfold yy;induction l<;>simp_all
theorem WK(l:List Stop):(yy l).length=l.length*2:=by unfold yy;induction l<;>grind
def gc(l m:List Stop):yy (l++m)=yy l++yy m:=by simp[yy]
def nF(l:List Stop)(i:Nat)(h:i<=l.length):(yy l).take (i*2)=yy (l.take i):=by grind[List.take_append_drop,yy,WK]
def nG(l:List Stop)(i:Nat)(h:i<=l.length):(yy l).drop (i*2)=yy (l.drop i):=by
 conv=>lhs;rw[<-List.take_append_drop i l,gc]
 grind[WK]
def WL(l:List Stop):∀v∈yy l,v.oneCell'=true:=by intro v hv;obtain⟨s,_,hs⟩:=By.1 hv;simp at hs;obtain rfl|rfl:=hs<;>rfl
variable {V:List Value}{i n:Nat}
def LH{vs cur:List Value}(hi:i<n)(a:V.length=n*2)(hv:vs.length=2)(hc:cur.take (n*2)=V)(hl:n*2+2<=cur.length):
  ((cur.take ((i+1)*2)++V.drop (i*2)++cur.drop ((i+1)*2+(V.drop (i*2)).length)).take (i*2)++vs++(cur.take ((i+1)*2)++V.drop (i*2)++cur.drop ((i+1)*2+(V.drop (i*2)).length)).drop (i*2+2)) =
   V.take (i*2)++vs++V.drop (i*2)++cur.drop ((i+1)*2+(V.drop (i*2)).length):=by
 have h1:(cur.take ((i+1)*2)).length=i*2+2:=EF;have h2:(cur.take ((i+1)*2)++V.drop (i*2)++cur.drop ((i+1)*2+(V.drop (i*2)).length)).take (i*2)=V.take (i*2):=by rw[List.append_assoc,BF EA,DH,Bt EA,<-hc,DH,Bt EA]
 simp_all
def LI{vs ROW:List Value}(hi:i<n)(a:V.length=n*2)(hv:vs.length=2)(hc:ROW.take (i*2)=V.take (i*2)):
  ((ROW.take (i*2)++vs++ROW.drop (i*2+2)).take ((i+1)*2)++V.drop (i*2)++(ROW.take (i*2)++vs++ROW.drop (i*2+2)).drop ((i+1)*2+(V.drop (i*2)).length)) =
   V.take (i*2)++vs++V.drop (i*2)++(ROW.take (i*2)++vs++ROW.drop (i*2+2)).drop ((i+1)*2+(V.drop (i*2)).length):=by
 have h1:(ROW.take (i*2)++vs).length=(i+1)*2:=by rw[hc];simp;omega
 grind
def nH(h:3=vs.size):∃u v x,vs=#[u,v,x]:=by
 match vs,h with
 |⟨[u,v,x]⟩,_=>simp
def ge{C:Ctx}{w:World}{rest:List Value}(h:vs.toList=V++rest)(h1:∀v∈V,v.oneCell'=true):
  (∀(i:Nat) (v:Value),i<(V.map PV.sc).length->vs[i]?=some v->v.oneCell'=true)/\∀(i:Nat) (p:PV) (v:Value),(V.map PV.sc)[i]?=some p->vs[i]?=some v->Rel C S w p v:=by
 have a:∀(i:Nat) (v:Value),i<V.length->vs[i]?=some v->V[i]?=some v:=by intro i v hi hv;rw[<-Array.getElem?_toList,h,As hi]at hv;exact hv
 refine⟨λi v hi hv=>h1 v (Aa (a i v (by simpa using hi) hv)),λi p v b hv=>?_⟩;rw[Ai]at b;obtain⟨u,c,rfl⟩:=An.1 b;have:=a i v (Ad.1 c).1 hv;rw[c]at this;cases this;exact .sc _
def LJ{id ver:Nat}(cs:List Stop)(i:Nat)(s:Stop)(hi:i<cs.length)(hn:cs.length<=1000000)(hid:S id=.cells ver 101 (cs.flatMap Enc.enc)):
  SP 329 [.sl id ver 2 0 cs.length,I i,L [s]] S (λp S'=>p=.sl id (ver+1) 2 0 (cs.length+1)/\S'=S.set id (.cells (ver+1) 101 ((cs.take i++s::cs.drop i).flatMap Enc.enc))):=by
 refine⟨qL func329 EG rfl,?_⟩;intro C w vs hS hl hr;obtain⟨u,v,x,rfl⟩:=nH hl;obtain rfl:=Xz (hr 1 _ v rfl rfl);have hu:=hr 0 _ u rfl rfl;have hx:Rel C S w (.lst 1 [I s.c,I s.q]) x:=hr 2 _ x rfl rfl;have d:(yy cs).length=cs.length*2:=WK cs;rw[nE]at hid ⊢;obtain⟨i0,a6⟩:=Cj.1 fS;have hz:=nm;have hc:=fR;have hb:=nk;simp only[Program.zeroOf,Program.cellsOf,Program.bytesOf',a6,Cl,AR,Option.getD_some,Option.some.injEq]at hz hc hb;cases hu with
 |sl h1 h2 h3 =>
 obtain⟨ad,cap,rfl,q1,q2,q3,q4⟩:=h1;have a9:=(h3 ver (by rw[hid];rfl)).2 rfl;obtain⟨e5,b7⟩|⟨b,k,c,g1,g2,g3,g4,g5,g6⟩:=hS.cells id ver _ _ hid;have:=congrArg List.length b7;simp[d]at this;exfalso;omega;obtain⟨z1,_⟩|⟨b',k',e6,a,z1,z2,z3,z4⟩:=a9;rw[g1]at z1;cases z1;rw[g1]at z1;cases z1;cases z2;obtain⟨rfl,b8⟩:=z3 rfl;rw[List.length_map,d]at g4;have m:∀(j:Nat) v,(yy cs)[j]?=some v->c[j]?=some v:=by intro j v g;have c6:=(Ad.1 g).1;have e2:c[j]?=some c[j]:=Ba EA;have:=g6 j (.sc v) _ (by rw[Ai,g];rfl) e2;rw[e2];generalize c[j]=y at this;cases this;rfl
 have c7:c.toList.take (cs.length*2)=yy cs:=by apply Bg;intro j;by_cases g:j<cs.length*2;rw[AP g,Array.getElem?_toList];have e:(yy cs)[j]?=some (yy cs)[j]:=Ac EA;rw[e,m j _ e];rw[Ao EF,Ao EA]
 have n:∀(j:Nat) v,(yy cs)[j]?=some v->w.cell? ⟨b,j,none⟩=some v:=λj v g=>by simp only[World.cell?,g2];exact m j v g
 have a4:yy (cs.take i++s::cs.drop i)=(yy cs).take (i*2)++[.int .i64 s.c,.int .i64 s.q]++(yy cs).drop (i*2):=by rw[nF cs i EA,nG cs i EA,gc];simp[yy]
 have a3:(yy (cs.take i++s::cs.drop i)).length=(cs.length+1)*2:=by rw[WK];simp;omega
 cases hx with
 |lst1 y1 y2 y3 y4 y5 y6 y7 =>
 rename_i vc vb vo cv ev fz;have d4:=y5 EB;simp only[Ab,Ag]at d4;have o:∀(j:Nat) v,([.int .i64 s.c,.int .i64 s.q]:List Value)[j]?=some v->w.cell? ⟨vb,vo+j,none⟩=some v:=by
  intro j v g;have c6:=(Ad.1 g).1;simp at c6;simp only[World.cell?,y3];have e2:cv[vo+j]?=some (cv[vo+j]' EA):=Ba EA;have:=y7 j (.sc v) _ (by
   match j,g with
   |0,g=>cases g;rfl
   |1,g=>cases g;rfl) e2
  rw[if_neg EB,e2];generalize cv[vo+j]' EA=y at this;cases this;rfl
 have d5:vb≠b:=by rintro rfl;exact y4 ⟨id,k,by rw[hid];simp,g1⟩
 have t:∀(w':World) (b' a:Nat),cs.length+1<=a->a<=maxLen ->
   Rel (C.at id (ver+1) (some (b',a*2))) (S.set id (.cells (ver+1) 101 ((yy (cs.take i++s::cs.drop i)).map .sc))) w' (.sl id (ver+1) 2 0 (cs.length+1)) (.slice (some ⟨b',0,none⟩) (cs.length+1) a):=by
  intro w' b' a d6 d7;refine .sl ⟨_,_,rfl,d6,by unfold xx;omega,d7,λ_=>⟨_,_,rfl⟩⟩ ⟨h2.1,by simp only[Ctx.at];omega⟩ λv0 c8=>?_;rw[q11]at c8;cases c8;exact⟨Af _,λ_=>.inr ⟨b',_,_,_,by simp[Ctx.at],rfl,λ_=>⟨rfl,rfl⟩,λ_=>rfl⟩⟩
 have d0:∀v∈([.int .i64 s.c,.int .i64 s.q]:List Value),v.oneCell'=true:=by intro v hv;simp at hv;obtain rfl|rfl:=hv<;>rfl
 by_cases z:cs.length+1<=cap;obtain⟨R1,r⟩:∃R1:Array Value,R1=(c.toList.take ((i+1)*2)++(yy cs).drop (i*2)++c.toList.drop ((i+1)*2+((yy cs).drop (i*2)).length)).toArray:=⟨_,rfl⟩;obtain⟨R2,a0⟩:∃R2:Array Value,R2=(R1.toList.take (i*2)++([.int .i64 s.c,.int .i64 s.q]:List Value)++R1.toList.drop (i*2+2)).toArray:=⟨_,rfl⟩;have a5:c.size=cap*2:=g3.trans b8.symm;have e4:c.toList.length=cap*2:=by simpa using a5
 have f:R2.toList=yy (cs.take i++s::cs.drop i)++c.toList.drop ((i+1)*2+((yy cs).drop (i*2)).length):=by rw[a0,r,a4];simp only[];exact LH hi d rfl c7 EA
 have a1:R2.size=cap*2:=by rw[<-Array.length_toList,f];simp[a3,d];omega
 refine(Il b cs.length cap i vb vo vc (yy cs) [.int .i64 s.c,.int .i64 s.q] w (by rw[a6];simp[hc]) c g2 a5 hi z (by unfold maxLen at q3;omega) EA d rfl d5 n o (WL cs) d0 ev (cv.size-1) (by unfold World.shape?;rw[y3];simp;omega) R1 R2 r a0).mono ?_;rintro e w' ⟨rfl,rfl⟩;obtain⟨r1,r2⟩:=ge (C:=C) (S:=S) (w:=w) f (WL _);have a7:=setRow_heap w.drew b c R1 _ _ g2;obtain⟨t1,t2⟩:=hS.turn (l:=some (b,cap*2)) (ver':=ver+1) (cs':=(yy (cs.take i++s::cs.drop i)).map .sc) hid EA (λh=>absurd h EA) (w':=(w.drew.setRow b R1).setRow b R2)
  (by rw[g1];refine⟨⟨rfl,rfl,rfl,by simp[World.setRow],λj g d8=>?_⟩,Db _⟩;have d1:j≠b:=λe=>d8 (by rw[e];rfl);rw[setRow_other _ _ _ _ d1,setRow_other _ _ _ _ d1];rfl)
  (.inr ⟨b,cap*2,R2,rfl,.inr (by rw[g1];rfl),setRow_heap _ _ _ _ _ _ a7,a1,by rw[List.length_map,a3];omega,r1,r2⟩)
 exact⟨_,_,_,_,rfl,⟨rfl,rfl⟩,t _ b cap z q3,t1,t2⟩;obtain⟨G,hG⟩:∃G,G=grownCap w (cs.length+1) cap 101:=⟨_,rfl⟩;have d9:cs.length+1<=G:=by rw[hG];exact grownCap_ge w _ _ _
 have e0:G<=maxLen:=by rw[hG];exact grownCap_le_maxLen w _ _ _ (by unfold maxLen;omega)
 obtain⟨ROW,a2⟩:∃ROW:Array Value,ROW=((yy cs).take (i*2)).toArray++Builtin.zeroCells (Value.agg #[.int .i64 0,.int .i64 0]).cells (cs.length+1-i)++Builtin.zeroCells (Value.agg #[.int .i64 0,.int .i64 0]).cells (G-(cs.length+1)):=⟨_,rfl⟩;obtain⟨R1,r⟩:∃R1:Array Value,R1=(ROW.toList.take (i*2)++([.int .i64 s.c,.int .i64 s.q]:List Value)++ROW.toList.drop (i*2+2)).toArray:=⟨_,rfl⟩;obtain⟨R2,a0⟩:∃R2:Array Value,R2=(R1.toList.take ((i+1)*2)++(yy cs).drop (i*2)++R1.toList.drop ((i+1)*2+((yy cs).drop (i*2)).length)).toArray:=⟨_,rfl⟩;have d2:((yy cs).take (i*2)).length=i*2:=EF;have e1:ROW.size=G*2:=by rw[a2];simp only[Cz,size_zeroCells,B1,d2];simp[Value.cells];omega
 have a8:ROW.toList.take (i*2)=(yy cs).take (i*2):=by rw[a2];simp only[Array.toList_append];rw[List.append_assoc];exact D7 d2
 have d3:R1.size=G*2:=by rw[r];simp;omega
 have f:R2.toList=yy (cs.take i++s::cs.drop i)++R1.toList.drop ((i+1)*2+((yy cs).drop (i*2)).length):=by rw[a0,r,a4];simp only[];exact LI hi d rfl a8
 have a1:R2.size=G*2:=by rw[<-Array.length_toList,f];simp[a3,d,d3];omega
 refine(Ik b cs.length cap i vb vo vc (yy cs) [.int .i64 s.c,.int .i64 s.q] w i0 _ a6 hz EA hb rfl hi q1 EA EA d rfl n o (WL cs) d0 G hG ROW a2 R1 R2 r a0).mono ?_;rintro e w' ⟨rfl,rfl⟩;obtain⟨r1,r2⟩:=ge (C:=C) (S:=S) (w:=w) f (WL _);have e3:=QP w.drew (.cells ROW 101);have a7:=setRow_heap (w.drew.alloc (.cells ROW 101)) w.heap.size ROW R1 _ _ e3;obtain⟨t1,t2⟩:=hS.turn (l:=some (w.heap.size,G*2)) (ver':=ver+1) (cs':=(yy (cs.take i++s::cs.drop i)).map .sc) hid EA (λh=>absurd h EA) (w':=((w.drew.alloc (.cells ROW 101)).setRow w.heap.size R1).drew.setRow w.heap.size R2)
  ⟨⟨rfl,rfl,rfl,by simp[World.setRow],λj g _=>by rw[setRow_other _ _ _ _ EA];show ((w.drew.alloc (.cells ROW 101)).setRow w.heap.size R1).heap[j]?=_;rw[setRow_other _ _ _ _ EA];exact Z3 w.drew _ j g⟩,CA (Db _)⟩
  (.inr ⟨w.heap.size,G*2,R2,rfl,.inl (Af _),setRow_heap _ _ _ _ _ _ a7,a1,by rw[List.length_map,a3];omega,r1,r2⟩)
 exact⟨_,_,_,_,rfl,⟨rfl,rfl⟩,t _ w.heap.size G d9 e0,t1,t2⟩
def yc(t:List Stop):Int:=(t.map (·.q)).sum
def cM(t:List Stop)(s:Stop):yc (t++[s])=yc t+s.q:=by simp[yc]
def LK(t:List Stop)(g:t.length<=1048576):PP 89 [.agg [L t]] (L (t.map (·.c))):=by
 refine zt func89 ntmps89 results89 λS nx d=>?_;refine EK ?_;intro v0;refine EK ?_;refine za (qO 3 3 1 rfl λv1=>?_);refine EK ?_;refine zj (zC (λs:Nat × List Int × Nat × Nat=>s.1<=t.length/\s.2.1=(t.take s.1).map (·.c)) (λ(k,out,v,a)=>[(1,.ptr nx v 0),(3,.sl (nx+1) a 1 0 out.length),(4,I k)]) (λ(k,out,v,a)=>[.cells v 99 [L t],.cells a 3 (out.flatMap Enc.enc)]) (λs=>t.length-s.1) (0,[],v0,v1) [] EB EB EB ?_);rintro⟨k,out,v1,a⟩ ⟨e,ho⟩;simp only at e ho ⊢;repeat apply za
 refine zb ?_;refine zv rfl (λhc=>?_) (λhc=>?_);simp at hc;obtain⟨s,tl,h,i,a3,j,f⟩:=el 2 rfl t k hc;refine zh (aA (ze [] (zn hc f) ?_));have hl:out.length=k:=by rw[ho];simp;omega
 refine⟨by omega,?_⟩;refine zb ?_;exact zr (k+1,out++[s.c],v1,a+1) [] (by simp[a3,ho];omega) EF (by simp[zu k EA]) rfl EB;simp at hc;have b:k=t.length:=EA;subst b;refine zx (EK ?_);refine zY 1 rfl ?_;exact zg (zi d rfl (by simp[ho]))
def LL(l:List Int)(c:Int)(h:l.Nodup)(hc:c ∉ l):(l++[c]).Nodup:=by rw[DP];exact⟨h,by simp,λa d b hb e=>by simp at hb;subst hb;subst e;exact hc d⟩
def nI{l:List Int}{c:Int}(hi:l[i]?=some c)(a:l[k]?=some c)(h:k<i):¬l.Nodup:=by intro hn;have:=(List.getElem?_inj (Ad.1 hi).1 hn).1 (hi.trans a.symm);omega
def VW(t:List Stop)(g:t.length<=1048576)(S:Store)(nx:Nat)(d:yd nx S):SP 124 [.agg [L t]] S (λp S'=>∃v,p=.sl (nx+1) v 1 0 t.length/\S'=S.set (nx+1) (.cells v 3 ((t.map (·.c)).flatMap Enc.enc))):=by
 refine Z7 d func124 ntmps124 results124 ?_;refine EK ?_;intro v0;refine EK ?_;refine za (qO 3 3 1 rfl λv1=>?_);refine EK ?_;refine zj (zC (λs:Nat × List Int × Nat × Nat=>s.1<=t.length/\s.2.1=(t.take s.1).map (·.c)) (λ(k,out,v,a)=>[(3,.sl (nx+1) a 1 0 out.length),(7,L t),(8,I t.length),(9,I k)]) (λ(k,out,v,a)=>[.cells v 99 [L t],.cells a 3 (out.flatMap Enc.enc)]) (λs=>t.length-s.1) (0,[],v0,v1) [] EB EB EB ?_);rintro⟨k,out,v1,a⟩ ⟨e,ho⟩;simp only at e ho ⊢;refine EK ?_;refine za (zv rfl (λhc=>?_) (λhc=>?_));simp at hc;obtain⟨s,tl,h,i,a3,j,f⟩:=el 2 rfl t k hc;refine zh (aA (aF [] (zn hc f) ?_));intros;have hl:out.length=k:=by rw[ho];simp;omega
 refine zb ?_;refine⟨by omega,?_⟩;refine zb ?_;exact zr (k+1,out++[s.c],v1,a+1) [_] (by simp[a3,ho];omega) EF (by simp[zu k EA]) rfl EC;simp at hc;have b:k=t.length:=EA;subst b;refine zx (EK ?_);refine zg ⟨_,_,rfl,⟨a,by simp[ho],rfl⟩,Xv d (by simp[ho])⟩
def LM(t:List Stop)(a:t.length<=1048576):PP 124 [.agg [L t]] (L (t.map (·.c))):=by have:=cy 1 (λS nx b=>VW t a S nx b) EB;rw[<-List.length_map (f:=(·.c))]at this;exact this
def nJ(t:List Stop)(e:t.length<=1048576):PP 243 [.agg [L t]] (I (W (yc t))):=by
 refine zt func243 ntmps243 results243 λS nx b=>?_;refine EK ?_;intro v0;refine EK ?_;repeat apply za
 refine zb ?_;refine zj (zC (λs:Nat × Nat=>s.1<=t.length) (λ(k,v)=>[(3,I (W (yc (t.take k)))),(7,L t),(8,I t.length),(9,I k)]) (λ(k,v)=>[.cells v 99 [L t]]) (λs=>t.length-s.1) (0,v0) [] EB (by simp[yc]) EB ?_);rintro⟨k,v1⟩ c;simp only at c ⊢;refine EK ?_;refine za (zv rfl (λhc=>?_) (λhc=>?_));simp at hc;obtain⟨s,tl,f,g,a3,h,d⟩:=el 2 rfl t k hc;refine zh (aA (aF [] (zn hc d) ?_));intros;refine zb ?_;refine zb ?_;exact zr (k+1,v1) [_] hc EF (by simp[zu k EA,a3,cM,uN]) rfl EC;simp at hc;have a:k=t.length:=EA;subst a;refine zx (EK ?_);exact zg (zi b rfl EB)
def VX(x:Inst)(t:List Stop)(a:t.length<=1048576)(hs:∀s∈t,qA s.c):PP 131 [.agg (zB x),.agg [L t]] (I (W (yJ x (t.map (·.c))))):=by refine zt func131 ntmps131 results131 λS nx b=>?_;refine EK ?_;intros;refine aG none RR mixed trivial ?_;refine zJ (LM _ a) trivial ?_;refine zJ (nB _ _ (by simpa using a) (by simpa using hs)) trivial ?_;exact zg (zi b rfl rfl)
def yf(x:Inst)(d:zo):Int:=(d.map λt=>yJ x (t.map (·.c))).sum
def nK(x:Inst)(d:zo)(t:zM):yf x (d++[t])=yf x d+yJ x (t.map (·.c)):=by simp[yf]
structure DayOk (d:zo):Prop where
 n:d.length<=1048576
 t:∀t∈d,t.length<=1048576
 s:∀t∈d,∀s∈t,qA s.c
def WM(x:Inst)(d:zo)(a:DayOk d):PP 83 [.agg (zB x),.agg [L d]] (I (W (yf x d))):=by
 have hn:=a.n;refine zt func83 ntmps83 results83 λS nx f=>?_;refine EK ?_;intro v0 v1;refine EK ?_;repeat apply za
 refine zb ?_;refine zj (zC (λs:Nat × Nat × Nat=>s.1<=d.length) (λ(k,v,e)=>[(2,.ptr nx v 0),(5,I (W (yf x (d.take k)))),(9,L d),(10,I d.length),(11,I k)]) (λ(k,v,e)=>[.cells v 25 (zB x),.cells e 96 [L d]]) (λs=>d.length-s.1) (0,v0,v1) [] EB (by simp[yf]) EB ?_);rintro⟨k,v1,g⟩ h;simp only at h ⊢;refine EK ?_;refine za (zv rfl (λhc=>?_) (λhc=>?_));simp at hc;obtain⟨t,tl,i,l,a3,j⟩:=zF rfl d k hc;have b:=Aa i;refine zh (aA (aF [] (zn hc j) ?_));intros;refine zb ?_;refine zq (VX _ _ (a.t t b) (a.s t b)) ?_;refine zb ?_;exact zr (k+1,v1,g) [_] hc EF (by simp[zu k EA,a3,nK,uN,cx]) rfl EC;simp at hc;have c:k=d.length:=EA;subst c;refine zx (EK ?_);exact zg (zi f rfl EB)
def nL(d:zo)(hn:d.length<=1048576)(hf:d.flatten.length<=1048576):PP 125 [.agg [L d]] (L d.flatten):=by
 refine zt func125 ntmps125 results125 λS nx c=>?_;refine EK ?_;intro v0;refine EK ?_;refine za (qO 3 101 2 rfl λv1=>?_);refine EK ?_;refine zj (zC (λs:Nat × List Stop × Nat × Nat=>s.1<=d.length/\s.2.1=(d.take s.1).flatten) (λ(k,out,v,a)=>[(3,.sl (nx+1) a 2 0 out.length),(7,L d),(8,I d.length),(9,I k)]) (λ(k,out,v,a)=>[.cells v 96 [L d],.cells a 101 (out.flatMap Enc.enc)]) (λs=>d.length-s.1) (0,[],v0,v1) [] EB EB EB ?_);rintro⟨k,out,v1,a⟩ ⟨f,ho⟩;simp only at f ho ⊢;refine EK ?_;refine za (zv rfl (λhc=>?_) (λhc=>?_));simp at hc;obtain⟨t,tl,h,i,a3,g⟩:=zF rfl d k hc;refine zh (aA (aF [] (zn hc g) ?_));intros;have hl:out.length+t.length<=1048576:=by
  have:(out++t).length<=d.flatten.length:=by
   have e:d.flatten=(d.take (k+1)).flatten++(d.drop (k+1)).flatten:=by rw[<-List.flatten_append,List.take_append_drop]
   rw[e,a3];simp[ho]
  simp only[Ak]at this;omega
 refine zb ?_;refine⟨by omega,?_⟩;refine zb ?_;exact zr (k+1,out++t,v1,a+1) [_] (by simp[a3,ho];omega) EF (by simp[zu k EA]) rfl EC;simp at hc;have b:k=d.length:=EA;subst b;refine zx (EK ?_);refine zY 1 rfl ?_;exact zg (zi c rfl (by simp[ho]))
def qn(x:Inst)(s:Stop):Bool:=decide (0<=s.c/\s.c<x.y.length/\1<=s.q/\s.q<=2147483648)
def jF(x:Inst)(t:zM):Bool:=t.all (qn x)&&!t.isEmpty
def zX(x:Inst)(t:zM):Int :=
 if jF x t=false then 1 else if ¬(t.map (·.c)).Nodup then 11 else if x.Q<W (yc t) then 12 else if x.len<W (yJ x (t.map (·.c))) then 13 else 0
def LN{t:zM}{s:Stop}(h:(t.take k).all (qn x)=true)(a:t.take (k+1)=t.take k++[s])(hs:0<=s.c/\s.c<x.y.length/\1<=s.q/\s.q<=2147483648):(t.take (k+1)).all (qn x)=true:=by rw[a,C5,h];simp[qn];omega
def LO{t:zM}(hx:x.y.length<=1048576)(h:t.all (qn x)=true):∀s∈t,qA s.c:=by intro s hs;have:=Ay.1 h s hs;simp[qn]at this;unfold qA;omega
def VY(l:List Int):(qt l).Pairwise (·<=·):=by have:=C6 (le:=λx y:Int=>decide (x<=y)) (λa b c h1 h2=>by simp at *;omega) (λa b=>by simp;omega) l;simpa using this
def nM(l:List Int):(qt l).Perm l:=Cq l _
def gf(l:List Int):(qt l).Nodup<->l.Nodup:=(nM l).nodup_iff
variable {j:Nat}
def nN{z:List Int}{p c:Int}(b:z.Pairwise (·<=·))(hn:(z.take (j+1)).Nodup)(h1:z.take (j+1)=z.take j++[p])(h2:z.take (j+1+1)=z.take (j+1)++[c])(a:p≠c):(z.take (j+1+1)).Nodup:=by rw[h2];refine LL _ _ hn λhc=>?_;have hs:(z.take (j+1+1)).Pairwise (·<=·):=b.sublist (List.take_sublist _ _);rw[h2,h1,List.append_assoc,List.pairwise_append]at hs;rw[h1,AB]at hc;obtain hc|hc:=hc;have d:=hs.2.2 c hc p EB;have e:=(Bl.1 hs.2.1).1 c EB;omega;simp at hc;exact a hc.symm
def nO{id ver:Nat}(zs:List Int)(hid:S id=.cells ver 3 (zs.flatMap Enc.enc))(hn:zs.length<=1048576):
  SP 123 [.sl id ver 1 0 zs.length] S (λp S'=>p=B (decide zs.Nodup)/\S'=S.set id .dead):=by
 refine yr func123 ntmps123 results123 λnx x=>?_;have f:id<nx:=by obtain h|h:=Bo id nx;exact h;rw[x id h]at hid;cases hid
 refine EK ?_;refine za (xZ [] EG EG λK Gc Gh y b g X a k=>?_);simp -implicitDefEqProofs [a,k];try clear a k X
 refine b _ _ _ _ _ _ _ λl=>((cL zs (by rw[zG f];exact hid) hn).mono ?_).v;rintro p _ rfl;refine⟨S.set id (.cells ver 3 ((qt zs).flatMap Enc.enc)),[],qE _ f,?_⟩;clear b g;clear Gc Gh;refine w8 l (D:=[]) EG λGc Gh b g X a k=>?_;simp -implicitDefEqProofs [a,k];clear a k X;refine y _ _ _ ?_;clear y b g;clear K Gc Gh;generalize q:qt zs=z;have r:zs.length=z.length:=by rw[<-q,JB]
 have s:z.Pairwise (·<=·):=by rw[<-q];exact VY zs
 have d:∀o,S.set id .dead o=ext (S.set id (.cells ver 3 (z.flatMap Enc.enc))) nx [] o\/S.set id .dead o=.dead:=by intro o;by_cases ho:o=id;subst ho;exact .inr (q11 _ _ _);rw[q10 _ _ _ _ ho];by_cases h2:o<nx;rw[zG h2,q10 _ _ _ _ ho];exact .inl rfl;exact .inr (x o EA)
 have t:(S.set id (.cells ver 3 (z.flatMap Enc.enc))) id=.cells ver 3 (z.flatMap Enc.enc):=q11 _ _ _;have m:decide zs.Nodup=decide z.Nodup:=by rw[<-q,decide_eq_decide,gf]
 rw[m];have a0:z.length<=1048576:=EA;rw[r];generalize S.set id (.cells ver 3 (z.flatMap Enc.enc))=S1 at *;have u:=zG (S:=S1) (obs:=[]) f;repeat apply za
 refine zb ?_;refine zj (zC (λj:Nat=>(j=0\/j+1<=z.length)/\(z.take (j+1)).Nodup) (λj=>[(0,.sl id ver 1 0 z.length),(3,I ((j+1:Nat):Int))]) (λ_=>[]) (λj=>z.length-j) 0 [] (by cases z<;>simp) EB EB ?_);rintro j ⟨hj,i⟩;repeat apply za
 refine zb ?_;refine zv rfl (λhc=>?_) (λhc=>?_);simp at hc;have w:j+1<z.length:=EA;obtain⟨c,a1,b1,b2,b3,e1⟩:=zF rfl z (j+1) w;obtain⟨p,a2,d1,d2,d3,e2⟩:=zF rfl z j EA;have wj:IntKind.i64.wrap (j:Int)=j:=wr _ EA EA;have g1:(j:Int)<z.length:=EA;have g2:(j:Int)+1<z.length:=EA;have g3:0<=(j:Int)+1:=EA;refine zh (aA (aG none Rf mixed (zU u t wj e1 e2 (zD g1 g2 g3)) ?_));refine zv rfl (λn=>?_) (λn=>?_);simp at n;refine EK ?_;exact zg ⟨_,_,rfl,⟨by simp;exact nI b1 (by rw[d1,n]) EA,rfl⟩,d⟩;simp at n;refine zh (zb ?_);have w2:IntKind.i64.wrap ((j:Int)+1+1)=((j+1+1:Nat):Int):=by rw[wr _ EA EA];omega
 exact zr (j+1) [] ⟨by omega,nN s i d3 b3 (λe=>n e.symm)⟩ EA (by simp[w2]) rfl EB;simp at hc;refine zx (EK ?_);rw[Ae EA]at i;exact zg ⟨_,_,rfl,⟨by simp[i],rfl⟩,d⟩
abbrev VZ(x:Inst)(t:zM):List PV:=[I x.days,I x.X,I x.Q,I x.len,L x.y,L x.O,L t]
def LP(x:Inst)(t:zM)(l:t.length<=1048576):PP 208 [.agg (VZ x t)] (B (jF x t)):=by
 have bad:∀{k:Nat} {s:Stop},t[k]?=some s->¬(0<=s.c/\s.c<x.y.length/\1<=s.q/\s.q<=2147483648)->jF x t=false:=by
  intro k s h hb;unfold jF;have:t.all (qn x)=false:=by rw[Cb];exact⟨s,Aa h,by simp[qn];omega⟩
  rw[this];rfl
 refine zt func208 ntmps208 results208 λS nx b=>?_;refine EK ?_;intro v0;repeat apply za
 refine zb ?_;refine zj (zC (λs:Nat × Nat=>s.1<=t.length/\(t.take s.1).all (qn x)=true) (λ(k,v)=>[(1,.ptr nx v 0),(7,L t),(8,I t.length),(9,I k)]) (λ(k,v)=>[.cells v 229 (VZ x t)]) (λs=>t.length-s.1) (0,v0) [] EB EB EB ?_);rintro⟨k,v0⟩ ⟨i,d⟩;simp only at i d ⊢;refine EK ?_;refine za (zv rfl (λhc=>?_) (λhc=>?_));simp at hc;obtain⟨s,tl,e,m,a3,n,j⟩:=el 2 rfl t k hc;refine zh (aA (aF [] (zn hc j) ?_));intros;by_cases h1:s.c<0;repeat apply za
 refine ze [(3,16)] (zn h1 zE) ?_;refine zm rfl (EK ?_);exact zg (zi b rfl (by rw[bad e EA];rfl));by_cases h2:(x.y.length:Int)<=s.c;repeat apply za
 refine ze [(3,16)] (zD h2 h1 zE) ?_;refine zm rfl (EK ?_);exact zg (zi b rfl (by rw[bad e EA];rfl));repeat apply za
 refine ze [(3,16)] (zn h1 h2) ?_;refine zk rfl (zh ?_);by_cases h3:s.q<1;refine aF [(3,28)] (zn h3 zE) ?_;refine zm rfl (EK ?_);exact zg (zi b rfl (by rw[bad e EA];rfl));by_cases g:2147483648<s.q;refine aF [(3,28)] (zD g h3 zE) ?_;refine zm rfl (EK ?_);exact zg (zi b rfl (by rw[bad e EA];rfl));refine aF [(3,28)] (zn h3 g) ?_;refine zk rfl (zh (zb ?_));exact zr (k+1,v0) [_] ⟨hc,LN d a3 EA⟩ EF (by simp[zu k EA]) rfl EC;simp at hc;have f:k=t.length:=EA;subst f;rw[Ah]at d;refine zx (EK ?_);exact zg (zi b rfl (by cases t with|nil=>rfl|cons a t=>simp[jF,d]))
def LQ(x:Inst)(t:zM)(b:t.length<=1048576):PP 209 [.agg (VZ x t)] (B (decide (t.map (·.c)).Nodup)):=by refine zt func209 ntmps209 results209 λS nx d=>?_;refine EK ?_;intro v0;refine EK ?_;refine λa=>((VW t b _ _ xM).mono ?_).v;rintro _ _ ⟨v1,rfl,rfl⟩;refine⟨_,_,WE _,xA [] Nat.add_assoc a ?_⟩;rw[<-List.length_map (f:=λs:Stop=>s.c)];refine λa=>((nO _ EB (by simpa using b)).mono ?_).v;rintro _ _ ⟨rfl,rfl⟩;refine⟨_,_,yi _ EB EB,zO a ?_⟩;exact zg (zi d rfl rfl)
def LR(x:Inst)(t:zM)(a:t.length<=1048576):PP 210 [.agg (VZ x t)] (B (decide (W (yc t)<=x.Q))):=by refine zt func210 ntmps210 results210 λS nx b=>?_;refine EK ?_;intro v0;refine aG none RE mixed trivial ?_;refine zJ (nJ _ a) trivial ?_;exact zg (zi b rfl rfl)
def LS(x:Inst)(t:zM)(a:t.length<=1048576)(hs:∀s∈t,qA s.c):PP 211 [.agg (VZ x t)] (B (decide (W (yJ x (t.map (·.c)))<=x.len))):=by refine zt func211 ntmps211 results211 λS nx b=>?_;refine EK ?_;intro v0;refine aG none Rf mixed trivial ?_;refine zJ (VX _ _ a hs) trivial ?_;exact zg (zi b rfl rfl)
abbrev nP:List PV:=[.fn (.func 208) [] [],I 1,.fn (.func 209) [] [],I 11,.fn (.func 210) [] [],I 12,.fn (.func 211) [] [],I 13]
def LU:PP 156 [] (.lst 4 nP):=by refine zt func156 ntmps156 results156 λS nx a=>?_;refine EK ?_;refine EK ?_;exact zg (zi a rfl rfl)
def V1(x:Inst)(t:zM)(hx:x.y.length<=1048576)(b:t.length<=1048576):PP 122 [.agg (zB x),.agg [L t]] (I (zX x t)):=by
 refine zt func122 ntmps122 results122 λS nx a=>?_;refine EK ?_;intro v0 v1;repeat apply za
 refine zb ?_;refine zq LU ?_;refine zj (zC (λs:Nat × Nat × Nat=>s.1<=4/\(1<=s.1->jF x t=true)/\(2<=s.1->(t.map (·.c)).Nodup)/\(3<=s.1->W (yc t)<=x.Q)/\(4<=s.1->W (yJ x (t.map (·.c)))<=x.len)) (λ(k,v,d)=>[(2,.ptr nx v 0),(3,.ptr (nx+1) d 0),(7,.lst 4 nP),(8,I 4),(9,I k)]) (λ(k,v,d)=>[.cells v 25 (zB x),.cells d 99 [L t]]) (λs=>4-s.1) (0,v0,v1) [] EB EB EB ?_);rintro⟨k,v0,v1⟩ ⟨f,i1,i2,i3,i4⟩;simp only at f i1 i2 i3 i4 ⊢;have e:1<=k->∀s∈t,qA s.c:=λh=>LO hx (by have:=i1 h;unfold jF at this;simp only[Aw]at this;exact this.1)
 match k,f with
 |0,_ =>
 refine EK ?_;refine za (zm rfl (zh (aA (EK ?_))));intros;refine EK ?_;refine zq (LP x t b) ?_;refine zv rfl (λh1=>?_) (λh1=>?_);simp at h1;refine EK ?_;exact zg (zi a rfl (by simp[zX,h1]));simp at h1;refine zh (zb ?_);exact zr (1,v0,v1) [_] (by simp[h1]) EB EC rfl EC
 |1,_ =>
 refine EK ?_;refine za (zm rfl (zh (aA (EK ?_))));intros;refine EK ?_;refine zq (LQ x t b) ?_;refine zv rfl (λh1=>?_) (λh1=>?_);simp at h1;refine EK ?_;exact zg (zi a rfl (by simp[zX,h1,i1 EA]));simp at h1;refine zh (zb ?_);exact zr (2,v0,v1) [_] (by simp[h1,i1 EA]) EB EC rfl EC
 |2,_ =>
 refine EK ?_;refine za (zm rfl (zh (aA (EK ?_))));intros;refine EK ?_;refine zq (LR x t b) ?_;refine zv rfl (λh1=>?_) (λh1=>?_);simp at h1;refine EK ?_;exact zg (zi a rfl (by simp[zX,h1,i1 EA,i2 EA]));simp at h1;refine zh (zb ?_);exact zr (3,v0,v1) [_] (by simp[h1,i1 EA,i2 EA]) EB EC rfl EC
 |3,_ =>
 refine EK ?_;refine za (zm rfl (zh (aA (EK ?_))));intros;refine EK ?_;refine zq (LS x t b (e EA)) ?_;have h3:=DQ.2 (i3 EA);refine zv rfl (λh1=>?_) (λh1=>?_);simp at h1;refine EK ?_;exact zg (zi a rfl (by simp[zX,h1,i1 EA,i2 EA,h3]));simp at h1;refine zh (zb ?_);exact zr (4,v0,v1) [_] (by simp[h1,i1 EA,i2 EA,i3 EA]) EB EC rfl EC
 |4,_ =>
 refine EK ?_;refine za (zk rfl (zx (EK ?_)));exact zg (zi a rfl (by simp[zX,i1 EA,i2 EA,DQ.2 (i3 EA),DQ.2 (i4 EA)]))
def yu(x:Inst)(d:zo):Int :=
 match d.find? (λt=>zX x t != 0) with
 |some t=>zX x t
 |none=>if ¬(d.flatten.map (·.c)).Nodup then 11 else if x.X<d.length then 14 else 0
def nQ{p:α->Bool}{l:List α}{a:α}(h:(l.take k).find? p=none)(b:l.take (k+1)=l.take k++[a])(c:p a=false):(l.take (k+1)).find? p=none:=by rw[b,List.find?_append,h];simp[c]
def nR{p:α->Bool}{l:List α}{a:α}(h:(l.take k).find? p=none)(b:l.drop k=a::l.drop (k+1))(c:p a=true):l.find? p=some a:=by
 have e:l=l.take k++a::l.drop (k+1):=by rw[<-b,List.take_append_drop]
 rw[e,List.find?_append,h];simp[c]
def gg(x:Inst)(d:zo)(hx:x.y.length<=1048576)(hn:d.length<=1048576)(l:∀t∈d,t.length<=1048576)(hf:d.flatten.length<=1048576):PP 78 [.agg (zB x),.agg [L d]] (I (yu x d)):=by
 refine zt func78 ntmps78 results78 λS nx g=>?_;refine EK ?_;intro v0 v1;repeat apply za
 refine zb ?_;refine zj (zC (λs:Nat × Nat × Nat=>s.1<=d.length/\(d.take s.1).find? (λt=>zX x t != 0)=none) (λ(k,v,h)=>[(2,.ptr nx v 0),(3,.ptr (nx+1) h 0),(9,L d),(10,I d.length),(11,I k)]) (λ(k,v,h)=>[.cells v 25 (zB x),.cells h 96 [L d]]) (λs=>d.length-s.1) (0,v0,v1) [] EB EB EB ?_);rintro⟨k,v0,v1⟩ ⟨m,e⟩;simp only at m e ⊢;refine EK ?_;refine za (zv rfl (λhc=>?_) (λhc=>?_));simp at hc;obtain⟨t,tl,n,o,a3,p⟩:=zF rfl d k hc;refine zh (aA (aF [] (zn hc p) ?_));intros;refine EK ?_;refine zq (V1 x t hx (l t (Aa n))) ?_;refine EK ?_;refine zv rfl (λh1=>?_) (λh1=>?_);simp at h1;refine EK ?_;exact zg (zi g rfl (by simp only[yu,nR e o (by simpa using h1)];simp));simp at h1;refine zh (zb ?_);exact zr (k+1,v0,v1) [_] ⟨hc,nQ e a3 (by simpa using h1)⟩ EF (by simp[zu k EA]) rfl EC;simp at hc;have i:k=d.length:=EA;subst i;rw[Ah]at e;have j:=nL d hn hf;have a:yu x d=if ¬(d.flatten.map (·.c)).Nodup then 11 else if x.X<d.length then 14 else 0:=by unfold yu;rw[e]
 generalize d.flatten=fl at *;refine zx ?_;repeat apply za
 refine zb ?_;refine zq j ?_;refine λb=>((VW fl hf _ _ xM).mono ?_).v;rintro _ _ ⟨q,rfl,rfl⟩;refine⟨_,_,WE _,xA [] Nat.add_assoc b ?_⟩;rw[<-List.length_map (f:=λs:Stop=>s.c)];refine λb=>((nO _ EB (by simpa using hf)).mono ?_).v;rintro _ _ ⟨rfl,rfl⟩;refine⟨_,_,yi _ EB EB,zO b ?_⟩;refine zv rfl (λh2=>?_) (λh2=>?_);simp at h2;refine EK ?_;exact zg (zi g rfl (by simp[a,h2]));simp at h2;refine zh ?_;repeat apply za
 refine zb ?_;refine zv rfl (λh3=>?_) (λh3=>?_);simp at h3;refine EK ?_;exact zg (zi g rfl (by simp[a,h2,h3]));simp at h3;refine zh (EK ?_);exact zg (zi g rfl (by simp[a,h2,DQ.2 h3]))
def jx(l:List Stop):zo:=l.map λs=>[s]
def LV(l:List Stop)(hl:l.length<=1048576):PP 306 [L l] (.agg [L (jx l)]):=by
 refine zt func306 ntmps306 results306 λS nx d=>?_;refine EK ?_;intro v0;refine EK ?_;intro v1;refine za (qy 1 0 99 1 rfl rfl λa=>?_);refine EK ?_;refine zj (zC (λs:Nat × zo × Nat × Nat × Nat=>s.1<=l.length/\s.2.1=jx (l.take s.1)) (λ(k,out,v,b,a)=>[(2,.ptr nx v 0),(3,.ptr (nx+1) b 0),(6,L l),(7,I l.length),(8,I k)]) (λ(k,out,v,b,a)=>[.cells v 96 [.sc (.slice none 0 0)],.cells b 96 [.sl (nx+2) a 1 0 out.length],.cells a 99 (out.flatMap Enc.enc)]) (λs=>l.length-s.1) (0,[],v0,v1,a) [] (by simp[jx]) EB EB ?_);rintro⟨k,out,v0,v1,a⟩ ⟨e,ho⟩;simp only at e ho ⊢;refine EK ?_;refine za (zv rfl (λhc=>?_) (λhc=>?_));simp at hc;obtain⟨s,tl,h,i,a3,j,f⟩:=el 2 rfl l k hc;refine zh (aA (aF [] (zn hc f) ?_));intros;have g:out.length=k:=by rw[ho];simp[jx];omega
 refine zb ?_;refine⟨by omega,?_⟩;refine zb ?_;exact zr (k+1,out++[[s]],v0,v1,a+1) [_] (by simp[a3,ho,jx];omega) EF (by simp[zu k EA]) rfl EC;simp at hc;have c:k=l.length:=EA;subst c;refine zx (EK ?_);refine zY 2 rfl ?_;exact zg (zi d EC (by simp[ho]))
def gh(s:Stop):PP 301 [.agg [I s.c,I s.q]] (.agg [L [s]]):=by refine zt func301 ntmps301 results301 λS nx a=>?_;refine EK ?_;intro v0 v1;refine EK ?_;exact EL a
def nS(l:List Int)(hl:l.length<=1048576)(hs:l.Pairwise (·<=·)):PP 302 [L l] (B (decide (¬l.Nodup))):=by
 refine zt func302 ntmps302 results302 λS nx f=>?_;refine EK ?_;repeat apply za
 refine zb ?_;refine zj (zC (λj:Nat=>(j=0\/j+1<=l.length)/\(l.take (j+1)).Nodup) (λj=>[(0,L l),(3,I ((j+1:Nat):Int))]) (λ_=>[]) (λj=>l.length-j) 0 [] (by cases l<;>simp) EB EB ?_);rintro j ⟨q,a⟩;repeat apply za
 refine zb ?_;refine zv rfl (λhc=>?_) (λhc=>?_);simp at hc;have d:j+1<l.length:=EA;obtain⟨c,g,b1,b2,b3,h⟩:=zF rfl l (j+1) d;obtain⟨p,i,k,r,m,e2⟩:=zF rfl l j EA;have n:IntKind.i64.wrap (j:Int)=j:=wr _ EA EA;have g1:(j:Int)<l.length:=EA;have o:(j:Int)+1<l.length:=EA;have g3:0<=(j:Int)+1:=EA;refine zh (aA (aG none Rf mixed (zU n h e2 g1 o g3) ?_));refine zv rfl (λb=>?_) (λb=>?_);simp at b;refine EK ?_;exact zg (zi f rfl (by simp;exact nI b1 (by rw[k,b]) EA));simp at b;refine zh (zb ?_);have w2:IntKind.i64.wrap ((j:Int)+1+1)=((j+1+1:Nat):Int):=by rw[wr _ EA EA];omega
 exact zr (j+1) [] ⟨by omega,nN hs a m b3 (λe=>b e.symm)⟩ EA (by simp[w2]) rfl EB;simp at hc;refine zx (EK ?_);rw[Ae EA]at a;exact zg (zi f rfl (by simp[a]))
def nT(ss:List Stop)(e:ss.length<=1048576):PP 303 [L ss] (L (qt (ss.map (·.c)))):=by
 have a:=λS nx f=>VW ss e S nx f;obtain⟨zs,d⟩:∃zs,zs=ss.map (·.c):=⟨_,rfl⟩;have g:ss.length=zs.length:=by rw[d];simp
 rw[<-d,g]at a;rw[<-d];have h:=JB zs;refine zt func303 ntmps303 results303 λS nx f=>?_;refine EK ?_;refine EK ?_;refine λb=>((a _ _ xM).mono ?_).v;rintro _ _ ⟨v1,rfl,rfl⟩;refine⟨_,_,WE _,xA [] Nat.add_assoc b ?_⟩;refine EK ?_;refine λb=>((cL zs EB EA).mono ?_).v;rintro _ _ rfl;refine⟨_,_,yi _ EB EB,zO b ?_⟩;generalize qt zs=c at *;rw[<-h];refine zY 1 rfl ?_;refine EK ?_;exact EL f
def vM(x:Inst)(l:List Stop):Int :=
 match l.find? (λs=>zX x [s] != 0) with
 |some s=>zX x [s]
 |none=>if ¬(l.map (·.c)).Nodup then 11 else 0
def LW(x:Inst)(l:List Stop)(hx:x.y.length<=1048576)(hl:l.length<=1048576):PP 286 [.agg (zB x),L l] (I (vM x l)):=by
 have e:=nT l hl;have b:=nS (qt (l.map (·.c))) (by rw[JB];simpa using hl) (VY _);have f:decide (¬(qt (l.map (·.c))).Nodup)=decide (¬(l.map (·.c)).Nodup):=by rw[decide_eq_decide,gf]
 rw[f]at b;refine zt func286 ntmps286 results286 λS nx g=>?_;refine EK ?_;intro v0;repeat apply za
 refine zb ?_;refine zj (zC (λk:Nat=>k<=l.length/\(l.take k).find? (λs=>zX x [s] != 0)=none) (λk=>[(1,L l),(2,.ptr nx v0 0),(8,L l),(9,I l.length),(10,I k)]) (λ_=>[.cells v0 25 (zB x)]) (λk=>l.length-k) 0 [] EB EB EB ?_);rintro k ⟨m,d⟩;refine EK ?_;refine za (zv rfl (λhc=>?_) (λhc=>?_));simp at hc;obtain⟨s,tl,n,h,a3,i,j⟩:=el 2 rfl l k hc;refine zh (aA (aF [] (zD hc i j) ?_));intro v1;refine aG none RR mixed trivial ?_;refine zJ (gh s) trivial ?_;refine zJ (V1 x [s] hx EB) trivial ?_;refine EK ?_;refine zv rfl (λh1=>?_) (λh1=>?_);simp at h1;refine EK ?_;exact zg (zi g rfl (by simp only[vM,nR d h (by simpa using h1)];simp));simp at h1;refine zh (zb ?_);exact zr (k+1) [_] ⟨hc,nQ d a3 (by simpa using h1)⟩ EA (by simp[zu k EA]) rfl EC;simp at hc;obtain rfl:k=l.length:=EA;rw[Ah]at d;have a:vM x l=if ¬(l.map (·.c)).Nodup then 11 else 0:=by unfold vM;rw[d]
 refine zx ?_;repeat apply za
 refine zb ?_;refine zq e ?_;refine zq b ?_;by_cases h2:(l.map (·.c)).Nodup;repeat apply za
 refine zk (by simp[h2]) ?_;refine zh (EK ?_);exact zg (zi g EC (by simp[a,h2,zp]));repeat apply za
 refine zm (by simp[h2]) ?_;refine EK ?_;exact zg (zi g EC (by simp[a,h2,zp]))
def LX(x:Inst)(d:zo)(a:DayOk d):PP 53 [.agg (zB x),.agg [L d]] (I (W (yf x d))):=by
 have g:=a.1;refine zt func53 ntmps53 results53 λS nx h=>?_;refine EK ?_;intro v0 v1;refine EK ?_;repeat apply za
 refine zb ?_;refine zj (zC (λs:Nat=>s<=d.length) (λk=>[(2,.ptr nx v0 0),(3,.ptr (nx+1) v1 0),(5,I (W (yf x (d.take k)))),(6,I k)]) (λ_=>[.cells v0 25 (zB x),.cells v1 96 [L d]]) (λs=>d.length-s) 0 [] EB (by simp[yf]) EB ?_);rintro k m;repeat apply za
 refine zb ?_;refine zv rfl (λhc=>?_) (λhc=>?_);simp at hc;obtain⟨t,tl,i,n,a3,j⟩:=zF rfl d k hc;have b:=Aa i;have e:=a.2 t b;have f:=a.3 t b;refine zh (aA (zA none Rh mixed (zn hc j) ?_));refine zJ (LK t e) trivial ?_;refine zJ (Lx x (t.map (·.c)) (by simpa using e) (by simpa using f)) trivial ?_;have l:W (W (yf x (d.take k))+W (yJ x (t.map (·.c))))=W (yf x (d.take (k+1))):=by rw[a3,nK,uN,cx]
 refine zb ?_;exact zr (k+1) [] hc EA (by simp[zu k EA];exact l) rfl EB;simp at hc;obtain rfl:k=d.length:=EA;rw[Ah];refine zx (EK ?_);exact EL h
structure KeyOk {α:Type} [DecidableEq α] (d:TypeDesc) (key:α->Value):Prop where
 same:∀a b,Instr.sameNow d (key a) (key b)=some (decide (a=b))
def XA(k:IntKind):KeyOk (.int k) (λi:Int=>Value.int k i):=⟨λa b=>by simp[Instr.sameNow]⟩
def MapIs{α β:Type}(key:α->Value)(enc:β->PV)(es:List (Value × PV))(g:α->Option β):Prop :=
 ∃l:List (α × β),es=l.map (λx=>(key x.1,enc x.2))/\(l.map (·.1)).Nodup/\(∀a b,(a,b)∈l<->g a=some b)
def jG{α β:Type}[DecidableEq α](g:α->Option β)(a:α)(v:Option β):α->Option β:=λx=>if x=a then v else g x
def nU(key:α->Value)(enc:β->PV):MapIs key enc [] (λ_=>none):=⟨[],rfl,by simp,by simp⟩
theorem nV[DecidableEq α]{d:TypeDesc}{key:α->Value}{enc:β->PV}(b:KeyOk d key)(a:α):∀(l:List (α × β)) (i:Nat),a ∉ l.map (·.1)->jO d (key a) (l.map λx=>(key x.1,enc x.2)) i=some none
 |[],_,_=>rfl
 |x::l,i,h=>by simp only[Ap,Al,not_or]at h;simp only[Ap,jO,b.same,decide_eq_false h.1];exact nV b a l (i+1) h.2
theorem nW[DecidableEq α]{d:TypeDesc}{key:α->Value}{enc:β->PV}(c:KeyOk d key)(a:α)(b:β):∀(l:List (α × β)) (i:Nat),(l.map (·.1)).Nodup->(a,b)∈l ->
  ∃j,l[j]?=some (a,b)/\jO d (key a) (l.map λx=>(key x.1,enc x.2)) i=some (some (i+j,enc b))
 |[],_,_,h=>by cases h
 |x::l,i,hn,h=>by
  simp only[Ap,Cr]at hn;by_cases e:a=x.1;have hx:x=(a,b):=by obtain h|h:=Al.1 h;exact h.symm;simp_all
  subst hx;exact⟨0,rfl,by simp[jO,c.same]⟩;have hm:(a,b)∈l:=by obtain h|h:=Al.1 h;grind;exact h
  obtain⟨j,h1,h2⟩:=nW c a b l (i+1) hn.2 hm;refine⟨j+1,by simpa using h1,?_⟩;simp only[Ap,jO,c.same,decide_eq_false e];rw[h2,show i+1+j=i+(j+1) by omega]
theorem MapIs.find[DecidableEq α]{d:TypeDesc}{key:α->Value}{enc:β->PV}{es:List (Value × PV)}{g:α->Option β}(o:KeyOk d key)(h:MapIs key enc es g)(a:α):
  ∃c,jO d (key a) es 0=some c/\(g a=none->c=none)/\(∀b,g a=some b->∃j,c=some (j,enc b))/\(∀b,MapIs key enc (jD (key a) (enc b) es c) (jG g a (some b)))/\MapIs key enc (VO es c) (jG g a none):=by
 obtain⟨l,rfl,hn,k⟩:=h;cases f:g a with
 |none =>
 have m:a ∉ l.map (·.1):=by intro hm;obtain⟨x,hx,rfl⟩:=Aj.1 hm;have:=(k x.1 x.2).1 hx;rw[f]at this;cases this
 have r:∀b,MapIs key enc (jD (key a) (enc b) (l.map λx=>(key x.1,enc x.2)) none) (jG g a (some b)):=λb=>by
  refine⟨l++[(a,b)],by simp[jD],?_,λa' b'=>?_⟩;rotate_left
  focus
   unfold jG;by_cases e:a'=a;subst e;simp only[if_pos,AB,A5,k,f];simp[eq_comm];simp[AB,k,e]
  rw[List.map_append,DP];refine⟨hn,by simp,λx hx y p=>?_⟩;simp at p;subst p;exact λe=>m (e ▸ hx)
 refine⟨none,nV o a l 0 m,(by intro _;rfl),(by intro b hb;cases hb),r,l,by simp[VO],hn,λa' b'=>?_⟩;grind[jG]
 |some b0 =>
 obtain⟨j,h1,h2⟩:=nW (enc:=enc) o a b0 l 0 hn ((k a b0).2 f);have v:j<l.length:=(Ad.1 h1).1;have s:l[j]=(a,b0):=(Ad.1 h1).2;have n:∀(i:Nat) (hi:i<l.length),l[i].1=a->i=j:=by intro i hi w;have z:=BI.1 hn;obtain h|h|h:=Nat.lt_trichotomy i j;grind;exact h;grind
 suffices q:(∀b,MapIs key enc (jD (key a) (enc b) (l.map λx=>(key x.1,enc x.2)) (some (0+j,enc b0))) (jG g a (some b)))/\MapIs key enc (VO (l.map λx=>(key x.1,enc x.2)) (some (0+j,enc b0))) (jG g a none) from
  ⟨some (0+j,enc b0),h2,EB,EB,q.1,q.2⟩
 refine⟨λb=>⟨l.set j (a,b),?_,?_,λa' b'=>?_⟩,l.eraseIdx j,?_,?_,λa' b'=>?_⟩;simp[jD];grind[List.map_set];unfold jG;rw[Bv];constructor;grind;intro h;by_cases e:a'=a;rw[if_pos e]at h;cases h;exact⟨j,by simp_all⟩;rw[if_neg e]at h;obtain⟨i,hi⟩:=Bv.1 ((k a' b').2 h);refine⟨i,?_⟩;grind;simp only[VO,A3];apply Bg;grind;grind;unfold jG;by_cases e:a'=a;rw[if_pos e];refine⟨λh=>?_,λh=>by cases h⟩;obtain⟨i,hi⟩:=Bv.1 h;grind;rw[if_neg e,<-k];refine⟨λh=>(List.eraseIdx_sublist l j).subset h,λh=>?_⟩;obtain⟨i,hi⟩:=Bv.1 h;have t:i≠j:=by rintro rfl;rw[h1]at hi;cases hi;exact e rfl
 rw[Bv];by_cases u:i<j;exact⟨i,by grind⟩;refine⟨i-1,?_⟩;grind
open Hp
abbrev qM:Int->Int->Bool:=λa b=>decide (a<b)
def YA:Str qM:=⟨λa=>by simp,λa b c h1 h2=>by simp at *;omega,λa b h1 h2=>by simp at *;omega⟩
def yt(x:Int × Int):List PV:=[.sc (.int .i64 x.1),.sc (.int .i64 x.2)]
theorem JC(x:Int × Int):(yt x).length=2:=rfl
abbrev jy(x:Int):Value:=.int .i64 x
structure PosOk (g:Int->Option Nat) (l:zQ Int):Prop where
 here:∀i,i<l.length->g (zK l i).1=some i
 gone:∀id,(∀i,i<l.length->(zK l i).1≠id)->g id=none
abbrev gi(i:Nat):PV:=.sc (.int .i64 (i:Int))
def RowIs(cs:List PV)(l:zQ Int):Prop:=∃rest,cs=l.flatMap yt++rest
variable {cs:List PV}
theorem RowIs.at{l:zQ Int}(h:RowIs cs l)(i:Nat)(hi:i<l.length):∃tl,cs.drop (i*2)=.sc (.int .i64 (zK l i).1)::.sc (.int .i64 (zK l i).2)::tl:=by
 obtain⟨rest,rfl⟩:=h;refine⟨(l.drop (i+1)).flatMap yt++rest,?_⟩;rw[BY (by rw[Ww yt 2 JC];omega),mK yt 2 JC l i hi];have:zK l i=l[i]:=by unfold zK;simp[hi]
 rw[this];rfl
theorem RowIs.big{l:zQ Int}(h:RowIs cs l):l.length*2<=cs.length:=by obtain⟨rest,rfl⟩:=h;rw[Ak,Ww yt 2 JC];omega
theorem RowIs.put{l:zQ Int}(h:RowIs cs l)(i:Nat)(hi:i<l.length)(x:Int × Int):RowIs (yl cs (i*2) [.sc (.int .i64 x.1),.sc (.int .i64 x.2)]) (l.set i x):=by obtain⟨rest,rfl⟩:=h;refine⟨rest,?_⟩;have hl:(l.flatMap yt).length=l.length*2:=Ww yt 2 JC l;show List.take (i*2) (l.flatMap yt++rest)++yt x++List.drop (i*2+2) (l.flatMap yt++rest)=_;rw[BF EA,Jx yt 2 JC,show i*2+2=(i+1)*2 by omega,BY EA,Wv yt 2 JC];simp_all[AK]
theorem RowIs.take{l:zQ Int}(h:RowIs cs l):cs.take (l.length*2)=l.flatMap yt:=by obtain⟨rest,rfl⟩:=h;rw[BF (by rw[Ww yt 2 JC];omega),Jx yt 2 JC,Ah]
structure HS (S:Store) (hid hv rid mid mv:Nat) (l:zQ Int) (g:Int->Option Nat):Prop where
 h:∃ver,S hid=.cells hv 440 [.sl rid ver 2 0 l.length,.mp mid mv]/\∃cs,S rid=.cells ver 444 cs/\RowIs cs l
 m:∃es,S mid=.map mv es/\MapIs jy gi es g
 ne:hid≠rid/\hid≠mid/\rid≠mid
 len:l.length<=2147483648
def Offd(S:Store)(ids:List Nat)(S':Store):Prop:=∀o,o ∉ ids->S' o=S o\/S o=.dead
def Off(S:Store)(ids:List Nat)(S':Store):Prop:=∀o,o ∉ ids->S' o=S o
theorem Offd.refl(S:Store)(ids:List Nat):Offd S ids S:=λ_ _=>.inl rfl
variable {ids:List Nat}{o:Nat}
theorem Offd.set{T:Store}(h:Offd S ids T)(ho:o∈ids\/S o=.dead)(x:Ob):Offd S ids (T.set o x):=by intro i hi;by_cases e:i=o;simp_all;rw[jX _ _ _ _ e];exact h i hi
theorem Off.offd{T:Store}(h:Off S ids T):Offd S ids T:=λo ho=>.inl (h o ho)
theorem Off.trans{T U:Store}(h:Off S ids T)(k:Off T ids U):Off S ids U:=λo ho=>(k o ho).trans (h o ho)
def cut(S:Store)(ids:List Nat)(S':Store):Store:=λo=>if o∈ids then S' o else S o
def Qc(S:Store)(ids:List Nat)(S':Store):Off S ids (cut S ids S'):=λo ho=>by simp[cut,ho]
def LY(S:Store)(ids:List Nat)(S':Store)(h:o∈ids):cut S ids S' o=S' o:=by simp[cut,h]
variable {S':Store}
def Qd(h:Offd S ids S'):∀o,cut S ids S' o=S' o\/cut S ids S' o=.dead:=by intro o;unfold cut;split;simp;rename_i ho;obtain h|h:=h o ho<;>simp_all
variable {mid:Nat}{g:Int->Option Nat}
theorem HS.congr{T:Store}{l:zQ Int}(h:HS S d k i mid n l g)(e:∀o∈[d,i,mid],T o=S o):HS T d k i mid n l g:=by obtain⟨ver,h1,cs,h2,a⟩:=h.h;obtain⟨es,h3⟩:=h.m;exact⟨⟨ver,by simp_all,cs,by simp_all,a⟩,⟨es,by simp_all⟩,h.ne,h.len⟩
theorem HS.cut{T:Store}{l:zQ Int}(h:HS T d k i mid n l g):HS (cut S [d,i,mid] T) d k i mid n l g:=h.congr λ_ ho=>LY _ _ _ ho
theorem uo(S:Store)(o:Nat)(x:Ob)(i:Nat):S.set o x i=if i=o then x else S i:=by grind[q11,jX]
def nX{x:Ob}(h:S.set o x i=.dead)(hx:x≠.dead):i≠o/\S i=.dead:=by grind[uo]
def Zk{x:Ob}(h:S o=x)(hx:x≠.dead)(d:S i=.dead):o≠i:=EI
def LZ{l:zQ Int}(hs:HS S d k i mid n l g):
  PCalls prog 404 [.ptr d k 0] S (λp S'=>p=ye l.length/\S'=S):=by
 obtain⟨ver,h1,cs,h2,b⟩:=hs.h;refine uM func404 rfl ntmps404 (congrArg Array.toList results404) EB ?_;refine za (jl EG EC (za (qm [] EG λK a=>?_)));simp[h1];refine a _ _ (zg ?_);simp[Yu,ye]
variable {hid hv rid:Nat}
theorem Ma{mv:Nat}{l:zQ Int}(hs:HS S hid hv rid mid mv l g)(i j:Nat)(hi:i<l.length)(v:j<l.length):
  PCalls prog 405 [.ptr hid hv 0,ye i,ye j] S (λp S'=>p=um (il qM (zK l i) (zK l j))/\S'=S):=by
 obtain⟨ver,h1,cs,h2,w⟩:=hs.h;obtain⟨x,y⟩:=w.at i hi;obtain⟨z,e2⟩:=w.at j v;refine uM func405 rfl ntmps405 (congrArg Array.toList results405) EB ?_;refine za (jl EG EC (za ?_));refine Xt (some [hid,rid]) (Row.pures [0,1,2,3,4,5,6,7,8,9,10,11,12,13] (.alt 14 (.alt 15 (.alt 16 (.alt 17 (.done) .stop) .stop) .stop) (.alt 15 (.alt 14 (.alt 16 (.alt 17 (.done) .stop) .stop) .stop) .stop))) mixed EG EG EG λK hK=>?_;have z1:hid≠rid:=hs.ne.1;have tail:∀(F:Nat->PV) (T:Store) (a b:Nat),F 7=.ptr a 0 0->F 8=.ptr b 0 0->T a=.cells 0 444 (yt (zK l i))->T b=.cells 0 444 (yt (zK l j))->Offd S [] T->K F T:=by intro F T a b n q ta r f;have k:∀o,S o=T o\/S o=.dead:=λo=>(f o EB).imp Eq.symm id;refine hK _ _ ?_;refine za (za (qm [] EG λK' s=>?_));simp[n,q,ta,r,yt];refine s _ _ (zv rfl (λhc=>?_) (λhc=>?_));refine za (qm [] EG λK2 d=>?_);simp[n,q,ta,r,yt];refine d _ _ (zg ⟨_,S,rfl,⟨?_,rfl⟩,k⟩);simp at hc;simp[il,hc,um];refine aB (qm [] EG λK2 d=>?_);simp[n,q,ta,r,yt];refine d _ _ (zg ⟨_,S,rfl,⟨?_,rfl⟩,k⟩);simp at hc;simp[il,hc,um]
 simp[h1,h2,hi,v,y,e2,ye];constructor
 .refine Xu rfl EC EB λa e=>?_;have n1:=Zk h1 EB e;have m:=Zk h2 EB e;simp[h1,h2,uo,n1,m];refine Xu rfl EC EB λb hb=>?_;have c:=nX hb EB;have t:=Zk h1 EB c.2;have u:=Zk h2 EB c.2;simp[h1,h2,uo,n1,m,c,t,u,c.1.symm];exact tail _ _ a b rfl rfl (by simp[uo,c.1,c.1.symm,yt]) (by simp[uo,c.1,c.1.symm,yt]) (by repeat (first|exact Offd.refl _ _|refine Offd.set ?_ (by first|exact .inr e|exact .inr c.2) _))
 refine Xu rfl EC EB λa e=>?_;have n1:=Zk h1 EB e;have m:=Zk h2 EB e;simp[h1,h2,uo,n1,m];refine Xu rfl EC EB λb hb=>?_;have c:=nX hb EB;have t:=Zk h1 EB c.2;have u:=Zk h2 EB c.2;simp[h1,h2,uo,n1,m,c,t,u,c.1.symm];exact tail _ _ b a rfl rfl (by simp[uo,c.1,c.1.symm,yt]) (by simp[uo,c.1,c.1.symm,yt]) (by repeat (first|exact Offd.refl _ _|refine Offd.set ?_ (by first|exact .inr e|exact .inr c.2) _))
def Mb{mv:Nat}{l:zQ Int}(hs:HS S hid hv rid mid mv l g)(i j:Nat)(hi:i<l.length)(c:j<l.length):
  PCalls prog 408 [.ptr hid hv 0,ye i,ye j] S (λ_ S'=>Off S [hid,rid,mid] S'/\HS S' hid hv rid mid mv (swp l i j) (jG (jG g (zK (swp l i j) i).1 (some i)) (zK (swp l i j) j).1 (some j))):=by
 obtain⟨ver,h1,cs,h2,e⟩:=hs.h;obtain⟨es,h3,h4⟩:=hs.m;obtain⟨z1,z2,z3⟩:=hs.ne;obtain⟨q,f⟩:=e.at i hi;obtain⟨r,e2⟩:=e.at j c;have b0:=e.big;have b1:i*2+2<=cs.length:=EA;have b2:j*2+2<=cs.length:=EA;refine uM func408 rfl ntmps408 (congrArg Array.toList results408) EB ?_;refine za (Xt (some [hid]) (Row.pures [0,1,2,3,4,5,6,7,8,9,10,11,12,13,14,15,17,18,19,20,21,22] (.alt 16 (.alt 23 RH .stop) (.alt 23 (.alt 16 RH .stop) .stop))) mixed EG EG EG λK b=>?_);have r1:=(e.put i hi (zK l j)).put j (by simpa using c) (zK l i);have s:(l.set i (zK l j)).set j (zK l i)=swp l i j:=rfl;rw[s]at r1;have d:(swp l i j).length=l.length:=Z2 l i j;have tail:∀(F:Nat->PV),F 0=.ptr hid hv 0->F 1=ye i->F 2=ye j->K F (S.set rid (.cells ver 444 (yl (yl cs (i*2) [.sc (.int .i64 (zK l j).1),.sc (.int .i64 (zK l j).2)]) (j*2) [.sc (.int .i64 (zK l i).1),.sc (.int .i64 (zK l i).2)]))):=by intro F t u v;refine b _ _ ?_;generalize w:yl (yl cs (i*2) [.sc (.int .i64 (zK l j).1),.sc (.int .i64 (zK l j).2)]) (j*2) [.sc (.int .i64 (zK l i).1),.sc (.int .i64 (zK l i).2)]=cs' at r1;obtain⟨q,f⟩:=r1.at i EA;obtain⟨r,e2⟩:=r1.at j EA;have b0:=r1.big;have b1:i*2+2<=cs'.length:=EA;have b2:j*2+2<=cs'.length:=EA;have x:Offd S [hid,rid,mid] (S.set rid (.cells ver 444 cs')):=(Offd.refl _ _).set (.inl EB) _;have k:S.set rid (.cells ver 444 cs') hid=_:=(jX _ _ _ _ z1).trans h1;have n:S.set rid (.cells ver 444 cs') rid=_:=q11 _ _ _;have t3:S.set rid (.cells ver 444 cs') mid=_:=(jX _ _ _ _ (Ne.symm z3)).trans h3;generalize S.set rid (.cells ver 444 cs')=T at x k n t3;obtain⟨a,m1,_,_,m2,_⟩:=h4.find (XA .i64) (zK (swp l i j) i).1;refine za (Xt (some [hid,rid]) RK mixed EG EG EG λK b=>?_);simp -implicitDefEqProofs [t,u,v,k,n,hi,c,f,e2,ye,b1,b2];refine QU (.inl rfl) underlying379 underlying3 rfl rfl rfl t3 m1 ?_;simp -implicitDefEqProofs [jX,z2,z3,k,n];refine b _ _ ?_;clear b;have o:T.set mid (.map mv (jD (jy (zK (swp l i j) i).1) (ye i) es a)) hid=_:=(jX _ _ _ _ z2).trans k;have p:T.set mid (.map mv (jD (jy (zK (swp l i j) i).1) (ye i) es a)) rid=_:=(jX _ _ _ _ z3).trans n;have y:T.set mid (.map mv (jD (jy (zK (swp l i j) i).1) (ye i) es a)) mid=_:=q11 _ _ _;have z:Offd S [hid,rid,mid] (T.set mid (.map mv (jD (jy (zK (swp l i j) i).1) (ye i) es a))):=x.set (.inl EB) _;have m3:=m2 i;obtain⟨a0,m4,_,_,m5,_⟩:=m3.find (XA .i64) (zK (swp l i j) j).1;show PW _ _ _ _ _ _ _ (T.set mid (.map mv (jD (jy (zK (swp l i j) i).1) (ye i) es a)));change MapIs jy gi (jD (jy (zK (swp l i j) i).1) (ye i) es a) _ at m3;generalize T.set mid (.map mv (jD (jy (zK (swp l i j) i).1) (ye i) es a))=U at o p y z;refine Xt (some [hid,rid]) RK mixed EG EG EG λK b=>?_;simp -implicitDefEqProofs [t,u,v,o,p,hi,c,f,e2,ye,b1,b2];refine QU (.inl rfl) underlying379 underlying3 rfl rfl rfl y m4 ?_;simp -implicitDefEqProofs [jX,z2,z3,o,p];refine b _ _ ⟨_,_,rfl,⟨Qc _ _ _,HS.cut ⟨⟨ver,?_,cs',?_,r1⟩,⟨_,?_,m5 j⟩,⟨z1,z2,z3⟩,?_⟩⟩,Qd (z.set (.inl EB) _)⟩;rw[jX _ _ _ _ z2,o,d];rw[jX _ _ _ _ z3,p];exact q11 _ _ _;rw[d];exact hs.len
 simp -implicitDefEqProofs [h1,h2,hi,c,f,e2,ye,b1,b2,uo,z1];exact⟨tail _ rfl rfl rfl,tail _ rfl rfl rfl⟩
def Mc:ElemOk prog 436 444 (.agg #[.int .i64 0,.int .i64 0]) 16 :=
 ⟨underlying436,by simp,by simp,by simp,by simp,by omega⟩
def Md{mv:Nat}{l:zQ Int}(hs:HS S hid hv rid mid mv l g)(x:Int × Int)(hn:l.length+1<=2147483648):
  PCalls prog 407 [.ptr hid hv 0,.ifc 444 (.agg (yt x))] S (λ_ S'=>Off S [hid,rid,mid] S'/\HS S' hid hv rid mid mv (l++[x]) (jG g x.1 (some l.length))):=by
 obtain⟨ver,h1,cs,h2,k⟩:=hs.h;obtain⟨es,h3,v⟩:=hs.m;obtain⟨z1,z2,z3⟩:=hs.ne;have b0:=k.big;refine uM func407 rfl ntmps407 (congrArg Array.toList results407) EB ?_;refine za (qm [] EG λK c=>?_);simp -implicitDefEqProofs [yt];refine Kl rfl underlying444 (by intro ms;simp) EC (p:=.tup [.agg (yt x),.sc (.bool true)]) (by simp[fE,yt]) ?_;simp -implicitDefEqProofs [yt];refine Xu rfl EC EB λa d=>?_;simp -implicitDefEqProofs [yt];have n1:=Zk h1 EB d;have n:=Zk h2 EB d;have f:=Zk h3 EB d;refine c _ _ ?_;clear c;have o:Offd S [hid,rid,mid] (S.set a (.cells 0 444 (yt x))):=(Offd.refl _ _).set (.inr d) _;have e:S.set a (.cells 0 444 (yt x)) hid=_:=(jX _ _ _ _ n1).trans h1;have q:S.set a (.cells 0 444 (yt x)) rid=_:=(jX _ _ _ _ n).trans h2;have t3:S.set a (.cells 0 444 (yt x)) mid=_:=(jX _ _ _ _ f).trans h3;have t4:S.set a (.cells 0 444 (yt x)) a=_:=q11 _ _ _;show PW _ _ _ _ _ _ _ (S.set a (.cells 0 444 (yt x)));generalize S.set a (.cells 0 444 (yt x))=T at o e q t3 t4;refine za (jl EG EC (zv rfl (λ_=>?_) (λh=>by simp at h)));obtain⟨b,w,_,_,y,_⟩:=v.find (XA .i64) x.1;refine za (Xt (some [hid,a]) (Row.pures [0,1,2,3,4,5,6,7,8,9,10] (.alt 11 (.done) .stop)) mixed EG EG EG λK c=>?_);simp -implicitDefEqProofs [e,t4,yt];refine QU (.inl rfl) underlying379 underlying3 rfl rfl rfl t3 w ?_;simp -implicitDefEqProofs [jX,z2,f.symm,e,t4,yt];refine c _ _ ?_;clear c;have r:=y l.length;have i:T.set mid (.map mv (jD (jy x.1) (ye l.length) es b)) hid=_:=(jX _ _ _ _ z2).trans e;have s:T.set mid (.map mv (jD (jy x.1) (ye l.length) es b)) rid=_:=(jX _ _ _ _ z3).trans q;have t:T.set mid (.map mv (jD (jy x.1) (ye l.length) es b)) mid=_:=q11 _ _ _;have j:T.set mid (.map mv (jD (jy x.1) (ye l.length) es b)) a=_:=(jX _ _ _ _ f.symm).trans t4;have u:Offd S [hid,rid,mid] (T.set mid (.map mv (jD (jy x.1) (ye l.length) es b))):=o.set (.inl EB) _;show PW _ _ _ _ _ _ _ (T.set mid (.map mv (jD (jy x.1) (ye l.length) es b)));change MapIs jy gi (jD (jy x.1) (ye l.length) es b) _ at r;generalize T.set mid (.map mv (jD (jy x.1) (ye l.length) es b))=U at i s t j u;refine Xt (some [a]) Rt mixed EG EG EG λK c=>?_;simp -implicitDefEqProofs [i,j,yt];refine Kf rfl Mc EC s (by simpa using b0) (m:=1) (ds:=yt x) (by simp[yt]) EA EA ?_;simp -implicitDefEqProofs [uo,z1,n1.symm,n.symm,i,j,yt];have r1:RowIs (cs.take (l.length*2)++yt x) (l++[x]):=⟨[],by rw[k.take];simp⟩;refine c _ _ ⟨_,_,rfl,⟨Qc _ _ _,HS.cut ⟨⟨ver+1,?_,_,?_,r1⟩,⟨_,?_,r⟩,⟨z1,z2,z3⟩,?_⟩⟩,Qd ((u.set (.inl EB) _).set (.inl EB) _)⟩;rw[fD];simp;rw[jX _ _ _ _ z1.symm,fD];simp[yt];rw[jX _ _ _ _ z2.symm,jX _ _ _ _ z3.symm,t];simp;omega
def Me{mv:Nat}{l:zQ Int}(x:Int × Int)(hs:HS S hid hv rid mid mv (l++[x]) g):
  PCalls prog 406 [.ptr hid hv 0] S (λp S'=>p=.ifc 444 (.agg (yt x))/\Off S [hid,rid,mid] S'/\HS S' hid hv rid mid mv l (jG g x.1 none)):=by
 obtain⟨ver,h1,cs,h2,i⟩:=hs.h;obtain⟨es,h3,s⟩:=hs.m;obtain⟨z1,z2,z3⟩:=hs.ne;have b0:=i.big;have e:=hs.len;simp only[Ak,Ab,Ag,A3]at h1 b0 e;refine uM func406 rfl ntmps406 (congrArg Array.toList results406) EB ?_;have t:IntKind.i64.wrap (l.length:Int)=l.length:=Y6 _ EA EA;obtain⟨tl,n⟩:=i.at l.length EB;have d:zK (l++[x]) l.length=x:=by simp[zK]
 rw[d]at n;refine za (jl EG EC (za (qm [] EG λK b=>?_)));simp -implicitDefEqProofs [h1,t];refine b _ _ ?_;clear b;refine za (qm [] EG λK b=>?_);have c:(l.length:Int)<l.length+1:=EA;have b1:l.length*2+2<=cs.length:=EA;simp -implicitDefEqProofs [h1,h2,n,c];refine Xu rfl EC EB λa d=>?_;have n1:=Zk h1 EB d;have j:=Zk h2 EB d;have k:=Zk h3 EB d;simp -implicitDefEqProofs;refine b _ _ ?_;clear b;refine za (qm [] EG λK b=>?_);simp -implicitDefEqProofs [uo,n1,j,h1,h2,c,b1];refine b _ _ ?_;clear b;refine za (qm [] EG λK b=>?_);simp -implicitDefEqProofs [uo,n1,j,z1,h1,h2,c,b1];refine b _ _ ?_;clear b;have r1:RowIs (yl cs (l.length*2) [.sc (.int .i64 0),.sc (.int .i64 0)]) l:=by obtain⟨rest,q⟩:=i.put l.length EB (0,0);exact⟨yt (0,0)++rest,by rw[q,BQ _ _ (Af _)];simp⟩
 have o:Offd S [hid,rid,mid] (((S.set a (.cells 0 444 (yt x))).set rid (.cells ver 444 (yl cs (l.length*2) [.sc (.int .i64 0),.sc (.int .i64 0)]))).set hid (.cells hv 440 [.sl rid ver 2 0 l.length,.mp mid mv])) :=
  (((Offd.refl _ _).set (.inr d) _).set (.inl EB) _).set (.inl EB) _
 have f:(((S.set a (.cells 0 444 (yt x))).set rid (.cells ver 444 (yl cs (l.length*2) [.sc (.int .i64 0),.sc (.int .i64 0)]))).set hid (.cells hv 440 [.sl rid ver 2 0 l.length,.mp mid mv])) hid=.cells hv 440 [.sl rid ver 2 0 l.length,.mp mid mv]:=EB;have r:(((S.set a (.cells 0 444 (yt x))).set rid (.cells ver 444 (yl cs (l.length*2) [.sc (.int .i64 0),.sc (.int .i64 0)]))).set hid (.cells hv 440 [.sl rid ver 2 0 l.length,.mp mid mv])) rid=.cells ver 444 (yl cs (l.length*2) [.sc (.int .i64 0),.sc (.int .i64 0)]):=by simp[uo,z1.symm]
 have t3:(((S.set a (.cells 0 444 (yt x))).set rid (.cells ver 444 (yl cs (l.length*2) [.sc (.int .i64 0),.sc (.int .i64 0)]))).set hid (.cells hv 440 [.sl rid ver 2 0 l.length,.mp mid mv])) mid=.map mv es:=by simp[uo,z2.symm,z3.symm,k,h3]
 have t4:(((S.set a (.cells 0 444 (yt x))).set rid (.cells ver 444 (yl cs (l.length*2) [.sc (.int .i64 0),.sc (.int .i64 0)]))).set hid (.cells hv 440 [.sl rid ver 2 0 l.length,.mp mid mv])) a=.cells 0 444 (yt x):=by simp[uo,n1.symm,j.symm]
 show PW _ _ _ _ _ _ _ (((S.set a (.cells 0 444 (yt x))).set rid (.cells ver 444 (yl cs (l.length*2) [.sc (.int .i64 0),.sc (.int .i64 0)]))).set hid (.cells hv 440 [.sl rid ver 2 0 l.length,.mp mid mv]));generalize (((S.set a (.cells 0 444 (yt x))).set rid (.cells ver 444 (yl cs (l.length*2) [.sc (.int .i64 0),.sc (.int .i64 0)]))).set hid (.cells hv 440 [.sl rid ver 2 0 l.length,.mp mid mv]))=T at o f r t3 t4;obtain⟨u,v,_,_,_,w⟩:=s.find (XA .i64) x.1;refine za (Xt (some [hid,a]) (Row.pures [0,1,2,3,4,5] (.alt 6 (.done) .stop)) mixed EG EG EG λK b=>?_);simp -implicitDefEqProofs [f,t4,yt];refine Kj rfl rfl underlying379 underlying3 rfl rfl rfl t3 v ?_;simp -implicitDefEqProofs [jX,z2,k.symm,f,t4,yt];refine b _ _ ?_;clear b;refine za (qm [] EG λK b=>?_);simp -implicitDefEqProofs [jX,z2,k.symm,f,t4,yt];refine b _ _ (zg ⟨_,_,rfl,⟨rfl,Qc _ _ _,HS.cut ⟨⟨ver,?_,_,?_,r1⟩,⟨_,?_,w⟩,⟨z1,z2,z3⟩,?_⟩⟩,Qd (o.set (.inl EB) _)⟩);rw[jX _ _ _ _ z2,f];rw[jX _ _ _ _ z3,r];exact fD _ _ _;omega
def HP(S:Store)(hid hv rid mid mv:Nat)(l:zQ Int):Prop:=∃g,HS S hid hv rid mid mv l g/\PosOk g l
theorem PosOk.inj{l:zQ Int}(h:PosOk g l)(hi:i<l.length)(a:j<l.length)(e:(zK l i).1=(zK l j).1):i=j:=by have h1:=h.here i hi;rw[e,h.here j a]at h1;simp_all
theorem PosOk.swp{l:zQ Int}(h:PosOk g l)(i j:Nat)(hi:i<l.length)(d:j<l.length):PosOk (jG (jG g (zK (swp l i j) i).1 (some i)) (zK (swp l i j) j).1 (some j)) (swp l i j):=by
 have a:=λk=>VD l i j k hi d;have f:(zK (Hp.swp l i j) i).1=(zK l j).1:=by rw[a i];by_cases e:i=j;rw[if_pos e,e];simp_all
 have m:(zK (Hp.swp l i j) j).1=(zK l i).1:=by rw[a j,if_pos rfl]
 rw[f,m];refine⟨λk b=>?_,λid hid=>?_⟩;rw[Z2]at b;rw[a k];unfold jG;by_cases k1:k=j;simp_all;rw[if_neg k1];by_cases c:k=i;rw[if_pos c];rw[if_neg (λe=>k1 (by rw[c];exact(h.inj d hi e).symm)),if_pos rfl,c];rw[if_neg c,if_neg (λe=>c (h.inj b hi e)),if_neg (λe=>k1 (h.inj b d e))];exact h.here k b;unfold jG;have n:=hid i (by rw[Z2];exact hi);have o:=hid j (by rw[Z2];exact d);rw[f]at n;rw[m]at o;rw[if_neg (Ne.symm o),if_neg (Ne.symm n)];refine h.gone id λk b e=>?_;grind[Z2]
theorem V2(l:zQ Int)(x:Int × Int)(k:Nat)(a:k<l.length):zK (l++[x]) k=zK l k:=by simp_all[zK,As]
theorem cN(l:zQ Int)(x:Int × Int):zK (l++[x]) l.length=x:=by simp[zK]
theorem PosOk.push{l:zQ Int}(h:PosOk g l)(x:Int × Int)(hx:g x.1=none):PosOk (jG g x.1 (some l.length)) (l++[x]):=by refine⟨λk b=>?_,λid hid=>?_⟩;simp only[Ak,Ab,Ag,A3]at b;unfold jG;by_cases k1:k=l.length;simp_all[cN];have a:k<l.length:=EA;rw[V2 l x k a,if_neg];exact h.here k a;intro e;have:=h.here k a;simp_all;have q:=hid l.length EB;rw[cN]at q;unfold jG;rw[if_neg (Ne.symm q)];refine h.gone id λk b=>?_;have:=hid k EF;simp_all[V2]
theorem PosOk.pop{l:zQ Int}(x:Int × Int)(h:PosOk g (l++[x])):PosOk (jG g x.1 none) l:=by have hl:l.length<(l++[x]).length:=EB;refine⟨λk b=>?_,λid hid=>?_⟩;have a:k<(l++[x]).length:=EF;have:=h.here k a;rw[V2 l x k b]at this;unfold jG;rw[if_neg];omega;intro e;have:=h.inj a hl (by simp_all[V2,cN]);omega;unfold jG;by_cases e:id=x.1;rw[if_pos e];rw[if_neg e];refine h.gone id λk b=>?_;grind[cN,V2]
def nY : Wy prog 442 "Len" 404 := by intro v w; kernel_rfl
def gj : Wy prog 442 "Less" 405 := by intro v w; kernel_rfl
def gl : Wy prog 442 "Swap" 408 := by intro v w; kernel_rfl
def Mf : Wy prog 442 "Push" 407 := by intro v w; kernel_rfl
def Mg : Wy prog 442 "Pop" 406 := by intro v w; kernel_rfl
abbrev hI(hid hv:Nat):PV:=.ifc 442 (.ptr hid hv 0)
theorem HP.len{l:zQ Int}(h:HP S hid hv rid mid d l):l.length<=2147483648:=by obtain⟨g,h,_⟩:=h;exact h.len
theorem HP.cut{T:Store}{l:zQ Int}(h:HP T hid hv rid mid d l):HP (cut S [hid,rid,mid] T) hid hv rid mid d l:=by obtain⟨g,h,k⟩:=h;exact⟨g,h.cut,k⟩
def nZ{l:zQ Int}(h:HP S hid hv rid mid d l):PCalls prog 404 [.ptr hid hv 0] S (λp S'=>p=ye l.length/\S'=S):=by obtain⟨g,h,_⟩:=h;exact LZ h
def gm{l:zQ Int}(h:HP S hid hv rid mid d l)(i j:Nat)(hi:i<l.length)(a:j<l.length):PCalls prog 405 [.ptr hid hv 0,ye i,ye j] S (λp S'=>p=um (il qM (zK l i) (zK l j))/\S'=S):=by obtain⟨g,h,_⟩:=h;grind[Ma]
def gn{l:zQ Int}(h:HP S hid hv rid mid d l)(i j:Nat)(hi:i<l.length)(a:j<l.length):PCalls prog 408 [.ptr hid hv 0,ye i,ye j] S (λ_ S'=>Off S [hid,rid,mid] S'/\HP S' hid hv rid mid d (swp l i j)):=by obtain⟨g,h,k⟩:=h;exact(Mb h i j hi a).mono λp S' q=>⟨q.1,_,q.2,k.swp i j hi a⟩
def Mh{l:zQ Int}(h:HP S hid hv rid mid d l)(x:Int × Int)(hx:∀i,i<l.length->(zK l i).1≠x.1)(hn:l.length+1<=2147483648):PCalls prog 407 [.ptr hid hv 0,.ifc 444 (.agg (yt x))] S (λ_ S'=>Off S [hid,rid,mid] S'/\HP S' hid hv rid mid d (l++[x])):=by obtain⟨g,h,k⟩:=h;exact(Md h x hn).mono λp S' q=>⟨q.1,_,q.2,k.push x (k.gone _ hx)⟩
def Mi{l:zQ Int}(x:Int × Int)(h:HP S hid hv rid mid d (l++[x])):PCalls prog 406 [.ptr hid hv 0] S (λp S'=>p=.ifc 444 (.agg (yt x))/\Off S [hid,rid,mid] S'/\HP S' hid hv rid mid d l):=by obtain⟨g,h,k⟩:=h;exact(Me x h).mono λp S' q=>⟨q.1,q.2.1,_,q.2.2,k.pop x⟩
def Mj(j:Nat):((j:Int)-1).tdiv 2=(yo j:Nat):=by grind[yo]
def oa{mv:Nat}{l:zQ Int}(h:HP S hid hv rid mid mv l)(j:Nat)(u:j<l.length):
  PCalls prog 368 [hI hid hv,ye j] S (λ_ S'=>Off S [hid,rid,mid] S'/\HP S' hid hv rid mid mv (uh qM (j+1) l j)):=by
 refine uM func368 rfl ntmps368 (congrArg Array.toList results368) EB ?_;refine zj (fm (λF S' m=>∃(c:zQ Int) (jc:Nat),m=jc/\jc<c.length/\F 0=hI hid hv/\F 1=ye jc/\Off S [hid,rid,mid] S'/\HP S' hid hv rid mid mv c/\uh qM (jc+1) c jc=uh qM (j+1) l j) j ⟨l,j,rfl,u,rfl,rfl,λ_ _=>rfl,h,rfl⟩ ?_);rintro jc F T ⟨c,_,rfl,d,e,i,a,f,g⟩;have s:=f.len;have v:IntKind.i64.wrap ((jc:Int)-1)=(jc:Int)-1:=Y6 _ EA EA;have t:yo jc<=jc:=by unfold yo;omega
 have w2:IntKind.i64.wrap (yo jc:Int)=yo jc:=Y6 _ EA EA;refine zj (za (qm [] EG λK b=>?_));simp -implicitDefEqProofs [e,i,ye,v,Mj,w2];refine b _ _ ?_;clear b;by_cases hc:yo jc=jc;refine za (za (qm [] EG λK b=>?_));simp -implicitDefEqProofs [e,i,ye,hc];refine b _ _ (zv rfl (λ_=>zx ?_) (λq=>by simp at q));refine⟨_,_,rfl,⟨Qc _ _ _,?_⟩,Qd a.offd⟩;rw[<-g];unfold uh;rw[if_pos (.inl hc)];exact f.cut;refine za (za (qm [] EG λK b=>?_));have k:¬((yo jc:Nat):Int)=jc:=EA;simp -implicitDefEqProofs [e,i,ye,hc,k];refine Y8 rfl rfl rfl gj fT (by exact gm f jc (yo jc) d EA) λp S' n=>?_;obtain⟨rfl,rfl⟩:=n;simp -implicitDefEqProofs [um];refine b _ _ ?_;clear b;cases hl:il qM (zK c jc) (zK c (yo jc)) with
 |false =>
 refine zv rfl (λ_=>zx ?_) (λq=>by simp at q);refine⟨_,_,rfl,⟨Qc _ _ _,?_⟩,Qd a.offd⟩;rw[<-g];unfold uh;rw[if_pos (.inr hl)];exact f.cut
 |true =>
 refine zv rfl (λq=>by simp at q) (λ_=>aB (qm [] EG λK b=>?_));simp -implicitDefEqProofs [e,i,ye];refine Y8 rfl rfl rfl gl fU (by exact gn f (yo jc) jc EA d) λp S' n=>?_;obtain⟨o,r⟩:=n;refine b _ _ ?_;clear b;refine jl EG EC ?_;refine⟨yo jc,⟨swp c (yo jc) jc,yo jc,rfl,by rw[Z2];omega,e,by rfl,a.trans o,r,?_⟩,by omega⟩;grind[uh,Io]
def Mk{mv:Nat}{l:zQ Int}(h:HP S hid hv rid mid mv l)(i n:Nat)(hi:i<n)(hn:n<=l.length):
  PCalls prog 371 [hI hid hv,ye i,ye n] S (λp S'=>p=um (decide (i<(qQ qM n l i n).2))/\Off S [hid,rid,mid] S'/\HP S' hid hv rid mid mv (qQ qM n l i n).1):=by
 refine uM func371 rfl ntmps371 (congrArg Array.toList results371) EB ?_;refine za (jl EG EC (za (jl EG EC (za ?_))));refine VI (Q:=λe F T=>e=.normal/\F 1=ye i/\F 7=ye (qQ qM n l i n).2/\Off S [hid,rid,mid] T/\HP T hid hv rid mid mv (qQ qM n l i n).1) (zj (fm (λF S' m=>∃(b:zQ Int) (a:Nat),m=n-a/\a<n/\n<=b.length/\F 0=hI hid hv/\F 1=ye i/\F 2=ye n/\F 7=ye a/\Off S [hid,rid,mid] S'/\HP S' hid hv rid mid mv b/\qQ qM n b a n=qQ qM n l i n) (n-i) ⟨l,i,rfl,hi,hn,rfl,rfl,rfl,rfl,λ_ _=>rfl,h,rfl⟩ ?_)) ?_;rotate_left;rintro e F T ⟨rfl,f,g,k,w⟩;refine za (qm [] EG λK c=>?_);simp -implicitDefEqProofs [f,g,ye];refine c _ _ (zg ⟨_,_,rfl,⟨?_,Qc _ _ _,w.cut⟩,Qd k.offd⟩);simp[um];rintro _ F T ⟨b,a,rfl,a5,a6,j,f,o,g,k,w,r⟩;have a4:=w.len;have w1:IntKind.i64.wrap (2*(a:Int))=2*(a:Int):=Y6 _ EA EA;have w2:IntKind.i64.wrap (2*(a:Int)+1)=((2*a+1:Nat):Int):=by rw[Y6 _ EA EA];omega
 have z:IntKind.i64.wrap (((2*a+1:Nat):Int)+1)=((2*a+2:Nat):Int):=by rw[Y6 _ EA EA];omega
 refine zj (za (qm [] EG λK c=>?_));simp -implicitDefEqProofs only [j,f,g,ye,w1,w2];generalize s:2*a+1=k1 at w2 z;simp -implicitDefEqProofs [j,f,g,ye,w1,w2];refine c _ _ ?_;clear c;by_cases hc:n<=k1;refine za (za (qm [] EG λK c=>?_));have t:(n:Int)<=k1:=EA;simp -implicitDefEqProofs [j,f,o,g,ye,hc,t];refine c _ _ (zv rfl (λ_=>zx ?_) (λq=>by simp at q));have hd:qQ qM n b a n=(b,a):=by
  cases n with
  |zero=>omega
  |succ n=>unfold qQ;rw[if_pos EA]
 rw[r]at hd;simp_all;refine za (za (qm [] EG λK c=>?_));have t:¬(n:Int)<=k1:=EA;have a0:¬(k1:Int)<0:=EA;simp -implicitDefEqProofs [j,f,o,g,ye,t,a0];refine c _ _ (zv rfl (λq=>by simp at q) (λ_=>zh ?_));clear c;refine za (jl EG EC ?_);obtain⟨c1,c2,c3,c4,c5⟩:=lU YA b a n EA;have a1:xv qM b a n<b.length:=EA;refine za (VI (Q:=λe F' T'=>e=.normal/\T'=T/\F' 0=hI hid hv/\F' 1=ye i/\F' 2=ye n/\F' 7=ye a/\F' 9=ye (xv qM b a n)) ?_ ?_);generalize u:2*a+2=x at z;refine za (qm [] EG λK c=>?_);simp -implicitDefEqProofs [j,f,o,g,ye,z];refine c _ _ ?_;clear c;by_cases h2:x<n
 .refine za (qm [] EG λK c=>?_);have v:(x:Int)<n:=EA;simp -implicitDefEqProofs [j,f,o,g,ye,h2,v];refine Y8 rfl rfl rfl gj fT (by exact gm w x k1 EA EA) λp S' y=>?_;obtain⟨rfl,rfl⟩:=y;simp -implicitDefEqProofs [um];refine c _ _ ?_;clear c;cases hl:il qM (zK b x) (zK b k1) with
  |true =>
  refine zv rfl (λ_=>jl EG EC ?_) (λq=>by simp at q);refine⟨rfl,rfl,j,f,o,g,?_⟩;unfold xv;rw[s,u,if_pos ⟨h2,hl⟩];rfl
  |false =>
  refine zv rfl (λq=>by simp at q) (λ_=>zh ⟨rfl,rfl,j,f,o,g,?_⟩);unfold xv;rw[s,u,if_neg (by rw[hl];simp)];rfl
 refine za (qm [] EG λK c=>?_);have v:¬(x:Int)<n:=EA;simp -implicitDefEqProofs [j,f,o,g,ye,h2,v];refine c _ _ (zv rfl (λq=>by simp at q) (λ_=>zh ⟨rfl,rfl,j,f,o,g,?_⟩));unfold xv;rw[s,u,if_neg (λq=>h2 q.1)];rfl;clear j f o g F;rintro e F S' ⟨rfl,rfl,j,f,o,g,f9⟩;have d:qQ qM n b a n=if il qM (zK b (xv qM b a n)) (zK b a)=false then (b,a) else qQ qM n (swp b a (xv qM b a n)) (xv qM b a n) n:=by
  cases n with
  |zero=>omega
  |succ n =>
  grind[qQ,Iq]
 rw[r]at d;generalize a7:xv qM b a n=kk at *;refine za (za (qm [] EG λK c=>?_));simp -implicitDefEqProofs [j,f,o,g,f9,ye];refine Y8 rfl rfl rfl gj fT (by exact gm w kk a EA EA) λp S' y=>?_;obtain⟨rfl,rfl⟩:=y;simp -implicitDefEqProofs [um];refine c _ _ ?_;clear c;cases hl:il qM (zK b kk) (zK b a) with
 |false =>
 rw[if_pos hl]at d;refine zv rfl (λ_=>zx ⟨rfl,f,?_,k,?_⟩) (λq=>by simp at q)<;>simp_all
 |true =>
 rw[if_neg (by rw[hl];simp)]at d;refine zv rfl (λq=>by simp at q) (λ_=>aB (qm [] EG λK c=>?_));simp -implicitDefEqProofs [j,f,o,g,f9,ye];refine Y8 rfl rfl rfl gl fU (by exact gn w a kk EA a1) λp S' y=>?_;obtain⟨a2,a3⟩:=y;refine c _ _ ?_;clear c;refine jl EG (by simp[f9];rfl) ?_;refine⟨n-kk,⟨swp b a kk,kk,rfl,c2,by simp_all[Z2],j,f,o,rfl,k.trans a2,a3,d.symm⟩,by omega⟩
end Go.Proofs.YtdjbbndbalhekaaGreatDoor.Pv
namespace Go.Proofs.YtdjbbndbalhekaaGreatDoor.Hp
section
variable {α:Type} [DecidableEq α] [Inhabited α] {lt:α->α->Bool}
def Qe(lt:α->α->Bool)(l:zQ α)(i n:Nat):zQ α:=if i<(qQ lt n l i n).2 then (qQ lt n l i n).1 else uh lt (i+1) (qQ lt n l i n).1 i
def Ml(h:Str lt)(l:zQ α)(i n:Nat)(hn:n<=l.length)(hi:i<n)(a:DownInv lt l n i):Yr lt (Qe lt l i n) n/\(Qe lt l i n).Perm l/\(Qe lt l i n).length=l.length/\∀k,n<=k->zK (Qe lt l i n) k=zK l k:=by obtain⟨b,c,d,f,g,e,q7⟩:=lV h n l n i hn hi EA a;unfold Qe;split;rename_i hm;exact⟨e hm,b,c,d⟩;rename_i hm;obtain⟨r1,r2⟩:=q7 EA;rw[r1];exact lT h (i+1) l n i hn hi EA ⟨r2,a.kids⟩
def Mm{l:zQ α}(x:Int × α)(h:Yr lt l l.length):UpInv lt (l++[x]) (l.length+1) l.length:=by
 have a:∀k,k<l.length->zK (l++[x]) k=zK l k:=λk b=>by unfold zK;rw[List.getD_eq_getElem?_getD,List.getD_eq_getElem?_getD,As b]
 refine⟨λk k0 c d=>?_,λk k0 c e f=>?_⟩;have:=ZA k0;rw[a k EA,a (yo k) EA];exact h k k0 EA;have:=ZA k0;omega
def Mn(hs:Str lt){l:zQ α}(i n:Nat)(hi:i<n)(hn:n+1=l.length)(h:Yr lt l l.length):DownInv lt (swp l i n) n i:=by have a:=λk=>VD l i n k EA EA;refine⟨λk k0 d b e=>?_,λk k0 d b i0=>?_⟩;have:=ZA k0;rw[a k,a (yo k),if_neg EA,if_neg e,if_neg EA,if_neg b];exact h k k0 EA;have:=ZA k0;have:=ZA i0;rw[a k,a (yo i),if_neg EA,if_neg EA,if_neg EA,if_neg EA];have c:=h k k0 EA;rw[b]at c;exact VE hs c (h i i0 EA)
def Mo{l:zQ α}(n:Nat)(h:Yr lt l n):Yr lt (l.take n) n:=by
 intro k k0 a;have:=ZA k0;have e:∀j,j<n->zK (l.take n) j=zK l j:=λj b=>by unfold zK;rw[List.getD_eq_getElem?_getD,List.getD_eq_getElem?_getD,BV,if_pos b]
 rw[e k a,e (yo k) EA];exact h k k0 a
end
def Mp{α:Type}[Inhabited α](l:zQ α)(n:Nat)(hn:n+1=l.length):l=l.take n++[zK l n]:=by apply Bg;intro k;rw[List.getElem?_append];by_cases h1:k<n;rw[if_pos EF,BV,if_pos h1];rw[if_neg EF];by_cases h2:k=n;subst h2;have:k<l.length:=EA;simp[zK,this,Bt (D8 this)];rw[Ao EA,Ao EF]
end Go.Proofs.YtdjbbndbalhekaaGreatDoor.Hp
namespace Go.Proofs.YtdjbbndbalhekaaGreatDoor.Pv
open Go Hp
def HH(S:Store)(hid hv rid mid mv:Nat)(l:zQ Int):Prop:=HP S hid hv rid mid mv l/\Yr qM l l.length
variable {S:Store}{hid hv rid mid i:Nat}
theorem HH.cut{T:Store}{l:zQ Int}(h:HH T hid hv rid mid i l):HH (cut S [hid,rid,mid] T) hid hv rid mid i l:=⟨h.1.cut,h.2⟩
def Mq{mv:Nat}{l:zQ Int}(h:HH S hid hv rid mid mv l)(x:Int × Int)(hx:∀i,i<l.length->(zK l i).1≠x.1)(hn:l.length+1<=2147483648):
  PCalls prog 358 [hI hid hv,.ifc 444 (.agg (yt x))] S (λ_ S'=>Off S [hid,rid,mid] S'/\∃l',HH S' hid hv rid mid mv l'/\l'.Perm (x::l)):=by
 obtain⟨d,e⟩:=h;refine uM func358 rfl ntmps358 (congrArg Array.toList results358) EB ?_;refine za (qm [] EG λK b=>?_);simp -implicitDefEqProofs;refine Y8 rfl rfl rfl Mf Lo (by exact Mh d x hx hn) λp S1 a=>?_;obtain⟨f,c⟩:=a;refine b _ _ ?_;clear b;refine qm [] EG λK b=>?_;simp -implicitDefEqProofs;refine Y8 rfl rfl rfl nY np (by exact nZ c) λp S2 a=>?_;obtain⟨rfl,rfl⟩:=a;have g:IntKind.i64.wrap (l.length:Int)=l.length:=Y6 _ EA EA;simp -implicitDefEqProofs [ye,g];obtain⟨j,k,m,_⟩:=lT YA (l.length+1) (l++[x]) (l.length+1) l.length EB EA EA (Mm x e);refine Jv rfl rfl rfl nn (by exact oa c l.length EB) λp S3 a=>?_;obtain⟨n,o⟩:=a;refine b _ _ ⟨_,_,rfl,⟨Qc _ _ _,_,HH.cut ⟨o,?_⟩,k.trans (Di (l₁:=l) (l₂:=[x]))⟩,Qd (f.trans n).offd⟩;rw[m];simpa using j
def Mr{mv:Nat}{l:zQ Int}(h:HH S hid hv rid mid mv l)(i:Nat)(hi:i<l.length):
  PCalls prog 369 [hI hid hv,ye i] S (λp S'=>p=.ifc 444 (.agg (yt (zK l i)))/\Off S [hid,rid,mid] S'/\∃l',HH S' hid hv rid mid mv l'/\(zK l i::l').Perm l):=by
 obtain⟨r,w⟩:=h;have x:=r.len;obtain⟨n,hn⟩:∃n,n+1=l.length:=⟨l.length-1,by omega⟩;refine uM func369 rfl ntmps369 (congrArg Array.toList results369) EB ?_;refine za (jl EG EC (za (qm [] EG λK a=>?_)));simp -implicitDefEqProofs;refine Y8 rfl rfl rfl nY np (by exact nZ r) λp S2 d=>?_;obtain⟨rfl,rfl⟩:=d;have w1:IntKind.i64.wrap ((l.length:Int)-1)=n:=by rw[Y6 _ EA EA];omega
 simp -implicitDefEqProofs [ye,w1];refine a _ _ ?_;clear a;refine za (VI (Q:=λe F' T'=>e=.normal/\F' 0=hI hid hv/\Off S2 [hid,rid,mid] T'/\∃b:zQ Int,HP T' hid hv rid mid mv b/\Yr qM b n/\b.Perm l/\b.length=l.length/\zK b n=zK l i) ?_ ?_);refine za (jl EG (by simp[ye];rfl) ?_);by_cases hc:n=i;refine zv rfl (λq=>by simp[hc]at q) (λ_=>zh ⟨rfl,rfl,λ_ _=>rfl,l,r,λk k0 kn=>w k k0 EA,.refl _,rfl,by rw[hc]⟩);have v:¬(n:Int)=i:=EA;refine zv rfl (λ_=>?_) (λq=>by simp[v]at q);refine za (qm [] EG λK a=>?_);simp -implicitDefEqProofs [ye];refine Y8 rfl rfl rfl gl fU (by exact gn r i n EA EA) λp S3 d=>?_;obtain⟨y,s⟩:=d;refine a _ _ ?_;clear a;have j:=Mn YA i n EA hn w;have f:=Z2 l i n;obtain⟨s1,s2,s3,s4⟩:=Ml YA (swp l i n) i n EA EA j;have c:zK (Qe qM (swp l i n) i n) n=zK l i:=by rw[s4 n (Af _),VD l i n n hi EA,if_pos rfl]
 refine za (qm [] EG λK a=>?_);simp -implicitDefEqProofs [ye];refine Jv rfl rfl rfl Ll (by exact Mk s i n EA EA) λp S4 d=>?_;obtain⟨rfl,t,u⟩:=d;simp -implicitDefEqProofs [um];refine a _ _ ?_;clear a;by_cases hm:i<(qQ qM n (swp l i n) i n).2;refine zv rfl (λq=>by simp at q;omega) (λ_=>zh ⟨rfl,rfl,y.trans t,Qe qM (swp l i n) i n,?_,s1,s2.trans (bA l _ _ hi EA),s3.trans f,c⟩);unfold Qe;rw[if_pos hm];exact u;refine zv rfl (λ_=>?_) (λq=>by simp at q;omega);refine qm [] EG λK a=>?_;simp -implicitDefEqProofs [ye];have a0:(qQ qM n (swp l i n) i n).1.length=l.length:=((lV YA n (swp l i n) n i EA EA EA j).2.1).trans f;refine Jv rfl rfl rfl nn (by exact oa u i EA) λp S5 d=>?_;obtain⟨o5,p5⟩:=d;refine a _ _ ⟨rfl,rfl,(y.trans t).trans o5,Qe qM (swp l i n) i n,?_,s1,s2.trans (bA l _ _ hi EA),s3.trans f,c⟩;unfold Qe;rw[if_neg hm];exact p5;rintro e F T ⟨rfl,f0,m,b,s,h3,z,a1,hx⟩;have o:=Mp b n EA;rw[hx]at o;rw[o]at s z;refine za (qm [] EG λK a=>?_);simp -implicitDefEqProofs [f0];refine Y8 rfl rfl rfl Mg Lm (by exact Mi _ s) λp S4 d=>?_;obtain⟨rfl,t,u⟩:=d;have g:Yr qM (b.take n) (b.take n).length:=by have e:(b.take n).length=n:=EF;rw[e];exact Mo n h3
 refine a _ _ (zg ⟨_,_,rfl,⟨rfl,Qc _ _ _,_,HH.cut ⟨u,g⟩,?_⟩,Qd (m.trans t).offd⟩);exact(Di (l₁:=[zK l i]) (l₂:=b.take n)).trans z
abbrev Zl(a b:Int × Int):Bool:=il qM a b
def Zm(r:zQ Int):Prop:=r.Pairwise (λa b=>Zl a b=true)
def Qf(x:Int × Int):zQ Int->zQ Int
 |[]=>[x]
 |y::r=>if Zl x y=true then x::y::r else y::Qf x r
def QX(id:Int)(r:zQ Int):zQ Int:=r.filter λx=>decide (x.1≠id)
def x8(id:Int)(r:zQ Int):Bool:=r.any λx=>decide (x.1=id)
theorem V3(x:Int × Int):∀r,(Qf x r).Perm (x::r)
 |[]=>.refl _
 |y::r=>by unfold Qf;split;exact .refl _;exact((V3 x r).cons y).trans (.swap x y r)
variable {a:Int × Int}
def Ms{b c:Int × Int}(h1:Zl a b=true)(h2:Zl b c=true):Zl a c=true:=(QO YA).tr _ _ _ h1 h2
def Mt{b:Int × Int}(h:Zl a b=false)(c:a.1≠b.1):Zl b a=true:=by
 cases d:Zl b a with
 |true=>rfl
 |false=>exact absurd (congrArg Prod.fst ((QO YA).tot _ _ h d)) c
theorem oc(x:Int × Int):∀r,Zm r->(∀y∈r,y.1≠x.1)->Zm (Qf x r)
 |[],_,_=>by simp[Qf,Zm]
 |y::r,h,hx=>by
  unfold Qf;have h':=Bl.1 h;split;rename_i hl;refine Bl.2 ⟨λz a=>?_,h⟩;obtain rfl|a:=Al.1 a;exact hl;exact Ms hl (h'.1 z a);rename_i hl;have b:Zl x y=false:=by simpa using hl
  refine Bl.2 ⟨λz a=>?_,oc x r h'.2 λz a=>hx z (BT _ a)⟩;obtain rfl|a:=Al.1 ((V3 x r).subset a);exact Mt b (Ne.symm (hx y EB));exact h'.1 z a
def Mu(id:Int)(r:zQ Int)(h:Zm r):Zm (QX id r):=List.Pairwise.filter _ h
def HM(S:Store)(hid hv rid mid mv:Nat)(r:zQ Int):Prop:=∃l,HH S hid hv rid mid mv l/\l.Perm r/\Zm r
variable {r:zQ Int}
theorem HM.cut{T:Store}(h:HM T hid hv rid mid i r):HM (cut S [hid,rid,mid] T) hid hv rid mid i r:=by obtain⟨l,h,k⟩:=h;exact⟨l,h.cut,k⟩
def go{l:zQ Int}(hi:i<l.length):zK l i∈l:=by
 have:zK l i=l[i]:=by unfold zK;simp[hi]
 rw[this];exact AZ hi
def gp{l:zQ Int}{x:Int × Int}(h:x∈l):∃i,i<l.length/\zK l i=x:=by obtain⟨i,hi,rfl⟩:=CR h;exact⟨i,hi,by unfold zK;simp[hi]⟩
theorem HS.look{mv:Nat}{l:zQ Int}{g:Int->Option Nat}(h:HS S hid hv rid mid mv l g)(k:PosOk g l)(id:Int):∃es a,S mid=.map mv es/\jO (.int .i64) (jy id) es 0=some a /\
  ((x8 id l=false/\Y7 true (.int .i64 0) a=.tup [ye 0,.sc (.bool false)])\/(x8 id l=true/\∃i,i<l.length/\(zK l i).1=id/\Y7 true (.int .i64 0) a=.tup [ye i,.sc (.bool true)])):=by
 obtain⟨es,h3,c⟩:=h.m;obtain⟨a,d,f,n,_,_⟩:=c.find (XA .i64) id;refine⟨es,a,h3,d,?_⟩;by_cases hi:∃i,i<l.length/\(zK l i).1=id;obtain⟨i,hi,e⟩:=hi;refine .inr ⟨?_,i,hi,e,?_⟩;simp only[x8,BZ];exact⟨_,go hi,by simpa using e⟩;obtain⟨j,rfl⟩:=n i (by rw[<-e];exact k.here i hi);rfl;refine .inl ⟨?_,?_⟩;simp only[x8,CB];intro x hx;obtain⟨i,b,rfl⟩:=gp hx;simp;exact λe=>hi ⟨i,b,e⟩;have:=f (k.gone id λi b e=>hi ⟨i,b,e⟩);subst this;rfl
def gq{id:Int}{l:zQ Int}(h:l.Perm r):x8 id l=x8 id r:=by unfold x8;rw[D9,BZ,BZ];exact⟨λ⟨x,hx,e⟩=>⟨x,h.subset hx,e⟩,λ⟨x,hx,e⟩=>⟨x,h.symm.subset hx,e⟩⟩
def Mw{mv:Nat}(h:HM S hid hv rid mid mv r)(id w:Int)(hn:r.length+1<=2147483648):
  PCalls prog 339 [.ptr hid hv 0,ye id,ye w] S (λp S'=>p=um (!x8 id r)/\Off S [hid,rid,mid] S'/\HM S' hid hv rid mid mv (bif x8 id r then r else Qf (id,w) r)):=by
 obtain⟨l,⟨d,s⟩,b,hs⟩:=h;have f:=d;obtain⟨g,t,u⟩:=f;obtain⟨ver,h1,cs,h2,hR⟩:=t.h;obtain⟨es,v,h3,x,c⟩:=t.look u id;refine uM func339 rfl ntmps339 (congrArg Array.toList results339) EB ?_;refine za (jl EG EC (za (za (qm [] EG λK a=>?_))));simp -implicitDefEqProofs [h1];refine Yv rfl underlying379 underlying3 rfl rfl rfl h3 x EC ?_;obtain⟨c,k⟩|⟨c,i,hi,hid,k⟩:=c;rw[k];simp -implicitDefEqProofs;refine a _ _ ?_;clear a;refine za (jl EG EC (zv rfl (λq=>by simp at q) (λ_=>zh ?_)));refine za (qm [] EG λK a=>?_);simp -implicitDefEqProofs [ye];have hx:∀i,i<l.length->(zK l i).1≠id:=by
  intro i hi e;have:x8 id l=true:=by simp only[x8,BZ];exact⟨_,go hi,by simpa using e⟩
  rw[c]at this;cases this
 refine Jv rfl rfl rfl Lh (by exact Mq ⟨d,s⟩ (id,w) hx (by rw[b.length_eq];exact hn)) λp S3 z=>?_;obtain⟨o3,l',m,n⟩:=z;refine a _ _ ?_;clear a;refine za (jl EG EC (zg ?_));rw[<-gq b,c];refine⟨_,_,rfl,⟨rfl,Qc _ _ _,HM.cut ⟨l',m,n.trans (((List.Perm.cons _ b)).trans (V3 _ _).symm),oc _ _ hs λy hy e=>?_⟩⟩,Qd o3.offd⟩;obtain⟨j,hj,rfl⟩:=gp (b.symm.subset hy);exact hx j hj e;rw[k];simp -implicitDefEqProofs;refine a _ _ ?_;clear a;refine za (jl EG EC (zv rfl (λ_=>?_) (λq=>by simp at q)));refine za (jl EG EC (zg ?_));rw[<-gq b,c];exact⟨_,_,rfl,⟨rfl,λ_ _=>rfl,⟨l,⟨d,s⟩,b,hs⟩⟩,λo=>.inl rfl⟩
def Once(r:zQ Int):Prop:=(r.map (·.1)).Nodup
theorem HP.once{mv:Nat}{l:zQ Int}(h:HP S hid hv rid mid mv l):Once l:=by
 obtain⟨g,_,k⟩:=h;unfold Once;refine BI.2 λi j hi a b e=>?_;simp only[List.length_map]at hi a;simp only[CH]at e;have q:∀i (hi:i<l.length),zK l i=l[i]:=λi hi=>by unfold zK;simp[hi]
 have:=k.inj hi a (by rw[q i hi,q j a];exact e);omega
theorem Once.perm{l:zQ Int}(h:l.Perm r)(k:Once l):Once r:=(List.Perm.nodup_iff (h.map λx:Int × Int=>x.1)).1 k
theorem HM.once(h:HM S hid hv rid mid i r):Once r:=by obtain⟨l,⟨a,_⟩,b,_⟩:=h;exact a.once.perm b
def oe{x:Int × Int}{l:zQ Int}(h:Once (x::l)):QX x.1 (x::l)=l:=by unfold QX;rw[Cm,if_neg EB,Dy];intro y a;simp only[decide_eq_true_eq];intro e;have:=(Cr.1 (show (x.1::l.map (·.1)).Nodup from h)).1;exact this (Aj.2 ⟨y,a,e⟩)
def Mx{l:zQ Int}(id:Int)(h:l.Perm r):(QX id l).Perm (QX id r):=h.filter _
def My{id:Int}{l:zQ Int}(h:x8 id l=false):QX id l=l:=by unfold QX;rw[Dy];intro y a;simp only[x8,CB]at h;simpa using h y a
def Mz{mv:Nat}(h:HM S hid hv rid mid mv r)(id:Int):
  PCalls prog 360 [.ptr hid hv 0,ye id] S (λp S'=>p=um (x8 id r)/\Off S [hid,rid,mid] S'/\HM S' hid hv rid mid mv (QX id r)):=by
 have hM:=h;obtain⟨l,⟨d,n⟩,k,hs⟩:=h;have e:=d;obtain⟨g,m,s⟩:=e;obtain⟨ver,h1,cs,h2,y⟩:=m.h;obtain⟨es,t,h3,u,a⟩:=m.look s id;refine uM func360 rfl ntmps360 (congrArg Array.toList results360) EB ?_;refine za (jl EG EC (za (qm [] EG λK b=>?_)));simp -implicitDefEqProofs [h1];refine Yv rfl underlying379 underlying3 rfl rfl rfl h3 u EC ?_;rw[gq k]at a;obtain⟨a,f⟩|⟨a,i,hi,hid,f⟩:=a;rw[f];simp -implicitDefEqProofs;refine b _ _ ?_;clear b;refine za (za (jl EG EC (zv rfl (λ_=>?_) (λq=>by simp at q))));refine za (jl EG EC (zg ?_));rw[a,My a];exact⟨_,_,rfl,⟨rfl,λ_ _=>rfl,hM⟩,λo=>.inl rfl⟩;rw[f];simp -implicitDefEqProofs [ye];refine b _ _ ?_;clear b;refine za (za (jl EG EC (zv rfl (λq=>by simp at q) (λ_=>zh ?_))));refine za (qm [] EG λK b=>?_);simp -implicitDefEqProofs;refine Jv rfl rfl rfl Lk (by exact Mr ⟨d,n⟩ i hi) λp S3 v=>?_;obtain⟨_,w,l',j,c⟩:=v;refine b _ _ ?_;clear b;refine za (jl EG EC (zg ?_));rw[a];have x:QX id (zK l i::l')=l':=by rw[<-hid];exact oe (Once.perm c.symm d.once)
 refine⟨_,_,rfl,⟨rfl,Qc _ _ _,HM.cut ⟨l',j,?_,Mu id r hs⟩⟩,Qd w.offd⟩;have:=Mx id (c.trans k);rw[x]at this;exact this
end Go.Proofs.YtdjbbndbalhekaaGreatDoor.Pv
namespace Go.Proofs.YtdjbbndbalhekaaGreatDoor.Hp
section
variable {α:Type} [DecidableEq α] [Inhabited α] {lt:α->α->Bool}
def MA(hs:Str lt){l:zQ α}(h:Yr lt l l.length):∀k,k<l.length->il lt (zK l k) (zK l 0)=false:=by
 intro k;induction k using Nat.strongRecOn with
 |_ k a =>
 intro b;obtain e|e:=Ch k;subst e;exact(QO hs).irr _;have:=ZA e;exact VE hs (h k e b) (a (yo k) this EA)
end
end Go.Proofs.YtdjbbndbalhekaaGreatDoor.Hp
namespace Go.Proofs.YtdjbbndbalhekaaGreatDoor.Pv
open Go Hp
variable {S:Store}{hid hv rid mid nx:Nat}{r:zQ Int}
def HM.root{x:Int × Int}{l:zQ Int}(h:HH S hid hv rid mid nx l)(a:l.Perm (x::r))(hs:Zm (x::r)):zK l 0=x:=by
 have hl:0<l.length:=by rw[a.length_eq];simp
 obtain⟨k,b,e⟩:=gp (a.symm.subset (Ck));have h1:=MA YA h.2 k b;rw[e]at h1;obtain h2|h2:=Al.1 (a.subset (go hl));exact h2;have:=(Bl.1 hs).1 _ h2;rw[show Zl x (zK l 0)=false from h1]at this;cases this
def XB:zQ Int->PV
 |[]=>.tup [ye 0,ye 0,um false]
 |x::_=>.tup [ye x.1,ye x.2,um true]
def MB(h:HM S hid hv rid mid nx r):
  PCalls prog 359 [.ptr hid hv 0] S (λp S'=>p=XB r/\S'=S):=by
 obtain⟨l,i,c,hs⟩:=h;have j:=i.1;obtain⟨g,k,s⟩:=j;obtain⟨ver,h1,cs,h2,m⟩:=k.h;refine uM func359 rfl ntmps359 (congrArg Array.toList results359) EB ?_;refine za (jl EG EC (za (za (qm [] EG λK b=>?_))));simp -implicitDefEqProofs [h1];refine b _ _ ?_;clear b;cases r with
 |nil =>
 have hl:l.length=0:=by rw[c.length_eq];rfl
 refine zv rfl (λ_=>?_) (λq=>by simp at q;exact absurd (Av hl) q);refine za (jl EG EC (za (jl EG EC (zg ?_))));exact⟨_,S,rfl,⟨rfl,rfl⟩,λo=>.inl rfl⟩
 |cons x r =>
 have hl:0<l.length:=by rw[c.length_eq];simp
 have hx:=HM.root i c hs;obtain⟨tl,d⟩:=m.at 0 hl;rw[hx]at d;simp at d;refine zv rfl (λq=>by simp at q;subst q;simp at hl) (λ_=>zh ?_);refine za (qm [] EG λK b=>?_);have f:0<l.length:=hl;simp -implicitDefEqProofs [h1,h2,f,d];refine Xu rfl EC EB λa n=>?_;simp -implicitDefEqProofs;refine b _ _ ?_;clear b;refine za (IZ mixed EG EG EG EC (zg ?_));refine⟨_,S,rfl,⟨rfl,rfl⟩,λo=>?_⟩;by_cases e:o=a;exact .inr (e ▸ n);exact .inl (by rw[jX _ _ _ _ e])
def MC(h:HM S hid hv rid mid nx r):
  PCalls prog 340 [.ptr hid hv 0] S (λp S'=>p=XB r/\Off S [hid,rid,mid] S'/\HM S' hid hv rid mid nx r.tail):=by
 refine uM func340 rfl ntmps340 (congrArg Array.toList results340) EB ?_;refine za (jl EG EC (za (qm [] EG λK a=>?_)));simp -implicitDefEqProofs;refine Jv rfl rfl rfl Li (by exact MB h) λp S2 b=>?_;obtain⟨rfl,rfl⟩:=b;cases r with
 |nil =>
 simp -implicitDefEqProofs [XB];refine a _ _ ?_;clear a;refine za (za (jl EG EC (zv rfl (λq=>by simp at q) (λ_=>zh ?_))));refine za (jl EG EC (zg ?_));exact⟨_,S2,rfl,⟨rfl,λ_ _=>rfl,h⟩,λo=>.inl rfl⟩
 |cons x r =>
 simp -implicitDefEqProofs [XB];refine a _ _ ?_;clear a;refine za (za (jl EG EC (zv rfl (λ_=>?_) (λq=>by simp at q))));refine qm [] EG λK a=>?_;simp -implicitDefEqProofs;refine Jv rfl rfl rfl Lj (by exact Mz h x.1) λp S3 b=>?_;obtain⟨_,c,h3⟩:=b;refine a _ _ ?_;clear a;refine za (jl EG EC (zg ?_));rw[oe h.once]at h3;exact⟨_,S3,rfl,⟨rfl,c,h3⟩,λo=>.inl rfl⟩
theorem HM.congr{T:Store}(h:HM S hid hv rid mid nx r)(e:∀o∈[hid,rid,mid],T o=S o):HM T hid hv rid mid nx r:=by obtain⟨l,⟨⟨g,h,k⟩,a⟩,b,hs⟩:=h;exact⟨l,⟨⟨g,h.congr e,k⟩,a⟩,b,hs⟩
def HX(o:Ob × Ob × Ob)(a hv mv:Nat)(r:zQ Int):Prop:=∀S:Store,S a=o.1->S (a+1)=o.2.1->S (a+2)=o.2.2->HM S (a+1) hv (a+2) a mv r
def Qg(obs:List Ob)(j:Nat)(o:Ob × Ob × Ob):List Ob:=((obs.set j o.1).set (j+1) o.2.1).set (j+2) o.2.2
variable {a:Nat}
theorem HM.hx(h:HM S (a+1) hv (a+2) a hid r):HX (S a,S (a+1),S (a+2)) a hv hid r:=by intro T h1 h2 h3;refine h.congr λo ho=>?_;simp at ho;obtain rfl|rfl|rfl:=ho;exact h2;exact h3;exact h1
variable {obs:List Ob}
theorem HX.hm{j:Nat}{o:Ob × Ob × Ob}(h:HX o (nx+j) hv hid r)(h1:obs[j]?=some o.1)(h2:obs[j+1]?=some o.2.1)(h3:obs[j+2]?=some o.2.2):HM (ext S nx obs) (nx+j+1) hv (nx+j+2) (nx+j) hid r:=by refine h _ ?_ ?_ ?_;rw[zS,List.getD_eq_getElem?_getD,h1];rfl;rw[Nat.add_assoc,zS,List.getD_eq_getElem?_getD,h2];rfl;rw[Nat.add_assoc,zS,List.getD_eq_getElem?_getD,h3];rfl
def MD{T:Store}{j:Nat}(h:Off (ext S nx obs) [nx+j+1,nx+j+2,nx+j] T)(hl:j+2<obs.length):T=ext S nx (Qg obs j (T (nx+j),T (nx+j+1),T (nx+j+2))):=by funext i;by_cases h1:i=nx+j;subst h1;rw[zS,List.getD_eq_getElem?_getD,Qg,Bf EA,Bf EA,A9 EA];rfl;by_cases h2:i=nx+j+1;subst h2;rw[Nat.add_assoc,zS,List.getD_eq_getElem?_getD,Qg,Bf EA,A9 EF];rfl;by_cases h3:i=nx+j+2;subst h3;rw[Nat.add_assoc,zS,List.getD_eq_getElem?_getD,Qg,A9 EF];rfl;rw[h i EF];simp only[ext];split;rfl;rw[List.getD_eq_getElem?_getD,List.getD_eq_getElem?_getD,Qg,Bf EA,Bf EA,Bf EA]
section
variable {S:Store} {nx j hv mv:Nat} {obs:List Ob} {o:Ob × Ob × Ob} {r:zQ Int}
def og{f:FuncId}{args:List PV}{q:PV}{a:zQ Int}(b:qS prog f)(hl:j+2<obs.length)
  (h:PCalls prog f args (ext S nx obs) (λp T=>p=q/\Off (ext S nx obs) [nx+j+1,nx+j+2,nx+j] T/\HM T (nx+j+1) hv (nx+j+2) (nx+j) mv a)) :
  Spec prog f args (ext S nx obs) (λp T=>p=q/\∃o',HX o' (nx+j) hv mv a/\T=ext S nx (Qg obs j o')):=by
 refine⟨b,h.mono ?_⟩;rintro p T ⟨h1,h2,h3⟩;exact⟨h1,_,h3.hx,MD h2 hl⟩
variable (h:HX o (nx+j) hv mv r) (h1:obs[j]?=some o.1) (h2:obs[j+1]?=some o.2.1) (h3:obs[j+2]?=some o.2.2)
include h h1 h2 h3
def oh(id w:Int)(hn:r.length+1<=2147483648):SP 339 [.ptr (nx+j+1) hv 0,I id,I w] (ext S nx obs) (λp T=>p=B (!x8 id r)/\∃o',HX o' (nx+j) hv mv (bif x8 id r then r else Qf (id,w) r)/\T=ext S nx (Qg obs j o')) :=
 og Lf (Ad.1 h3).1 (Mw (h.hm h1 h2 h3) id w hn)
def ME:SP 340 [.ptr (nx+j+1) hv 0] (ext S nx obs) (λp T=>p=XB r/\∃o',HX o' (nx+j) hv mv r.tail/\T=ext S nx (Qg obs j o')) :=
 og Lg (Ad.1 h3).1 (MC (h.hm h1 h2 h3))
end
def MF:SP 337 [] (ext S nx obs) (λp T=>∃hv mv o,p=.ptr (nx+obs.length+1) hv 0/\HX o (nx+obs.length) hv mv []/\T=ext S nx (obs++[o.1,o.2.1,o.2.2])):=by
 have b:=xM (S:=S) (nx:=nx) (obs:=obs);have e:∀o:Ob × Ob × Ob,ext S nx (obs++[o.1,o.2.1,o.2.2])=ext (ext S nx obs) (nx+obs.length) [o.1,o.2.1,o.2.2]:=by intro o;have c:=jE (S:=S) (nx:=nx) (obs:=obs) o.1;have d:=jE (S:=S) (nx:=nx) (obs:=obs++[o.1]) o.2.1;have f:=jE (S:=S) (nx:=nx) (obs:=obs++[o.1]++[o.2.1]) o.2.2;have q0:=jm b;have g:=jE (S:=ext S nx obs) (nx:=nx+obs.length) (obs:=[]) o.1;have h:=jE (S:=ext S nx obs) (nx:=nx+obs.length) (obs:=[o.1]) o.2.1;have j:=jE (S:=ext S nx obs) (nx:=nx+obs.length) (obs:=[o.1,o.2.1]) o.2.2;simp only[Ak,Ab,Ag,List.append_assoc,List.cons_append,AI,BK,A3]at c d f g h j;rw[<-f,<-d,<-c,<-j,<-h,<-g,q0];simp only[Nat.add_assoc]
 generalize ext S nx obs=S1 at *;generalize nx+obs.length=m at *;refine Z7 b func337 ntmps337 results337 ?_;refine EK ?_;refine EK ?_;intro mv hv;refine qy 1 0 444 2 rfl rfl λa=>?_;refine zg ⟨_,_,rfl,⟨hv,mv,(.map mv [],.cells hv 440 [.sl (m+2) a 2 0 0,.mp m mv],.cells a 444 []),rfl,?_,(e _).symm⟩,λo=>.inl EB⟩;intro T h1 h2 h3;refine⟨[],⟨⟨λ_=>none,⟨⟨a,h2,[],h3,[],rfl⟩,⟨[],h1,nU _ _⟩,⟨by omega,by omega,by omega⟩,by simp⟩,⟨λi hi=>by simp at hi,λ_ _=>rfl⟩⟩,λk k0 l=>by simp at l⟩,.refl _,by simp[Zm]⟩
@[simp] theorem ZDL(a b c:Ob)(l:List Ob)(o:Ob × Ob × Ob):Qg (a::b::c::l) 0 o=o.1::o.2.1::o.2.2::l:=rfl
instance:Enc (Int × Int):=⟨λx=>[I x.1,I x.2],2,λ_=>rfl,λ_=>rfl⟩
@[simp] theorem ZDM(s:Int × Int):Enc.enc s=[I s.1,I s.2]:=rfl
@[simp high] theorem ZDN(l:zQ Int):(l.flatMap Enc.enc).length=l.length*2:=xz l
@[simp high] theorem ZDO(l:zQ Int):(l.flatMap Enc.enc).take (l.length*2)=l.flatMap Enc.enc:=Yw l
structure Deed where
 kind:Int
 id:Int
 w:Int
instance:Enc Deed:=⟨λd=>[I d.kind,I d.id,I d.w],3,λ_=>rfl,λ_=>rfl⟩
@[simp] theorem ZDP(d:Deed):Enc.enc d=[I d.kind,I d.id,I d.w]:=rfl
@[simp high] theorem ZDQ(l:List Deed):(l.flatMap Enc.enc).length=l.length*3:=xz l
@[simp high] theorem ZDR(l:List Deed):(l.flatMap Enc.enc).take (l.length*3)=l.flatMap Enc.enc:=Yw l
open Go.Sort
def ZF(a b:Int):Int:=if a<b then -1 else if b<a then 1 else 0
def uP(l:List Int)(i:Nat):Int × Int:=((i:Int),l.getD i 0)
def up(l:List Int)(i j:Fin l.length):Int:=if ZF (l.getD i 0) (l.getD j 0)=0 then ZF (i.val:Int) j.val else ZF (l.getD i 0) (l.getD j 0)
def V4(l:List Int)(i j:Fin l.length):ltOf (up l) i j=Zl (uP l i) (uP l j):=by grind[ltOf,up,ZF,il,uP]
def cO(l:List Int):SWO (ltOf (up l)):=by
 have H:=QO YA;refine⟨λx=>?_,λx y z h1 h2=>?_,λx y z h1 h2=>?_⟩;rw[V4];exact H.irr _;rw[V4]at *;exact H.tr _ _ _ h1 h2;rw[V4]at *;cases h:Zl (uP l x) (uP l z) with
 |false=>rfl
 |true =>
 exfalso;cases h3:Zl (uP l y) (uP l x) with
 |true=>have a:Zl (uP l y) (uP l z)=true:=H.tr _ _ _ h3 h;simp_all
 |false =>
 have e:=H.tot _ _ h1 h3;simp_all
def ol(l:List Int):∀x y,ltOf (up l) x y=false->ltOf (up l) y x=false->x=y:=by intro x y h1 h2;rw[V4]at h1 h2;have:=(QO YA).tot _ _ h1 h2;have:(x.val:Int)=y.val:=congrArg Prod.fst this;omega
def XC(l:List Int):List (Fin l.length):=(List.finRange l.length).mergeSort λx y=>!(ltOf (up l)) y x
def gr(l:List Int):(XC l).Perm (List.finRange l.length):=Cq _ _
def MG(l:List Int):((XC l).map λi:Fin l.length=>uP l i.val).Perm ((List.range l.length).map (uP l)):=by
 refine((gr l).map _).trans ?_;have e:(List.finRange l.length).map (λi:Fin l.length=>uP l i.val)=(List.range l.length).map (uP l):=by apply Bi;simp;simp
 rw[e]
def MH(l:List Int):(XC l).Nodup:=(gr l).nodup_iff.2 (List.nodup_finRange _)
def MI(l:List Int):Zm ((XC l).map λi:Fin l.length=>uP l i.val):=by
 have H:=QO YA;have h1:(XC l).Pairwise λa b=>(!(ltOf (up l)) b a)=true:=by
  refine C6 ?_ ?_ _;intro a b c h1 h2;simp only[Cy]at *;exact(cO l).ntrans c b a h2 h1;intro a b;simp only[Dw,Cy];cases h:ltOf (up l) b a with
  |false=>exact .inl rfl
  |true =>
  refine .inr ?_;cases h2:ltOf (up l) a b with
  |false=>rfl
  |true=>have:=(cO l).trans _ _ _ h h2;rw[(cO l).irrefl]at this;cases this
 have h2:=List.Pairwise.and h1 (MH l);unfold Zm;refine List.Pairwise.map _ ?_ h2;rintro a b ⟨h3,e⟩;have d:ltOf (up l) b a=false:=by simpa using h3
 rw[<-V4];cases h:ltOf (up l) a b with
 |true=>rfl
 |false=>exact absurd (ol l a b h d) e
def Zn(l:List Int):List Int:=(XC l).map λi=>(i.val:Int)
def gt(l:List Int):(Zn l).length=l.length:=by unfold Zn;rw[List.length_map,(gr l).length_eq];simp
def MJ{l:List Int}{z:Int}(h:z∈Zn l):0<=z/\z<l.length:=by obtain⟨i,_,rfl⟩:=Aj.1 h;have:=i.isLt;omega
end Go.Proofs.YtdjbbndbalhekaaGreatDoor.Pv
namespace Go.Proofs.YtdjbbndbalhekaaGreatDoor.Hp
section
variable {α:Type} {lt:α->α->Bool}
def Sd(lt:α->α->Bool)(l:List α):Prop:=l.Pairwise λa b=>lt a b=true
def MK(rows:List (List α))(i:Nat)(y:α)(tl:List α)(h:rows[i]?=some (y::tl)):rows.flatten.Perm (y::(rows.set i tl).flatten):=by
 induction rows generalizing i with
 |nil=>simp at h
 |cons r rows a =>
 cases i with
 |zero =>
 simp_all
 |succ i =>
 simp only[Bk]at h;have:=a i h;simp only[Bh,AO];exact(this.append_left r).trans List.perm_middle
def ML(H:Str lt){P:List α}(u:Sd lt P){rows:List (List α)}(o:∀r∈rows,Sd lt r){k:Nat}(n:rows.flatten.Perm (P.drop k)){i:Nat}{y:α}{tl:List α}(hi:rows[i]?=some (y::tl))
  (d:∀(j:Nat) z tz,rows[j]?=some (z::tz)->j≠i->lt y z=true) :
  P[k]?=some y/\(rows.set i tl).flatten.Perm (P.drop (k+1))/\∀r∈rows.set i tl,Sd lt r:=by
 have f:=MK rows i y tl hi;have g:Sd lt (y::tl):=o _ (Aa hi);have p:∀z∈rows.flatten,z=y\/lt y z=true:=by
  intro z v;obtain⟨r,b,c⟩:=Bd.1 v;obtain⟨j,q⟩:=Bv.1 b;by_cases e:j=i;subst e;rw[hi]at q;cases q;obtain e|e:=Al.1 c;exact .inl e;exact .inr ((Bl.1 g).1 z e);cases r with
  |nil=>cases c
  |cons a w =>
  have h1:=d j a w q e;obtain e2|e2:=Al.1 c;simp_all;exact .inr (H.tr _ _ _ h1 ((Bl.1 (o _ b)).1 z e2))
 have l:y∈P.drop k:=n.subset (f.symm.subset Ck);cases m:P.drop k with
 |nil=>simp_all
 |cons x rest =>
 have s:Sd lt (x::rest):=by rw[<-m];exact List.Pairwise.sublist (List.drop_sublist k P) u
 have hx:x=y:=by rw[m]at l;obtain e|e:=Al.1 l;exact e.symm;have h1:=(Bl.1 s).1 y e;obtain h|h:=p x (n.symm.subset EJ);exact h;have:=H.tr _ _ _ h1 h;rw[H.irr]at this;cases this
 subst hx;have hk:P[k]?=some x:=by
  have:(P.drop k)[0]?=some x:=by rw[m];rfl
  rwa[AV,BK]at this
 have t:P.drop (k+1)=rest:=by
  have:P.drop (k+1)=(P.drop k).drop 1:=by rw[List.drop_drop]
  rw[this,m];rfl
 refine⟨hk,?_,λr b=>?_⟩;rw[t];rw[m]at n;exact List.Perm.cons_inv (f.symm.trans n);obtain h|h:=BH b;exact o r h;rw[h];exact(Bl.1 g).2
def MM{P:List α}{rows:List (List α)}{k:Nat}(a:rows.flatten.Perm (P.drop k))(b:k<=P.length)(h0:∀r∈rows,r=[]):k=P.length:=by have:rows.flatten=[]:=List.flatten_eq_nil_iff.2 h0;rw[this]at a;have:=a.length_eq;simp at this;omega
theorem om(H:Str lt):∀{a b:List α},a.Perm b->Sd lt a->Sd lt b->a=b
 |[],b,h,_,_=>by simp_all
 |x::a,[],h,_,_=>by simp_all
 |x::a,y::b,h,f,hb=>by
  have c:=Bl.1 f;have d:=Bl.1 hb;have e:x=y:=by obtain e|hx:=Al.1 (h.subset (Ck));exact e;obtain e|g:=Al.1 (h.symm.subset (Ck));exact e.symm;have:=H.tr _ _ _ (c.1 y g) (d.1 x hx);rw[H.irr]at this;cases this
  subst e;rw[om H (List.Perm.cons_inv h) c.2 d.2]
def MN(H:Str lt)(l:List α)(hn:l.Nodup):Sd lt (l.mergeSort λx y=>!lt y x):=by
 have h1:(l.mergeSort λx y=>!lt y x).Pairwise λa b=>(!lt b a)=true:=by
  refine C6 ?_ ?_ _
  .intro a b c h1 h2;simp only[Cy]at *;cases e:lt c a with
   |false=>rfl
   |true =>
   exfalso;cases e2:lt b c with
   |true=>have:=H.tr _ _ _ e2 e;simp_all
   |false=>have f:=H.tot _ _ e2 h2;simp_all
  intro a b;simp only[Dw,Cy];cases e:lt b a with
  |false=>simp
  |true =>
  refine .inr ?_;cases e2:lt a b with
  |false=>rfl
  |true=>have:=H.tr _ _ _ e e2;rw[H.irr]at this;cases this
 have h2:=List.Pairwise.and h1 ((Cq l _).nodup_iff.2 hn);refine List.Pairwise.imp ?_ h2;rintro a b ⟨h3,d⟩;cases e:lt a b with
 |true=>rfl
 |false=>exact absurd (H.tot _ _ e (by simpa using h3)) d
end
end Go.Proofs.YtdjbbndbalhekaaGreatDoor.Hp
namespace Go.Proofs.YtdjbbndbalhekaaGreatDoor.Pv
open Go Hp
def ZG(x:Inst)(a b:Int):Int:=arc x (a+1) 0+arc x 0 (b+1)-arc x (a+1) (b+1)
structure Pr where
 a:Int
 b:Int
 s:Int
deriving DecidableEq
def vN(p q:Pr):Bool:=if p.s=q.s then (if p.a=q.a then decide (p.b<q.b) else decide (p.a<q.a)) else decide (q.s<p.s)
def gu:Str vN:=by refine⟨λa=>by simp[vN],λa b c h1 h2=>?_,λa b h1 h2=>?_⟩;grind[vN];obtain⟨d,e,a3⟩:=a;obtain⟨b1,b2,b3⟩:=b;grind[vN]
def xO(x:Inst)(c:List Int)(a:Int):List Pr:=(c.filter λb=>decide (b≠a)).map λb=>⟨a,b,ZG x a b⟩
def Z9(x:Inst)(c:List Int):List Pr:=c.flatMap (xO x c)
def jK(x:Inst)(c:List Int):List Pr:=(Z9 x c).mergeSort λp q=>!vN q p
variable {x:Inst}
theorem cP{c:List Int}{p:Pr}:p∈Z9 x c<->p.a∈c/\p.b∈c/\p.b≠p.a/\p.s=ZG x p.a p.b:=by unfold Z9 xO;simp only[By,Aj,AX,decide_eq_true_eq];constructor;grind;rintro⟨e,hb,d,hs⟩;exact⟨p.a,e,p.b,⟨hb,d⟩,by rw[<-hs]⟩
def oo{c:List Int}(h:c.Nodup):(Z9 x c).Nodup:=by unfold Z9;unfold List.Nodup;rw[List.pairwise_flatMap];grind[xO,List.Pairwise.imp]
def gw{c:List Int}(h:c.Nodup):Sd vN (jK x c):=MN gu _ (oo h)
theorem XE(x:Inst)(c:List Int):(jK x c).Perm (Z9 x c):=Cq _ _
def MO{c:List Int}(h:c.Nodup):(jK x c).length=c.length*(c.length-1):=by
 rw[(XE x c).length_eq];unfold Z9;rw[List.length_flatMap];have:c.map (λa=>(xO x c a).length)=c.map λ_=>c.length-1:=by refine AQ λa d=>?_;unfold xO;rw[List.length_map];have:=List.Nodup.erase_eq_filter h a;have h2:=DN d;rw[this]at h2;rw[<-h2];congr 1;refine List.filter_congr λb _=>?_;by_cases e:b=a<;>simp[e]
 simp_all[List.map_const']
def MP{c:List Int}(h:c.Nodup){l:List Pr}(a:l.Perm (Z9 x c))(hs:Sd vN l):l=jK x c :=
 om gu (a.trans (XE x c).symm) hs (gw h)
def MQ{c d:List Int}(hc:c.Nodup)(a:d.Nodup)(h:c.Perm d):(Z9 x c).Perm (Z9 x d):=by simp_all[DB,oo,cP]
def MR{c d:List Int}(hc:c.Nodup)(a:d.Nodup)(h:c.Perm d):jK x c=jK x d :=
 MP a ((XE x c).trans (MQ hc a h)) (gw hc)
def qp:Nat->List (List Pr)->zQ Int
 |_,[]=>[]
 |i,[]::rows=>qp (i+1) rows
 |i,(p::_)::rows=>((i:Int),-p.s)::qp (i+1) rows
theorem WN:∀(rows:List (List Pr)) (i:Nat) (x:Int × Int),x∈qp i rows<->∃(k:Nat) (p:Pr) (tl:List Pr),rows[k]?=some (p::tl)/\x=(((i+k:Nat):Int),-p.s)
 |[],i,x=>by simp[qp]
 |[]::rows,i,x=>by rw[qp,WN rows (i+1) x];constructor;rintro⟨k,p,tl,h,rfl⟩;exact⟨k+1,p,tl,by simpa using h,by rw[show i+1+k=i+(k+1) by omega]⟩;grind
 |(q::a)::rows,i,x=>by rw[qp,Al,WN rows (i+1) x];constructor;rintro(rfl|⟨k,p,tl,h,rfl⟩);exact⟨0,q,a,rfl,rfl⟩;exact⟨k+1,p,tl,by simpa using h,by rw[show i+1+k=i+(k+1) by omega]⟩;grind
theorem cQ:∀(rows:List (List Pr)) (i k:Nat) (p:Pr) (tl:List Pr),k<rows.length->(qp i (rows.set k (p::tl))).Perm ((((i+k:Nat):Int),-p.s)::qp i (rows.set k []))
 |[],_,_,_,_,h=>by simp at h
 |r::rows,i,0,p,tl,_=>by simp[qp]
 |[]::rows,i,k+1,p,tl,h=>by have:=cQ rows (i+1) k p tl (by simpa using h);grind[qp]
 |(q::a)::rows,i,k+1,p,tl,h=>by have:=cQ rows (i+1) k p tl (by simpa using h);grind[qp]
variable {rows:List (List Pr)}
def MS{k:Nat}{p:Pr}{tl:List Pr}(h:rows[k]?=some (p::tl)):(qp 0 rows).Perm ((((k:Nat):Int),-p.s)::qp 0 (rows.set k [])):=by grind[cQ,List.set_getElem_self]
theorem cR:∀(rows:List (List Pr)) (i:Nat),(qp i rows).length<=rows.length
 |[],_=>by simp[qp]
 |[]::rows,i=>by have:=cR rows (i+1);grind[qp]
 |(q::a)::rows,i=>by have:=cR rows (i+1);simp_all[qp]
structure Rows' (c:List Int) (rows:List (List Pr)):Prop where
 len:rows.length=c.length
 a:∀(i:Nat) r,rows[i]?=some r->∀p∈r,c[i]?=some p.a
def MT{c:List Int}(hc:c.Pairwise (· < ·))(f:Rows' c rows){x:Int × Int}{r:zQ Int}(hs:Zm (x::r))(b:(qp 0 rows).Perm (x::r)):
  ∃(i:Nat) (y:Pr) (tl:List Pr),x=((i:Int),-y.s)/\rows[i]?=some (y::tl)/\r.Perm (qp 0 (rows.set i []))/\∀(j:Nat) z d,rows[j]?=some (z::d)->j≠i->vN y z=true:=by
 obtain⟨i,y,tl,hi,g⟩:=(WN rows 0 x).1 (b.symm.subset Ck);rw[A3]at g;subst g;refine⟨i,y,tl,rfl,hi,(List.Perm.cons_inv ((MS hi).symm.trans b)).symm,λj z d h k=>?_⟩;have l:(((j:Nat):Int),-z.s)∈qp 0 rows:=(WN rows 0 _).2 ⟨j,z,d,h,by simp⟩;obtain e|e:=Al.1 (b.subset l);grind;have h1:=(Bl.1 hs).1 _ e;have m:=f.a i _ hi y EB;have n:=f.a j _ h z EB;grind[il,vN,List.pairwise_iff_getElem]
def jz(l:List Pr):List Int:=l.map λp=>-p.s
def Zo(l:List Pr)(i:Int):Pr:=l.getD i.toNat ⟨0,0,0⟩
def vO(x:Inst)(c:List Int)(a:Int):List Pr:=(Zn (jz (xO x c a))).map (Zo (xO x c a))
def MU(l:List Int):(Zn l).Perm ((List.range l.length).map λi:Nat=>(i:Int)):=by have h:=(MG l).map (·.1);rw[B3,B3]at h;exact h
def MV(l:List Pr):((Zn (jz l)).map (Zo l)).Perm l:=by
 refine((MU _).map _).trans ?_;have:((List.range (jz l).length).map λi:Nat=>(i:Int)).map (Zo l)=l:=by rw[B3];apply Bi;simp[jz];simp_all[Zo]
 rw[this]
def MW{l:List Pr}(h:∀(i j:Nat) p q,i<j->l[i]?=some p->l[j]?=some q->p.a=q.a/\p.b<q.b):Sd vN ((Zn (jz l)).map (Zo l)):=by
 have hs:=MI (jz l);unfold Zn;rw[B3];unfold Zm at hs;rw[Dc]at hs;unfold Sd;rw[Dc];refine List.Pairwise.imp ?_ hs;intro i j d;have hn:(jz l).length=l.length:=by simp[jz]
 have hi:i.val<l.length:=by have:=i.isLt;omega
 have c:j.val<l.length:=by have:=j.isLt;omega
 have e:l[i.val]?=some l[i.val]:=Ac hi;have f:l[j.val]?=some l[j.val]:=Ac c;have g:(jz l).getD i.val 0=-(l[i.val]).s:=by simp[jz,List.getD_eq_getElem?_getD,hi]
 have k:(jz l).getD j.val 0=-(l[j.val]).s:=by simp[jz,List.getD_eq_getElem?_getD,c]
 have m:Zo l (i.val:Int)=l[i.val]:=by simp[Zo,List.getD_eq_getElem?_getD,hi]
 have n:Zo l (j.val:Int)=l[j.val]:=by simp[Zo,List.getD_eq_getElem?_getD,c]
 grind[il,uP,vN]
def MX{c:List Int}(hc:c.Pairwise (· < ·))(a:Int):∀(i j:Nat) p q,i<j->(xO x c a)[i]?=some p->(xO x c a)[j]?=some q->p.a=q.a/\p.b<q.b:=by
 have h:(xO x c a).Pairwise λp q=>p.a=q.a/\p.b<q.b:=by unfold xO;rw[Dc];exact List.Pairwise.imp (λh=>⟨rfl,h⟩) (List.Pairwise.filter _ hc)
 grind[List.pairwise_iff_getElem]
theorem gx(x:Inst)(c:List Int)(a:Int):(vO x c a).Perm (xO x c a):=MV _
theorem MY{c:List Int}(hc:c.Pairwise (· < ·))(a:Int):Sd vN (vO x c a):=MW (MX hc a)
def MZ{c:List Int}(hc:c.Pairwise (· < ·)):Rows' c (c.map (vO x c))/\(∀r∈c.map (vO x c),Sd vN r)/\(c.map (vO x c)).flatten.Perm (jK x c):=by
 refine⟨⟨by simp,λi r d p e=>?_⟩,λr d=>?_,?_⟩;grind[gx,xO];grind[MY];refine List.Perm.trans ?_ (XE x c).symm;unfold Z9;rw[<-List.flatMap_def];have b:∀l:List Int,(l.flatMap (vO x c)).Perm (l.flatMap (xO x c)):=by
  intro l;induction l with
  |nil=>simp
  |cons a l f=>grind[gx]
 exact b c
def Na{c:List Int}(hc:c.Pairwise (· < ·)){k:Nat}(h1:Rows' c rows)(h2:∀r∈rows,Sd vN r)(h3:rows.flatten.Perm ((jK x c).drop k)){f:Int × Int}{r:zQ Int}(hs:Zm (f::r))(g:(qp 0 rows).Perm (f::r)):
  ∃(i:Nat) (y:Pr) (tl:List Pr),f=((i:Int),-y.s)/\rows[i]?=some (y::tl)/\r.Perm (qp 0 (rows.set i []))/\(jK x c)[k]?=some y/\Rows' c (rows.set i tl)/\(∀r∈rows.set i tl,Sd vN r)/\(rows.set i tl).flatten.Perm ((jK x c).drop (k+1)):=by
 have hn:c.Nodup:=List.Pairwise.imp (λh e=>by omega) hc;obtain⟨i,y,tl,l,e2,m,n⟩:=MT hc h1 hs g;obtain⟨o,q,t⟩:=ML gu (gw hn) h2 h3 e2 n;refine⟨i,y,tl,l,e2,m,o,⟨by rw[BP];exact h1.len,λj r b p d=>?_⟩,t,q⟩;rw[BG]at b;split at b;rename_i e;subst e;split at b;cases b;exact h1.a i _ e2 p (BT _ d);cases b;exact h1.a j r b p d
instance:Inhabited Pr:=⟨⟨0,0,0⟩⟩
instance:Enc Pr:=⟨λp=>[I p.a,I p.b,I p.s],3,λ_=>rfl,λ_=>rfl⟩
@[simp] theorem ZDS(p:Pr):Enc.enc p=[I p.a,I p.b,I p.s]:=rfl
@[simp high] theorem ZDT(l:List Pr):(l.flatMap Enc.enc).length=l.length*3:=xz l
@[simp high] theorem ZDU(l:List Pr):(l.flatMap Enc.enc).take (l.length*3)=l.flatMap Enc.enc:=Yw l
def qG(x:Inst):Prop:=∀a b,0<=arc x a b/\arc x a b<=2147483648
def gy(h:qG x)(a b:Int):-2147483648<=ZG x a b/\ZG x a b<=4294967296:=by have h1:=h (a+1) 0;have h2:=h 0 (b+1);have h3:=h (a+1) (b+1);unfold ZG;omega
def Nb(x:Inst)(a b:Int)(hx:qG x)(f:qA a)(hb:qA b):PP 356 [.agg (zB x),I a,I b] (I (ZG x a b)):=by have c:=Yz f;have w2:=Yz hb;have h1:=hx (a+1) 0;have h2:=hx 0 (b+1);have h3:=hx (a+1) (b+1);have d:IntKind.i64.wrap (arc x (a+1) 0+arc x 0 (b+1))=arc x (a+1) 0+arc x 0 (b+1):=wr _ EA EA;have e:IntKind.i64.wrap (arc x (a+1) 0+arc x 0 (b+1)-arc x (a+1) (b+1))=ZG x a b:=wr _ EA EA;refine zt func356 ntmps356 results356 λS nx g=>?_;refine EK ?_;intro v0;refine aG none RA mixed (zR c w2 d e) ?_;refine zJ (un _ _ _) (zR c w2 d e) ?_;refine zJ (un _ _ _) (zR c w2 d e) ?_;refine zJ (un _ _ _) (zR c w2 d e) ?_;exact zg (zi g rfl rfl)
end Go.Proofs.YtdjbbndbalhekaaGreatDoor.Pv
