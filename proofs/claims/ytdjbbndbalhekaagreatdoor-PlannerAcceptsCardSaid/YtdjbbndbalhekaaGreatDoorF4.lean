/- Part of a proof, packed. -/
import Derived.Test.YtdjbbndbalhekaaGreatDoorF3
open List (range length_map length_append map_append append_assoc cons_append map_take take_append_drop)
open Option.some (inj)
open Go.Proofs.YtdjbbndbalhekaaGreatDoor.Pv.Row (pures)
open Go.Proofs.YtdjbbndbalhekaaGreatDoor.Pv.Enc (enc)
open Go.IntKind (i64)
open Go.Proofs.Tryz
set_option linter.defProp false
set_option maxRecDepth 100000
set_option maxHeartbeats 3200000
namespace Go.Proofs.YtdjbbndbalhekaaGreatDoor.Pv
open Go Go.Proofs
def XB(d:zt)(t nx:Nat)(k:Nat)(ts:List PV)(ob:Ob):Prop :=
 ts.length=k/\(k<=t->ts=(d.take k).flatMap enc/\ob=.dead) /\
 (t<k->∃v l,d[t]?=some l/\ts=((d.take k).flatMap enc).set t (.sl (nx+4) v 2 0 l.length)/\ob=.cells v 101 (l.flatMap enc))
variable {d:zt}{t nx k:Nat}{g:List PV}
def Mt{ob:Ob}(h:XB d t nx k g ob)(i:k<d.length)(j:k≠t):XB d t nx (k+1) (g++[L d[k]]) ob:=by obtain⟨h1,h2,h3⟩:=h;have e:d.take (k+1)=d.take k++[d[k]]:=AT i;refine⟨by simp[h1],λf=>?_,λf=>?_⟩;obtain⟨a,b⟩:=h2 D9;exact⟨by rw[e,a,Ap];rfl,b⟩;obtain⟨v,l,a,b,c⟩:=h3 D9;refine⟨v,l,a,?_,c⟩;rw[b,e,Ap,Df _ _ (by rw[qJ];simp;omega)];rfl
variable {b:List PV}
def Mu{ob:Ob}(h:XB d t nx t b ob)(c:t<d.length)(v:Nat):XB d t nx (t+1) (b++[.sl (nx+4) v 2 0 d[t].length]) (.cells v 101 (d[t].flatMap enc)):=by
 obtain⟨h1,h2,h3⟩:=h;have e:d.take (t+1)=d.take t++[d[t]]:=AT c;refine⟨by simp[h1],λf=>by omega,λ_=>⟨v,d[t],Ac c,?_,rfl⟩⟩;obtain⟨a,-⟩:=h2 (Ag _);have hl:((d.take t).flatMap enc).length=t:=by rw[qJ];simp;omega
 rw[a,e,Ap,Bw _ _ D9,hl,Bk];rfl
def gB(d:zt)(t:Nat)(r:d.length<=1048576)(h:∀l∈d,l.length<=1048576)(u:∀l,d[t]?=some l->0<l.length)(S:Store)(nx:Nat)(n:yh nx S):
  SP 328 [.agg [L d]] S (λp S'=>∃v a ob,XB d t nx d.length a ob/\p=.agg [.sl (nx+3) v 1 0 d.length]/\S'=(S.set (nx+3) (.cells v 99 a)).set (nx+4) ob):=by
 refine ZI n func328 ntmps328 results328 ?_;refine EJ ?_;intro v0 v1;refine EJ ?_;intro f;refine qj 2 0 99 1 rfl rfl λv3=>?_;refine ze (EJ ?_);show PW _ _ _ _ _ _ _ (ext _ _ _);rw[mQ 1];refine zn (zF (λ(s:Nat × List PV × Ob × Nat × Nat)=>s.1<=d.length/\XB d t nx s.1 s.2.1 s.2.2.1) (λ(k,a,ob,f,v3)=>[(2,.ptr (nx+1) v1 0),(3,.ptr (nx+2) f 0),(7,L d),(8,I d.length),(9,I k)]) (λ(k,a,ob,f,v3)=>[.cells v0 96 [L d],.cells v1 96 [yI],.cells f 96 [.sl (nx+3) v3 1 0 k],.cells v3 99 a,ob]) (λs=>d.length-s.1) (0,[],.dead,f,v3) [] ⟨by simp,by simp[XB]⟩ EA EA ?_);rintro⟨k,a,ob,f,v3⟩ ⟨w,hI⟩;simp only at w hI ⊢;have b:=hI.1;have c:a.take k=a:=Ad D9;refine EJ ?_;refine ze (zA rfl (λhc=>?_) (λhc=>?_))
 .simp at hc;obtain⟨l,tl,q,y,a3,x⟩:=zH rfl d k hc;obtain⟨e,rfl⟩:=Af.1 q;have j:1<=d.length-k:=D9;refine zk (aA (aF [] (zD hc x j) ?_));intro v5;by_cases i:k=t
  .subst i;have g:=gA d[k] (u _ q) (h _ (AY e));obtain rfl:=(hI.2.1 (Ag _)).2;refine zC (some [nx+5]) R8 (zq b c) ?_;refine⟨?_,?_⟩;all_goals
    skip;refine((g _ (nx+4) EA).mono ?_).v;rintro _ _ ⟨v4,rfl,rfl⟩;rw[yu _ D9 EA,AJ];refine⟨by simp[y8],xE (zq b c) ?_⟩;refine⟨by omega,?_⟩;refine zg ?_;exact zv (k+1,_,_,f,v3+1) [_] ⟨hc,Mu hI e v4⟩ ED (by simp[zy k D9]) rfl EB
  have g:=cR d[k] (h _ (AY e));refine zC (some [nx+5]) RA (zq b c) ?_;refine zK (g) (zq b c) ?_;refine⟨by omega,?_⟩;refine zg ?_;exact zv (k+1,_,_,f,v3+1) [_] ⟨hc,Mt hI e i⟩ ED (by simp[zy k D9]) rfl EB
 simp at hc;obtain rfl:k=d.length:=D9;refine zB (EJ ?_);refine zj ⟨_,(S.set (nx+3) (.cells v3 99 a)).set (nx+4) ob,by simp;rfl,⟨v3,a,ob,hI,rfl,rfl⟩,?_⟩;intro o;by_cases m:o=nx+4;subst m;exact .inl (by rw[q11];simp);by_cases h3:o=nx+3;subst h3;exact .inl (by rw[q10 _ _ _ _ m,q11];simp);rw[q10 _ _ _ _ m,q10 _ _ _ _ h3];exact ye n o
def Mw(d:zt)(a:d.length<=1048576)(b:∀l∈d,l.length<=1048576):PP 328 [.agg [L d]] (.agg [L d]):=by refine mP (k:=d.length) (sz:=1) (e:=99) (cs:=d.flatMap enc) 3 (λS nx c=>(gB d d.length a b EA S nx c).mono ?_) EA;rintro _ _ ⟨v,g,ob,⟨h1,h2,-⟩,rfl,rfl⟩;obtain⟨rfl,rfl⟩:=h2 (Ag _);rw[Ah];refine⟨v,rfl,?_⟩;funext o;by_cases f:o=nx+4;subst f;rw[q11,q10 _ _ _ _ D9,c _ D9];rw[q10 _ _ _ _ f]
def Mx(d:zt)(t:Nat)(l:zT)(a:d.length<=1048576)(b:∀l∈d,l.length<=1048576)(c:d[t]?=some l)(hl:0<l.length)(S:Store)(nx:Nat)(e:yh nx S):
  SP 328 [.agg [L d]] S (λp S'=>∃v w,p=.agg [.sl (nx+3) v 1 0 d.length] /\
   S'=(S.set (nx+3) (.cells v 99 ((d.flatMap enc).set t (.sl (nx+4) w 2 0 l.length)))).set (nx+4) (.cells w 101 (l.flatMap enc))):=by
 refine(gB d t a b (λm hm=>by rw[c]at hm;cases hm;exact hl) S nx e).mono ?_;rintro _ _ ⟨v,f,ob,⟨h1,-,h3⟩,rfl,rfl⟩;obtain⟨w,m,hm,rfl,rfl⟩:=h3 (Af.1 c).1;rw[c]at hm;cases hm;rw[Ah];exact⟨v,w,rfl,rfl⟩
def xH(x:Inst)(t:zT):Int:=W (yT x (t.map (·.c)))
def xn(t:zT):Int:=W (yg t)
def qB(x:Inst)(d:zt):Nat:=(d.filter λt=>decide (yd x t≠0)).length
def My(x:Inst)(d e:zt):qB x (d++e)=qB x d+qB x e:=by simp[qB]
def Mz(x:Inst)(t:zT):qB x [t]=if yd x t=0 then 0 else 1:=by by_cases h:yd x t=0<;>simp[qB,h]
def oB(x:Inst)(d:zt):qB x d<=d.length:=BO _ _
abbrev Yy(x:Inst)(d:zt):List PV:=[I x.days,I x.U,I x.R,I x.len,L x.y,L x.J,L d,L (qv (d.flatten.map (·.c))),B (decide (¬(qv (d.flatten.map (·.c))).Nodup)),L (d.map (yd x)),I (qB x d),L (d.map xn),L (d.map (xH x))]
def oE(x:Inst)(d:zt)(hx:x.y.length<=1048576)(a:DayOk d)(hf:d.flatten.length<=1048576):PP 324 [.agg (zE x),.agg [L d]] (.agg (Yy x d)):=by
 have h1:=nC d a.1 hf;have h2:=nL d.flatten hf;have h3:=nK (qv (d.flatten.map (·.c))) (by rw[Jx,length_map];exact hf) (V2 _);generalize i:qv (d.flatten.map (·.c))=on at *;generalize j:decide (¬on.Nodup)=tw at *;refine c9 func324 λS nx q=>?_;intro v0 v1 g;refine aG (some [nx,nx+1]) (pures [0,1,2,3,4,5] (.alt 6 (.alt 7 (.done) .stop) .stop)) n' ?_;refine zK (h1) n' ?_;refine zK (h2) n' ?_;intro v3;refine EJ ?_;refine zu h3 ?_;refine ze (EJ ?_);refine qj 3 9 49 1 rfl rfl λv4=>?_;refine qj 3 11 3 1 rfl rfl λv5=>?_;refine qj 3 12 3 1 rfl rfl λb=>?_;refine zn (zF (λ(k,v4,v5,b)=>k<=d.length) (λ(k,v4,v5,b)=>[(2,.ptr nx v0 0),(4,.ptr (nx+2) g 0),(5,.ptr (nx+3) v3 0),(20,L d),(21,I d.length),(22,I k)])
  (λ(k,v4,v5,b)=>[.cells v0 25 (zE x),.cells v1 96 [L d],.cells g 390 [I 0,I 0,I 0,I 0,yI,yI,yI,yI,B false,yI,I 0,yI,yI],
   .cells v3 390 [I x.days,I x.U,I x.R,I x.len,L x.y,L x.J,L d,L on,B tw,.sl (nx+4) v4 1 0 k,I (qB x (d.take k)),.sl (nx+5) v5 1 0 k,.sl (nx+6) b 1 0 k],
   .cells v4 49 (((d.map (yd x)).take k).flatMap enc),.cells v5 3 (((d.map xn).take k).flatMap enc),.cells b 3 (((d.map (xH x)).take k).flatMap enc)]) (λs=>d.length-s.1) (0,v4,v5,b) [] EA EA (by simp[qB]) ?_)
 rintro⟨k,v4,v5,b⟩ r;simp only at r ⊢;refine EJ ?_;refine ze (zA rfl (λhc=>?_) (λhc=>?_));simp at hc;obtain⟨t,tl,u,a2,a3,v⟩:=zH rfl d k hc;have l:1<=d.length-k:=D9;have e:=Ab u;have hm:=V4 x t hx (a.t t e);have hl:=nA t (a.t t e);have w:=V1 x t (a.t t e) (a.s t e);have b1:qB x (d.take (k+1))=qB x (d.take k)+if yd x t=0 then 0 else 1:=by rw[a3,My,Mz]
 have b2:=oB x (d.take k);rw[AA]at b2;have b3:=a.n;have b4:=Nat.min_le_left k d.length;have y:(((d.map (yd x)).take (k+1)).flatMap enc:List PV)=((d.map (yd x)).take k).flatMap enc++[I (yd x t)]:=by rw[<-map_take,<-map_take,a3];simp
 have z:(((d.map xn).take (k+1)).flatMap enc:List PV)=((d.map xn).take k).flatMap enc++[I (W (yg t))]:=by rw[<-map_take,<-map_take,a3];simp[xn]
 have f3:(((d.map (xH x)).take (k+1)).flatMap enc:List PV)=((d.map (xH x)).take k).flatMap enc++[I (W (yT x (t.map (·.c))))]:=by rw[<-map_take,<-map_take,a3];simp[xH]
 have l1:(((d.map (yd x)).take k).flatMap enc:List PV).length=k:=by rw[jV,AA,length_map];omega
 have l2:(((d.map xn).take k).flatMap enc:List PV).length=k:=by rw[jV,AA,length_map];omega
 have m:(((d.map (xH x)).take k).flatMap enc:List PV).length=k:=by rw[jV,AA,length_map];omega
 generalize ((d.map (yd x)).take k).flatMap enc=c1 at *;generalize ((d.map xn).take k).flatMap enc=c2 at *;generalize ((d.map (xH x)).take k).flatMap enc=c3 at *;have t1:c1.take k=c1:=Ad D9;have o:c2.take k=c2:=Ad D9;have t3:c3.take k=c3:=Ad D9;generalize qB x (d.take k)=h at *;have wb:i64.wrap ((h:Int)+1)=((h+1:Nat):Int):=zy h D9;generalize yd x t=mt at *;generalize W (yg t)=lt at *;generalize W (yT x (t.map (·.c)))=wt at *;refine zk (aA (aF [] (zD hc v l) ?_));intro p;refine EJ ?_;refine zu hm ?_;refine ze (EJ ?_);refine qg (nx:=nx) (λ_:Unit=>True) (λ_=>[(2,.ptr nx v0 0),(4,.ptr (nx+2) g 0),(5,.ptr (nx+3) v3 0),(7,.ptr (nx+7) p 0),(8,I mt),(20,L d),(21,I d.length),(22,I k)]) (λ_=>S) (λ_=>[.cells v0 25 (zE x),.cells v1 96 [L d],.cells g 390 [I 0,I 0,I 0,I 0,yI,yI,yI,yI,B false,yI,I 0,yI,yI],
  .cells v3 390 [I x.days,I x.U,I x.R,I x.len,L x.y,L x.J,L d,L on,B tw,.sl (nx+4) v4 1 0 k,I (h+(if mt=0 then 0 else 1):Nat),.sl (nx+5) v5 1 0 k,.sl (nx+6) b 1 0 k],
  .cells v4 49 c1,.cells v5 3 c2,.cells b 3 c3,.cells p 99 [L t]]) ?_ ?_
 refine zA rfl (λf=>?_) (λf=>?_);simp at f;rw[if_neg f];refine zi [] wb ?_;exact zY () [] n' EA rfl EA;simp at f;rw[if_pos f];exact zk (zY () [] n' EA rfl EA);rintro⟨⟩ -;refine aF [] (zq t1 l1) ?_;refine⟨by omega,?_⟩;refine aG (some [nx+7]) RG (zq o l2) ?_;refine zK (hl) (zq o l2) ?_;refine⟨by omega,?_⟩;refine zC (some [nx,nx+7]) (pures [0,2,3,4,5] (.alt 1 (.alt 6 (pures [7] (.alt 8 (.done) .stop)) .stop) .stop)) (zq t3 m) ?_;refine zK (w) (zq t3 m) ?_;refine⟨by omega,?_⟩;refine zg ?_;exact zv (k+1,v4+1,v5+1,b+1) [_] ED ED (by simp[zy k D9]) rfl (by simp only[y,z,f3,b1];simp;rfl);simp at hc;obtain rfl:k=d.length:=D9;refine zB (EJ ?_);refine yc 6 rfl ?_;refine yc 5 rfl ?_;refine yc 4 rfl ?_;have g1:(d.map (yd x)).take d.length=d.map (yd x):=Ad EA;have g2:(d.map xn).take d.length=d.map xn:=Ad EA;have g3:(d.map (xH x)).take d.length=d.map (xH x):=Ad EA;exact zj (zm q EB (by simp[zr,g1,g2,g3];simp[<-i,<-j]))
def cS(P:Program)(k:FuncId)(args:Nat->List PV)(xs:List (List PV))(ret:PV):Prop :=
 qU P k/\∀(l:Nat) (V:Ctx->Store->World->Prop) (_:∀{C C':Ctx} {S S':Store} {w w':World},Step C S w C' S' w'->V C S w->V C' S' w') (m:Nat) (J:Nat->Store->Prop),(∀i A,J i A->yh m A) ->
  (∀i A obs x,xs[i]?=some x->J i A->PYield P V l x (ext A m obs) (λT=>∃A',J (i+1) A'/\T=ext A' m obs)) ->
  ∀A,J 0 A->PCallsV P V k (args l) A (λp T=>p=ret/\J xs.length T)
def oF {P : Program} {N : Nat} {f : FuncId} {fn : Func} {c : Code} {rs : List ResultVar} {args : Nat → List PV} {xs : List (List PV)} {ret : PV} (hf : P.funcs[f]? = some fn) (hname : (fn.name == "runtime.NumGoroutine") = false) (hb : fn.body = some c) (hN : fn.ntmps = N) (hrs : fn.results.toList = rs) (hargs : ∀ l, (args l).length ≤ N)
  (h:∀(l:Nat) (V:Ctx->Store->World->Prop) (keep:∀{C C':Ctx} {S S':Store} {w w':World},Step C S w C' S' w'->V C S w->V C' S' w') (nx:Nat) (J:Nat->Store->Prop),(∀i A,J i A->yh nx A) ->
   (∀i A obs x,xs[i]?=some x->J i A->PYield P V l x (ext A nx obs) (λT=>∃A',J (i+1) A'/\T=ext A' nx obs)) ->
   ∀A,J 0 A->PW P ⟨none,V,keep⟩ 0 N c (Yr P rs (λp T=>p=ret/\J xs.length T)) (ZG (args l)) (ext A nx [])):cS P f args xs ret:=by
 refine⟨qN hf hname hb,λl V keep m J a d A b=>?_⟩;have:=h l V keep m J a d A b;rw[jt (a 0 A b)]at this;exact ff hf hb hN hrs (hargs l) this
variable {P:Program}{S:Store}
theorem PYield.mono{V:Ctx->Store->World->Prop}{l:Nat}{args:List PV}{Q Q':Store->Prop}(h:PYield P V l args S Q)(d:∀T,Q T->Q' T):PYield P V l args S Q':=by intro C w vs h1 h2 h3 f;obtain⟨fn,tmps,assign,body,g,i⟩:=h C w vs h1 h2 h3 f;refine⟨fn,tmps,assign,body,g,i.mono ?_⟩;rintro e w' ⟨S',C',a,b,c⟩;exact⟨S',C',a,d _ b,c⟩
variable {A:Store}
def oG{k:FuncId}{args:Nat->List PV}{xs:List (List PV)}{ret:PV}(h:cS P k args xs ret){V:Ctx->Store->World->Prop}(keep:∀{C C':Ctx} {S S':Store} {w w':World},Step C S w C' S' w'->V C S w->V C' S' w')
  {l:Nat} {J:Nat->Store->Prop} {d:List (List PV)} (e:∀i A obs x,d[i]?=some x->J i A->PYield P V l x (ext A nx obs) (λT=>∃A',J (i+1) A'/\T=ext A' nx obs))
  (off:Nat) (b:∀i x,xs[i]?=some x->d[off+i]?=some x)  (f:J off A) (obs:List Ob) :
  SpecV P V k (args l) (ext A nx obs) (λp T=>∃A',p=ret/\J (off+xs.length) A'/\T=ext A' nx obs):=by
 refine⟨h.1,(h.2 l V keep (nx+obs.length) (λi T=>∃A',J (off+i) A'/\T=ext A' nx obs) ?_ ?_ (ext A nx obs) ⟨A,f,rfl⟩).mono ?_⟩;rintro i T ⟨A',_,rfl⟩;exact xP;rintro i T more x hx ⟨A1,c,rfl⟩;rw[VS _ _ rfl];refine(e (off+i) A1 (obs++more) x (b i x hx) c).mono ?_;rintro T ⟨A',a,rfl⟩;exact⟨ext A' nx obs,⟨A',a,rfl⟩,(VS _ _ rfl).symm⟩;rintro p T ⟨rfl,A',a,rfl⟩;exact⟨A',rfl,a,rfl⟩
variable {F:Nat->PV}{obs:List Ob}
def cT{rs:List ResultVar}{J:Store->Prop}{ret:PV}(a:yh nx A)(h1:vI P F (ext A nx obs) rs=some g)(h2:zr g=ret)(b:J A):
  ∃g S',vI P F (ext A nx obs) rs=some g/\(zr g=ret/\J S')/\∀o,S' o=ext A nx obs o\/S' o=.dead:=⟨g,A,h1,⟨h2,b⟩,ye a⟩
variable {α:Type}
def oH{f:Nat->Option α}{n:Nat}{v:α}(a:k<n)(hf:f k=some v):((range n).filterMap f)[((range k).filterMap f).length]?=some v:=by obtain⟨m,rfl⟩:∃m,n=k+(m+1):=⟨n-k-1,by omega⟩;rw[Dx,B7,Ao (Ag _),Bk,CY];simp[hf]
def oI{f:Nat->Option α}(hf:f k=none):((range (k+1)).filterMap f).length=((range k).filterMap f).length:=by rw[AO,B7];simp[hf]
def oJ{f:Nat->Option α}{v:α}(hf:f k=some v):((range (k+1)).filterMap f).length=((range k).filterMap f).length+1:=by rw[AO,B7];simp[hf]
structure Spot where
 t:Nat
 p:Nat
 m:Int
abbrev Yz(s:Spot):List PV:=[.agg [I s.t,I s.p,I s.m]]
def uN(l:zT)(i:Nat):Int:=if i=0 then 0 else (l.getD (i-1) default).c+1
def ZM(l:zT)(i:Nat):Int:=if i<l.length then (l.getD i default).c+1 else 0
def ZN(x:Inst)(l:zT)(s:Stop)(i:Nat):Int:=W (W (arc x (uN l i) (s.c+1)+arc x (s.c+1) (ZM l i))-arc x (uN l i) (ZM l i))
def ZO(x:Inst)(t:Nat)(l:zT)(w:Int)(s:Stop)(i:Nat):Option Spot:=if W (w+ZN x l s i)<=x.len then some ⟨t,i,ZN x l s i⟩ else none
def Ye(x:Inst)(t:Nat)(l:zT)(fl bad ll w:Int)(s:Stop):List Spot :=
 if 0<bad-(if fl=13 then 1 else 0)\/x.R<W (ll+s.q) then [] else (range (l.length+1)).filterMap (ZO x t l w s)
abbrev ZP(x:Inst)(d:zt)(on:List Int)(tw:Bool)(fs:List Int)(bad:Int)(ls ws:List Int):List PV:=[I x.days,I x.U,I x.R,I x.len,L x.y,L x.J,L d,L on,B tw,L fs,I bad,L ls,L ws]
def MA(x:Inst)(d:zt)(on:List Int)(tw:Bool)(fs:List Int)(bad:Nat)(ls ws:List Int)(t:Nat)(l:zT)(s:Stop)(r u w:Int)(d3:bad<=1048576)(d4:d.length<=1048576)(hd:d[t]?=some l)(b7:fs[t]?=some r)(b8:ls[t]?=some u)(c6:ws[t]?=some w)
  (d5:fs.length=d.length) (d6:ls.length=d.length) (d7:ws.length=d.length) (hb:r=13->0<bad) (d8:l.length<=1048576) (a7:∀s∈l,qz s.c) (a8:qz s.c) :
  cS prog 345 (λy=>[.agg (ZP x d on tw fs bad ls ws),I t,.agg [I s.c,I s.q],x9 y]) ((Ye x t l r bad u w s).map Yz) (B true):=by
 refine oF func345 EF rfl ntmps345 (congrArg Array.toList results345) EA λy V keep nx J v hY A0 g=>?_;have ht:t<d.length:=(Af.1 hd).1;obtain⟨c7,tf,a1,-,-,ef⟩:=zH rfl fs t D9;obtain⟨c8,tl,a2,-,-,a9⟩:=zH rfl ls t D9;obtain⟨w',d9,a3,-,-,ew⟩:=zH rfl ws t D9;obtain⟨l',td,a4,-,-,ed⟩:=zH rfl d t ht;obtain rfl:r=c7:=by rw[b7]at a1;exact inj a1
 obtain rfl:u=c8:=by rw[b8]at a2;exact inj a2
 obtain rfl:w=w':=by rw[c6]at a3;exact inj a3
 obtain rfl:l=l':=by rw[hd]at a4;exact inj a4
 have h1:1<=fs.length-t:=D9;have h2:1<=ls.length-t:=D9;have h3:1<=ws.length-t:=D9;have h4:1<=d.length-t:=D9;have g1:t<fs.length:=D9;have g2:t<ls.length:=D9;have g3:t<ws.length:=D9;refine EJ ?_;intro v0 v1;refine EJ ?_;refine ze (aF [] (zD ef h1 g1) ?_);obtain⟨e,b⟩:∃e:Int,e=bad-(if r=13 then 1 else 0):=⟨_,rfl⟩;refine qg (nx:=nx) (λ_:Unit=>True) (λ_=>[(1,I t),(3,x9 y),(4,.ptr nx v0 0),(6,.ptr (nx+1) v1 0),(9,I e)]) (λ_=>A0) (λ_=>[.cells v0 390 (ZP x d on tw fs bad ls ws),.cells v1 101 [I s.c,I s.q]]) ?_ ?_;refine zA rfl (λhq=>?_) (λhq=>?_);simp at hq;have e0:=hb hq;rw[if_pos hq]at b;have wb:i64.wrap ((bad:Int)-1)=e:=by rw[b,wr _ D9 D9]
 refine zi [] wb ?_;exact zY () [] n' EA rfl EA;simp at hq;rw[if_neg hq]at b;obtain rfl:e=bad:=D9;exact zk (zY () [] n' EA rfl EA);rintro⟨⟩ -;have i:∀(h:0<e\/x.R<W (u+s.q)),Ye x t l r bad u w s=[]:=λh=>by unfold Ye;rw[if_pos (by rw[b]at h;exact h)]
 by_cases ho:0<e;rw[i (.inl ho)]at hY ⊢;refine ze (aG (some [nx,nx+1]) R3 (zq ho zz) ?_);refine zo rfl (EJ ?_);exact zj (cT (v _ _ g) EB (by simp[zr]) g);by_cases f:x.R<W (u+s.q);rw[i (.inr f)]at hY ⊢;refine ze (aG (some [nx,nx+1]) R3 (zN ho f a9 h2 g2 zz) ?_);refine zo rfl (EJ ?_);exact zj (cT (v _ _ g) EB (by simp[zr]) g);have hz:Ye x t l r bad u w s=(range (l.length+1)).filterMap (ZO x t l w s):=by unfold Ye;rw[if_neg (by rw[<-b];simp[ho,f])]
 clear i;rw[hz]at hY ⊢;refine ze (aG (some [nx,nx+1]) R3 (yp ho f a9 h2 g2) ?_);refine zp rfl (zk ?_);have wc:i64.wrap (s.c+1)=s.c+1:=wr _ (by unfold qz at a8;omega) (by unfold qz at a8;omega);refine aG (some [nx,nx+1]) Rp (zM ed h4 ht wc) ?_;have wl:i64.wrap ((l.length:Int)+1)=((l.length+1:Nat):Int):=zy _ D9;refine ze (aF [] wl ?_);refine zn (xC (σ:=Nat × Store) (λs'=>s'.1<=l.length+1/\J ((range s'.1).filterMap (ZO x t l w s)).length s'.2) (λs'=>[(1,I t),(3,x9 y),(4,.ptr nx v0 0),(6,.ptr (nx+1) v1 0),(10,L l),(11,I (s.c+1)),(54,I ((l.length+1:Nat):Int)),(55,I s'.1)]) (λs'=>s'.2)
  (λ_=>[.cells v0 390 (ZP x d on tw fs bad ls ws),.cells v1 101 [I s.c,I s.q]]) (λs'=>l.length+1-s'.1) (zY (0,A0) [] (by simpa using g) EA rfl EA) ?_)
 rintro⟨k,A⟩ ⟨hk,hJ⟩;simp only at hk hJ ⊢;refine EJ ?_;refine ze (zA rfl (λhc=>?_) (λhc=>?_));simp at hc;refine zk (aA (EJ ?_));refine EJ ?_;refine ze (EJ ?_);refine qg (nx:=nx) (λ_:Unit=>True) (λ_=>[(1,I t),(3,x9 y),(4,.ptr nx v0 0),(6,.ptr (nx+1) v1 0),(10,L l),(11,I (s.c+1)),(12,I k),(13,I (uN l k)),(14,I 0),(54,I ((l.length+1:Nat):Int)),(55,I k)]) (λ_=>A) (λ_=>[.cells v0 390 (ZP x d on tw fs bad ls ws),.cells v1 101 [I s.c,I s.q]]) ?_ ?_;refine zA rfl (λa=>?_) (λa=>?_);simp at a;obtain⟨j,rfl⟩:∃j,k=j+1:=⟨k-1,by omega⟩;obtain⟨p,tp,p1,-,-,-,ep⟩:=el 2 rfl l j D9;have wj:i64.wrap (j:Int)=(j:Int):=wr _ D9 D9;have d0:j<l.length:=D9;have z:2<=l.length*2-j*2:=D9;have m:=a7 p (Ab p1);have wp:i64.wrap (p.c+1)=p.c+1:=wr _ (by unfold qz at m;omega) (by unfold qz at m;omega);have a0:uN l (j+1)=p.c+1:=by unfold uN;rw[if_neg D9,Cc,Aa,p1];rfl
 refine zi [] (yp wj ep wp d0 z) ?_;exact zY () [] n' (by simp[a0]) rfl EA;simp at a;subst a;exact zk (zY () [] n' (by simp[uN]) rfl EA);rintro⟨⟩ -;refine ze (EJ ?_);refine qg (nx:=nx) (λ_:Unit=>True) (λ_=>[(1,I t),(3,x9 y),(4,.ptr nx v0 0),(6,.ptr (nx+1) v1 0),(10,L l),(11,I (s.c+1)),(12,I k),(13,I (uN l k)),(14,I (ZM l k)),(54,I ((l.length+1:Nat):Int)),(55,I k)]) (λ_=>A) (λ_=>[.cells v0 390 (ZP x d on tw fs bad ls ws),.cells v1 101 [I s.c,I s.q]]) ?_ ?_;refine zA rfl (λa=>?_) (λa=>?_);simp at a;obtain⟨p,tp,p1,-,-,-,ep⟩:=el 2 rfl l k a;have z:2<=l.length*2-k*2:=D9;have m:=a7 p (Ab p1);have wp:i64.wrap (p.c+1)=p.c+1:=wr _ (by unfold qz at m;omega) (by unfold qz at m;omega);have a0:ZM l k=p.c+1:=by unfold ZM;rw[if_pos a,Aa,p1];rfl
 refine zi [] (zM ep wp a z) ?_;exact zY () [] n' (by simp[a0]) rfl EA;simp at a;exact zk (zY () [] n' (by simp[ZM];omega) rfl EA);rintro⟨⟩ -;have q1:=ul x (uN l k) (s.c+1);have q2:=ul x (s.c+1) (ZM l k);have q3:=ul x (uN l k) (ZM l k);have a5:W (W (arc x (uN l k) (s.c+1)+arc x (s.c+1) (ZM l k))-arc x (uN l k) (ZM l k))=ZN x l s k:=rfl;refine aG (some [nx,nx+1]) RQ n' ?_;refine zK (q1) n' ?_;refine zK (q2) n' ?_;refine zK (q3) a5 ?_;by_cases hf:W (w+ZN x l s k)<=x.len;have o:ZO x t l w s k=some ⟨t,k,ZN x l s k⟩:=by unfold ZO;rw[if_pos hf]
 have d1:=oH (n:=l.length+1) D9 o;have a6:=oJ o;have hy:(((range (l.length+1)).filterMap (ZO x t l w s)).map Yz)[((range k).filterMap (ZO x t l w s)).length]?=some (Yz ⟨t,k,ZN x l s k⟩):=by rw[Ai,d1];rfl
 refine aG (some [nx,nx+1]) (pures [0,1,2,3,4,5,6,7,8,9,10,11,12,13,14,15,16] (.alt 17 (pures [18,19] .done) .stop)) (yp a5 ew h3 g3 hf) ?_;refine⟨by rfl,(Ww rfl rfl rfl (hY _ _ _ _ hy hJ) ?_)⟩;rintro _ ⟨A',d2,rfl⟩;refine⟨by simp[y8],xE n' ?_⟩;refine zp rfl (zk (zg ?_));exact zv (k+1,A') [] ⟨by show k+1<=_;omega,by rw[a6];exact d2⟩ ED (by simp[zy k D9]) rfl EA;have o:ZO x t l w s k=none:=by unfold ZO;rw[if_neg hf]
 have a6:=oI o;refine aG (some [nx,nx+1]) Rc (zN a5 ew h3 g3 hf zz) ?_;refine zp rfl (zk (zg ?_));exact zv (k+1,A) [] ⟨by show k+1<=_;omega,by rw[a6];exact hJ⟩ ED (by simp[zy k D9]) rfl EA;simp at hc;obtain rfl:k=l.length+1:=D9;refine zB (EJ ?_);exact zj (cT (v _ _ hJ) EB (by simp[zr]) (by simpa using hJ))
def gC(x:Inst):(yW x).y.length<=6:=by simp[yW];omega
theorem cU:∀(d:zt),(∀t∈d,t≠[])->d.length<=d.flatten.length
 |[],_=>by simp
 |t::d,h=>by
  have:=cU d λt a=>h t (by simp[a]);have h1:t.length≠0:=by simpa using h t EA
  rw[BB,length_append,Ae];omega
def QQ{t:zT}(h:t∈d):t.Sublist d.flatten:=by obtain⟨a,b,rfl⟩:=List.append_of_mem h;rw[List.flatten_append,BB];exact(List.sublist_append_left t b.flatten).trans (List.sublist_append_right a.flatten _)
variable {a:List Int}
def MB{b:List Int}(h:a.Perm b):a.sum=b.sum:=by
 induction h with
 |nil=>rfl
 |cons x _ e=>simp[e]
 |swap x y l=>simp;omega
 |trans _ _ c d=>exact c.trans d
theorem uO(x:Inst)(d:zt):yx x d=0<->(∀t∈d,yd x t=0)/\(d.flatten.map (·.c)).Nodup/\(d.length:Int)<=x.U:=by
 unfold yx;cases hf:d.find? (λt=>yd x t != 0) with
 |some t =>
 have h1:=List.find?_some hf;have h2:=List.mem_of_find?_eq_some hf;simp only;constructor;intro e;simp[e]at h1;rintro⟨h,_⟩;exact h t h2
 |none =>
 rw[List.find?_eq_none]at hf;simp only;constructor;intro e;refine⟨λt a=>by simpa using hf t a,?_⟩;split at e;cases e;split at e;cases e;rename_i h1 h2;exact⟨by simpa using h1,by omega⟩;rintro⟨_,h1,h2⟩;rw[if_neg (by simpa using h1),if_neg D9]
theorem WH(x:Inst)(t:zT):yd x t=0<->jH x t=true/\(t.map (·.c)).Nodup/\W (yg t)<=x.R/\W (yT x (t.map (·.c)))<=x.len:=by unfold yd;constructor;intro e;split at e;cases e;split at e;cases e;split at e;cases e;split at e;cases e;rename_i h1 h2 h3 a;exact⟨by simpa using h1,by simpa using h2,by omega,by omega⟩;rintro⟨h1,h2,h3,a⟩;rw[if_neg (by simp[h1]),if_neg (by simpa using h2),if_neg D9,if_neg D9]
def gD{t:zT}(h:∀s∈t,0<=s.q/\s.q<=2147483648):0<=yg t/\yg t<=2147483648*t.length:=by
 induction t with
 |nil=>simp[yg]
 |cons s t b =>
 have:=b λa c=>h a (by simp[c]);have:=h s EA;simp only[yg,Aw,BE,Ae]at *;omega
def MC(a b:zT):yg (a++b)=yg a+yg b:=by simp[yg]
def qP(x:Inst)(d:zt)(s:Stop):List Spot :=
 if yd x [s]=1\/s.c∈d.flatten.map (·.c)\/¬(d.flatten.map (·.c)).Nodup\/x.U<d.length then []
 else ((range d.length).flatMap λt=>Ye x t (d.getD t []) (yd x (d.getD t [])) (qB x d) (xn (d.getD t [])) (xH x (d.getD t [])) s) ++
  (if qB x d=0/\yd x [s]=0/\(d.length:Int)<x.U then [⟨d.length,0,W (yT x [s.c])⟩] else [])
def QR(st:Spot × Bool)(b:Spot):Spot × Bool:=if st.2=false\/b.m<st.1.m then (b,true) else st
def YA(l:List Spot):Spot × Bool:=l.foldl QR (⟨0,0,0⟩,false)
def wE(l:zT)(i:Nat)(s:Stop):zT:=l.take i++s::l.drop i
def xS(d:zt)(b:Spot)(s:Stop):zt:=if b.t=d.length then d++[[s]] else d.set b.t (wE (d.getD b.t []) b.p s)
def qm(x:Inst)(d:zt)(s:Stop):zt × Bool:=bif (YA (qP x d s)).2 then (xS d (YA (qP x d s)).1 s,true) else (d,false)
theorem oK:∀(l:List Spot) (st:Spot × Bool),(l.foldl QR st).2=true->(l.foldl QR st)=st\/(l.foldl QR st).1∈l
 |[],st,_=>.inl rfl
 |b::l,st,h=>by rw[Ba]at h ⊢;obtain e|e:=oK l _ h;by_cases a:st.2=false\/b.m<st.1.m;right;rw[e];unfold QR;rw[if_pos a];simp;left;rw[e];unfold QR;rw[if_neg a];simp_all
theorem cV{l:List Spot}(h:(YA l).2=true):(YA l).1∈l:=by grind[oK,YA]
variable {x:Inst}
def MD{l:zT}{a bad c w:Int}{s:Stop}{b:Spot}(h:b∈Ye x t l a bad c w s):¬(0<bad-(if a=13 then 1 else 0))/\W (c+s.q)<=x.R/\b∈(range (l.length+1)).filterMap (ZO x t l w s):=by simp_all[Ye]
def al{s:Stop}{b:Spot}(h:b∈qP x d s):
  yd x [s]≠1/\s.c ∉ d.flatten.map (·.c)/\(d.flatten.map (·.c)).Nodup/\(d.length:Int)<=x.U /\
  ((∃l,d[b.t]?=some l/\b.p<=l.length/\¬(0<(qB x d:Int)-(if yd x l=13 then 1 else 0))/\W (xn l+s.q)<=x.R/\b.m=ZN x l s b.p/\W (xH x l+b.m)<=x.len) \/
   (b=⟨d.length,0,W (yT x [s.c])⟩/\qB x d=0/\yd x [s]=0/\(d.length:Int)<x.U)):=by
 unfold qP at h;split at h;cases h;rename_i g;have k:yd x [s]≠1:=λe=>g (.inl e);have n:s.c ∉ d.flatten.map (·.c):=λe=>g (.inr (.inl e));have o:(d.flatten.map (·.c)).Nodup:=Classical.byContradiction λe=>g (.inr (.inr (.inl e)));have r:(d.length:Int)<=x.U:=by obtain e|e:=Int.lt_or_le x.U d.length;exact absurd (.inr (.inr (.inr e))) g;exact e
 refine⟨k,n,o,r,?_⟩;rw[AC]at h;obtain h|h:=h;left;obtain⟨t,j,hb⟩:=Bz.1 h;rw[AI]at j;have u:d[t]?=some (d.getD t []):=by rw[Aa,Ac j];rfl
 obtain⟨v,w2,hb⟩:=MD hb;obtain⟨i,hi,f⟩:=Cm.1 hb;rw[AI]at hi;unfold ZO at f;by_cases a:W (xH x (d.getD t [])+ZN x (d.getD t []) s i)<=x.len;rw[if_pos a]at f;cases f;exact⟨_,u,by simp only;omega,v,w2,rfl,a⟩;rw[if_neg a]at f;cases f;simp_all
def qK(a:Int):List Int->Int
 |[]=>a
 |c::l=>qK (c+1) l
def cW:List Int->Int
 |[]=>0
 |c::_=>c+1
theorem oL(x:Inst)(c:Int)(r:List Int):∀(p:List Int) (a:Int),xR x a (p++c::r)=xR x a (p++r)+(arc x (qK a p) (c+1)+arc x (c+1) (cW r)-arc x (qK a p) (cW r))
 |[],a=>by cases r<;>grind[xR,qK,cW]
 |e::p,a=>by simp only[cons_append,xR,qK];rw[oL x c r p (e+1)];omega
theorem oM:∀(p:List Int) (a:Int),qK a p=if p.length=0 then a else (p.getD (p.length-1) 0)+1
 |[],a=>by simp[qK]
 |[c],a=>by simp[qK]
 |c::e::p,a=>by simp only[qK];rw[show qK (e+1) p=qK (c+1) (e::p) from rfl,oM (e::p) (c+1)];simp
def ME(l:zT)(i:Nat)(h:i<l.length):(l.map (·.c)).getD i 0=(l.getD i default).c:=EI
theorem MF(x:Inst)(l:zT)(s:Stop)(i:Nat)(h0:l≠[])(hi:i<=l.length):
  yT x ((wE l i s).map (·.c))=yT x (l.map (·.c))+(arc x (uN l i) (s.c+1)+arc x (s.c+1) (ZM l i)-arc x (uN l i) (ZM l i)):=by
 unfold yT wE;rw[if_neg EA,if_neg (by simpa using h0)];rw[map_append,Aw,oL,<-map_append,take_append_drop];have b:qK 0 ((l.take i).map (·.c))=uN l i:=by rw[oM];unfold uN;rw[length_map,AA];by_cases a:i=0;rw[if_pos D9,if_pos a];rw[if_neg D9,if_neg a,ME _ _ (by rw[AA];omega)];rw[Aa,Aa,AP D9,show min i l.length-1=i-1 from by omega]
 grind[cW,ZM,List.drop_eq_getElem_cons]
def oN(x:Inst)(l:zT)(s:Stop)(i:Nat)(h0:l≠[])(hi:i<=l.length):xH x (wE l i s)=W (xH x l+ZN x l s i):=by unfold xH ZN;grind[MF,IntKind.wrap_i64]
def oO(l:zT)(s:Stop)(i:Nat):xn (wE l i s)=W (xn l+s.q):=by grind[xn,uk,yg,wE,take_append_drop]
theorem am(l:zT)(s:Stop)(i:Nat):(wE l i s).Perm (s::l):=by grind[wE,take_append_drop]
theorem gE:∀(d:List (List α)) (t:Nat) (l m:List α) (s:α),d[t]?=some l->m.Perm (s::l)->(d.set t m).flatten.Perm (s::d.flatten)
 |[],t,l,m,s,h,_=>by simp at h
 |a::d,0,l,m,s,h,hm=>by simp at h;subst h;simp only[AR,BB];exact(hm.append_right _)
 |a::d,t+1,l,m,s,h,hm=>by simp only[Bj]at h;simp only[AM,BB];exact((gE d t l m s h hm).append_left a).trans List.perm_middle
theorem gF{s:Stop}{b:Spot}(h:b∈qP x d s):(xS d b s).flatten.Perm (s::d.flatten):=by obtain⟨-,-,-,-,h⟩:=al h;unfold xS;grind[gE,am]
def gG{s:Stop}(h:(qm x d s).2=true):(qm x d s).1.flatten.Perm (s::d.flatten):=by grind[qm,gF,cV]
def oP{s:Stop}(h:(qm x d s).2=false):(qm x d s).1=d:=by grind[qm]
def MG{a b:zT}(h:a.Perm b):jH x a=jH x b:=by
 unfold jH;have h1:a.all (jx x)=b.all (jx x):=by rw[Dm,Av,Av];exact⟨λq s hs=>q s (h.symm.subset hs),λq s hs=>q s (h.subset hs)⟩
 have h2:a.isEmpty=b.isEmpty:=by
  cases a with
  |nil=>simp_all
  |cons a l =>
  grind
 rw[h1,h2]
def cX{t:zT}(h:jH x t=true):t≠[]:=by simp_all[jH]
theorem gH{t:zT}(h:jH x t=false):yd x t=1:=by simp_all[yd]
def oQ{s:Stop}(h:yd x [s]≠1):jx x s=true:=by grind[jH,gH]
theorem JD:qB x d=0<->∀t∈d,yd x t=0:=by simp[qB]
def gI{s:Stop}{b:Spot}(h:b∈qP x d s):yx x (xS d b s)=0:=by
 have hp:=gF h;obtain⟨q1,q2,q3,q4,h⟩:=al h;rw[uO];have hg:=oQ q1;have hn:((xS d b s).flatten.map (·.c)).Nodup:=by rw[(hp.map _).nodup_iff,Aw,CU];exact⟨q2,q3⟩
 refine⟨?_,hn,?_⟩;rcases h with ⟨l,hl,hi,ho,r,hm,u⟩|⟨rfl,hb,hs,hv⟩
 obtain⟨v,a2⟩:=Af.1 hl;have w:xS d b s=d.set b.t (wE l b.p s):=by unfold xS;rw[if_neg D9,Aa,hl];rfl
 have y:∀j m,j≠b.t->d[j]?=some m->yd x m=0:=by
  intro j m q k;refine Classical.byContradiction λf=>?_;have a3:0<qB x d:=by obtain e|e:=Ca (qB x d);exact absurd (JD.1 e m (Ab k)) f;exact e
  by_cases hf:yd x l=13;rw[if_pos hf]at ho;have h2:2<=qB x d:=by
   unfold qB;obtain⟨a0,a4⟩:=Af.1 k;have key:∀(i j:Nat),i<j->∀(a c:zT),d[i]?=some a->d[j]?=some c->yd x a≠0->yd x c≠0->2<=(d.filter λt=>decide (yd x t≠0)).length:=by intro i j a5 a c ha hc na nc;obtain⟨a6,rfl⟩:=Af.1 ha;obtain⟨a0,rfl⟩:=Af.1 hc;have e:d=d.take (i+1)++d.drop (i+1):=(take_append_drop _ _).symm;rw[e,Cd,length_append];have m1:d[i]∈(d.take (i+1)).filter λt=>decide (yd x t≠0):=Bu.2 ⟨Ab (i:=i) (by rw[AP D9];exact ha),by simp[na]⟩;have m2:d[j]∈(d.drop (i+1)).filter λt=>decide (yd x t≠0):=Bu.2 ⟨Ab (i:=j-(i+1)) (by rw[AL,show i+1+(j-(i+1))=j from by omega];exact hc),by simp[nc]⟩;have:=DV m1;have:=DV m2;omega
   have nl:yd x l≠0:=by rw[hf];decide
   obtain h3|h3:=Bc j b.t;exact key j b.t h3 m l k hl f nl;exact key b.t j D9 l m hl k nl f
  omega;rw[if_neg hf]at ho;omega
 have g:yd x l=0\/yd x l=13:=by by_cases hf:yd x l=13;exact .inr hf;rw[if_neg hf]at ho;exact .inl (JD.1 D9 l (Ab hl))
 have n:jH x l=true:=by
  cases e:jH x l with
  |true=>rfl
  |false=>rw[gH e]at g;obtain h|h:=g<;>cases h
 have a1:=cX n;intro t ht;rw[w]at ht;obtain⟨j,q⟩:=Bp.1 ht;rw[BG]at q;by_cases o:b.t=j;rw[if_pos o,if_pos v]at q;cases q;rw[WH];refine⟨?_,?_,?_,?_⟩;rw[MG (am l s b.p)];unfold jH at n ⊢;simp only[Cl,List.isEmpty_cons,Ar]at n ⊢;exact⟨⟨hg,n.1⟩,rfl⟩;have z:(wE l b.p s).Sublist (xS d b s).flatten:=by rw[w];exact QQ ht
 exact hn.sublist (z.map _);have:=oO l s b.p;unfold xn at this;rw[this];exact r;have:=oN x l s b.p a1 hi;unfold xH at this;rw[this,<-hm];exact u;rw[if_neg o]at q;exact y j t (λe=>o e.symm) q;grind[xS,JD];obtain⟨l,hl,-⟩|⟨rfl,-,-,hv⟩:=h;have v:=(Af.1 hl).1;unfold xS;rw[if_neg D9,Bv];exact q4;grind[xS]
def vu(c:Int)(t:zT):zT:=t.filter λs=>decide (s.c≠c)
def wF(c:Int)(d:zt):zt:=(d.map (vu c)).filter λt=>!t.isEmpty
def oR(c:Int)(d:zt):Int:=W ((d.flatten.filter λs=>decide (s.c=c)).map (·.q)).sum
def MH(c:Int)(a b:zt):wF c (a++b)=wF c a++wF c b:=by simp[wF]
open Hp
theorem JI.begin:∀(l pre:List Stop) (T:zt) (g:Int->Option Int),JI pre T g->((pre++l).map (·.c)).Nodup->∃g',JI (pre++l) (T++l.map λs=>[s]) g'
 |[],pre,T,g,h,_=>⟨g,by simpa using h⟩
 |s::l,pre,T,g,h,hn=>by
  have hs:s.c ∉ pre.map (·.c):=by rw[map_append,DG]at hn;exact λhm=>hn.2.2 _ hm s.c EA rfl
  obtain⟨g',h'⟩:=JI.begin l (pre++[s]) (T++[[s]]) _ (h.snoc s hs) (by simpa using hn);exact⟨g',by simpa using h'⟩
theorem gJ(f:α->Int):∀(T:List α) (i:Nat) (a b:α),T[i]?=some a->((T.set i b).map f).sum=(T.map f).sum-f a+f b
 |[],i,a,b,h=>by simp at h
 |t::T,0,a,b,h=>by simp at h;subst h;simp;omega
 |t::T,i+1,a,b,h=>by simp only[Bj]at h;simp only[AM,Aw,BE];rw[gJ f T i a b h];omega
theorem oS(h:jk x):∀(l:List Int) (a:Int),0<=xR x a l/\xR x a l<=2147483648*((l.length:Int)+1)
 |[],a=>by have:=h a 0;simp_all[xR]
 |c::l,a=>by have h1:=h a (c+1);have h2:=oS h l (c+1);grind[xR]
def WI(h:jk x)(l:List Int):0<=yT x l/\yT x l<=2147483648*((l.length:Int)+1):=by unfold yT;split<;>simp_all[oS]
theorem cY(h:jk x):∀d:zt,0<=yl x d/\yl x d<=2147483648*((d.flatten.length:Int)+d.length)
 |[]=>by simp[yl]
 |t::d=>by have h1:=WI h (t.map (·.c));have h2:=cY h d;grind[yl]
def JE(d:zt):List (Nat × Nat):=(range (d.length+1)).flatMap λt=>(range ((d.getD t []).length+1)).map λp=>(t,p)
def Qa(d:zt)(s:Stop)(c:Nat × Nat):zt:=xS d ⟨c.1,c.2,0⟩ s
def gK(x:Inst)(d:zt)(s:Stop)(c:Nat × Nat):Int:=if c.1=d.length then W (yT x [s.c]) else ZN x (d.getD c.1 []) s c.2
def XC(x:Inst)(d:zt)(s:Stop)(c:Nat × Nat):Option Spot:=if yx x (Qa d s c)=0 then some ⟨c.1,c.2,gK x d s c⟩ else none
theorem oT(d:zt)(s:Stop)(b:Spot):xS d b s=Qa d s (b.t,b.p):=rfl
def oU{c:Nat × Nat}:c∈JE d<->c.1<=d.length/\c.2<=(d.getD c.1 []).length:=by grind[JE]
abbrev cZ(x:Inst)(d:zt)(s:Stop):Prop:=yd x [s]=1\/s.c∈d.flatten.map (·.c)\/¬(d.flatten.map (·.c)).Nodup\/x.U<d.length
variable {p:Nat}
def oV{s:Stop}{l:zT}(hl:d[t]?=some l):Qa d s (t,p)=d.set t (wE l p s):=by grind[Qa,xS]
theorem oW(d:zt)(s:Stop)(p:Nat):Qa d s (d.length,p)=d++[[s]]:=by simp[Qa,xS]
def MI{s:Stop}{c:Nat × Nat}(hc:c∈JE d):(Qa d s c).flatten.Perm (s::d.flatten):=by
 obtain⟨t,p⟩:=c;obtain⟨h1,h2⟩:=oU.1 hc;simp only at h1 h2;by_cases a:t=d.length;simp_all[oW];have hl:d[t]?=some (d.getD t []):=by rw[Aa,Ac D9];rfl
 rw[oV hl];grind[gE,am]
def MJ{s:Stop}(f:yx x d=0){c:Nat × Nat}(hc:c∈JE d)(h:yx x (Qa d s c)=0):¬cZ x d s:=by have b:=MI (s:=s) hc;obtain⟨g1,e,g3⟩:=(uO x _).1 h;obtain⟨i,e2,j⟩:=(uO x _).1 f;rw[(b.map _).nodup_iff,Aw,CU]at e;rintro(q|q|q|q);obtain⟨u,k,g⟩:=BA.1 (b.symm.subset (Co (a:=s)));grind[jH,yd];exact e.1 q;exact q e2;omega
theorem oX{s:Stop}(m:yx x d=0)(ho:¬cZ x d s){l:zT}(hl:d[t]?=some l)(n:p<=l.length):
  yx x (Qa d s (t,p))=0<->W (xn l+s.q)<=x.R/\W (xH x l+ZN x l s p)<=x.len:=by
 obtain⟨k,e2,r⟩:=(uO x _).1 m;have g:=Ab hl;have c:=(Af.1 hl).1;have e:=k l g;have j:l≠[]:=cX ((WH x l).1 e).1;have hb:qB x d=0:=JD.2 k;have o:d.getD t []=l:=by rw[Aa,hl];rfl
 constructor;intro h;obtain⟨g1,-,-⟩:=(uO x _).1 h;rw[oV hl]at g1;have:=g1 (wE l p s) (Ab (i:=t) (by simp[c]));obtain⟨-,-,a,b⟩:=(WH x _).1 this;have u:=oO l s p;have v:=oN x l s p j n;simp_all[xn,xH];rintro⟨a,b⟩;have f:(⟨t,p,ZN x l s p⟩:Spot)∈qP x d s:=by unfold qP;rw[if_neg ho];refine List.mem_append_left _ (Bz.2 ⟨t,AI.2 c,?_⟩);rw[o,hb,e];unfold Ye;rw[if_neg ED];refine Cm.2 ⟨p,AI.2 D9,?_⟩;unfold ZO;rw[if_pos b]
 have:=gI f;simp_all[oT]
def MK{s:Stop}(f:yx x d=0)(ho:¬cZ x d s):yx x (Qa d s (d.length,0))=0<->yd x [s]=0/\(d.length:Int)<x.U:=by
 obtain⟨g,e2,h⟩:=(uO x _).1 f;have hb:qB x d=0:=JD.2 g;constructor;grind[uO,oW];rintro⟨a,b⟩;have e:(⟨d.length,0,W (yT x [s.c])⟩:Spot)∈qP x d s:=by unfold qP;rw[if_neg ho,if_pos ⟨hb,a,b⟩];exact List.mem_append_right _ EA
 have:=gI e;simp_all[oT]
variable {β:Type}
def oY{f:α->Option β}{l:List α}(h:∀a∈l,f a=none):l.filterMap f=[]:=EI
theorem oZ{f g:α->List β}:∀{l:List α},(∀a∈l,f a=g a)->l.flatMap f=l.flatMap g
 |[],_=>rfl
 |a::l,h=>by rw[AB,AB,h a EA,oZ λb hb=>h b (by simp[hb])]
theorem pd{f g:α->Option β}:∀{l:List α},(∀a∈l,f a=g a)->l.filterMap f=l.filterMap g
 |[],_=>rfl
 |a::l,h=>by have c:=pd (f:=f) (g:=g) (l:=l) λb hb=>h b (by simp[hb]);grind
def QS(x:Inst)(d:zt)(s:Stop)(t:Nat):List Spot:=((range ((d.getD t []).length+1)).map λp=>(t,p)).filterMap (XC x d s)
def pg{s:Stop}(b:yx x d=0):qP x d s=(range (d.length+1)).flatMap (QS x d s):=by
 by_cases ho:cZ x d s;unfold qP;rw[if_pos ho];symm;rw[List.flatMap_eq_nil_iff];intro t e;rw[AI]at e;refine oY λc hc=>?_;obtain⟨p,f,rfl⟩:=Ak.1 hc;rw[AI]at f;unfold XC;rw[if_neg];intro h;exact MJ b (oU.2 ⟨by omega,by simp only;omega⟩) h ho;unfold qP;obtain⟨i,e2,j⟩:=(uO x _).1 b;have hb:qB x d=0:=JD.2 i;rw[if_neg ho,AO,Ap];congr 1;refine oZ λt e=>?_;rw[AI]at e;have hl:d[t]?=some (d.getD t []):=by rw[Aa,Ac e];rfl
 have g:=i _ (Ab hl);unfold QS Ye;rw[g,hb,List.filterMap_map];by_cases a:x.R<W (xn (d.getD t [])+s.q);rw[if_pos (.inr a)];symm;refine oY λp f=>?_;rw[AI]at f;simp only[Function.comp_apply];unfold XC;rw[if_neg];rw[oX b ho hl D9];omega;rw[if_neg (show ¬(0<((0:Nat):Int)-(if (0:Int)=13 then 1 else 0)\/x.R<W (xn (d.getD t [])+s.q)) from by rintro(q|q);exact absurd q EG;exact a q)];refine pd λp f=>?_;grind[oX,XC,ZO,gK];have hi:=MK b ho;simp only[AB,Cv,Ay];unfold QS;rw[show d.getD d.length []=([]:zT) from by rw[Aa,An (Ag _)];rfl];grind[XC,gK]
theorem pi{γ:Type}(f:α->List β)(g:β->Option γ):∀l:List α,(l.flatMap f).filterMap g=l.flatMap λa=>(f a).filterMap g
 |[]=>rfl
 |a::l=>by rw[AB,B7,pi f g l,AB]
def ML{s:Stop}(a:yx x d=0):qP x d s=(JE d).filterMap (XC x d s):=by rw[pg a];unfold JE;rw[pi];rfl
def pj(h:yx x d=0):∀t∈d,t≠[]:=λt a=>cX ((WH x t).1 (((uO x d).1 h).1 t a)).1
def JF(st:Int × Bool)(m:Int):Int × Bool:=if st.2=false\/m<st.1 then (m,true) else st
def JG(l:List Int):Int × Bool:=l.foldl JF (0,false)
def WJ(x:Inst)(d:zt)(s:Stop)(n:Nat):List Int:=(range n).filterMap λt=>bif (JG ((QS x d s t).map (·.m))).2 then some (JG ((QS x d s t).map (·.m))).1 else none
def WK(x:Inst)(d:zt)(s:Stop):List Int:=qv (WJ x d s (d.length+1))
theorem gL:∀(l:List Int) (m:Int),(l.foldl JF (m,true)).2=true
 |[],_=>rfl
 |a::l,m=>by rw[Ba];unfold JF;split;exact gL l a;exact gL l m
theorem MM:JG []=(0,false):=rfl
theorem MN(a:Int)(l:List Int):JG (a::l)=l.foldl JF (a,true):=by simp[JG,JF]
def uq(st:List Int × Int)(p:Spot):List Int × Int :=
 if (p.t:Int)≠st.2 then (st.1++[p.m],(p.t:Int)) else (st.1.set (st.1.length-1) (if p.m<st.1.getD (st.1.length-1) 0 then p.m else st.1.getD (st.1.length-1) 0),st.2)
theorem pn(t:Nat):∀(g:List Spot) (l:List Int) (m:Int),(∀p∈g,p.t=t)->g.foldl uq (l++[m],(t:Int))=(l++[((g.map (·.m)).foldl JF (m,true)).1],(t:Int))
 |[],l,m,_=>rfl
 |p::g,l,m,h=>by
  have a:=h p EA;have hs:uq (l++[m],(t:Int)) p=(l++[if p.m<m then p.m else m],(t:Int)):=by unfold uq;rw[a,if_neg EA];simp
  have hm:JF (m,true) p.m=(if p.m<m then p.m else m,true):=by unfold JF;by_cases q:p.m<m<;>simp[q]
  rw[Ba,hs,Aw,Ba,hm];exact pn t g l _ λq b=>h q (by simp[b])
def MO{g:List Spot}(b:∀p∈g,p.t=t)(l:List Int)(a:Int)(hl:a<t):
  g.foldl uq (l,a)=(l++(bif (JG (g.map (·.m))).2 then [(JG (g.map (·.m))).1] else []),if g=[] then a else (t:Int)):=by cases g<;>grind[MM,uq,pn,MN,gL]
def MP{s:Stop}:∀p∈QS x d s t,p.t=t:=by grind[QS,XC]
theorem po(x:Inst)(d:zt)(s:Stop):∀n:Nat,∃a:Int,a<n/\((range n).flatMap (QS x d s)).foldl uq ([],-1)=(WJ x d s n,a)
 |0=>⟨-1,by omega,rfl⟩
 |n+1=>by obtain⟨a,h1,h2⟩:=po x d s n;rw[AO,Ap,BI,h2];simp only[AB,Cv,Ay];rw[MO MP _ _ h1];refine⟨_,?_,by congr 1;unfold WJ;rw[AO,B7];congr 1;cases hm:(JG ((QS x d s n).map (·.m))).2<;>simp[hm]⟩;omega
def MQ{s:Stop}(b:yx x d=0):((qP x d s).foldl uq ([],-1)).1=WJ x d s (d.length+1):=by rw[pg b];obtain⟨a,-,h⟩:=po x d s (d.length+1);rw[h]
theorem pq:∀{a b:List Int},a.Perm b->a.Pairwise (·<=·)->b.Pairwise (·<=·)->a=b
 |[],b,h,_,_=>(List.nil_perm.1 h).symm
 |x::a,[],h,_,_=>absurd h.symm EA
 |x::a,y::b,h,c,hb=>by
  rw[Bs]at c hb;have d:x=y:=by
   have h1:x∈y::b:=h.subset EA;have h2:y∈x::a:=h.symm.subset EA;have f:y<=x:=by obtain e|e:=Am.1 h1;omega;exact hb.1 x e
   have g:x<=y:=by obtain e|e:=Am.1 h2;omega;exact c.1 y e
   omega
  subst d;rw[pq ((List.perm_cons x).1 h) c.2 hb.2]
def MR(x:Inst)(d:zt)(s:Stop)(t:Nat):(WJ x d s t).length<=t:=by unfold WJ;exact AF (CN _ _) EA
theorem Sim.drewN{C:Ctx}{w:World}(h:Sim C S w):∀q:Nat,Sim C S (w.drewN q)/\Step C S w C S (w.drewN q)
 |0=>by have e:w.drewN 0=w:=rfl;rw[e];exact⟨h,.refl _ _ _⟩
 |q+1=>by
  obtain⟨a,b⟩:=Sim.drewN h q;obtain⟨c,d⟩:=a.drew;have e:w.drewN (q+1)=(w.drewN q).drew:=by unfold World.drewN World.drew;simp[Nat.add_assoc]
  rw[e];exact⟨c,b.trans d⟩
def MS(zs:List Int)(c:Int)(hn:zs.length<=1048576)(hs:zs.Pairwise (·<=·)):PP 344 [L zs,I c] (.tup [I (zs.countP (·<c):Nat),B (zs.contains c)]):=by
 intro S;refine⟨qN func344 EF rfl,?_⟩;intro C w vs g hl m;obtain⟨u,v,rfl⟩:∃u v,vs=#[u,v]:=oc hl;obtain rfl:=Xs (m 1 _ v rfl rfl);have h0:Rel C S w (.lst zs.length (zs.flatMap enc)) u:=m 0 _ u rfl rfl;have a:∀(k:Int) (b:Bool),Rel C S w (.tup [I k,B b]) (.tuple #[.int .i64 k,.bool b]):=by
  intro k b;refine .tup rfl ?_;intro i p v hc hv
  match i with
  |0=>have hc:some (I k)=some p:=hc;have hv:some (Value.int .i64 k)=some v:=hv;cases hc;cases hv;exact .sc _
  |1=>have hc:some (B b)=some p:=hc;have hv:some (Value.bool b)=some v:=hv;cases hc;cases hv;exact .sc _
  |i+2=>simp at hc
 rw[cH]at h0;generalize h:zs.map I=cs at h0;generalize d:zs.length=n at h0 hn;cases h0 with
 |lst0 =>
 obtain rfl:zs=[]:=As d;refine(slices_BinarySearch_int_empty _ _ c w).mono ?_;rintro e w' ⟨rfl,rfl⟩;exact⟨_,_,_,_,rfl,⟨rfl,rfl⟩,a 0 false,g,.refl _ _ _⟩
 |lst1 g1 g2 g3 g4 t g6 x =>
 rename_i cap b o r e fz;by_cases s:zs=[];subst s;simp at d;subst d;refine(slices_BinarySearch_int_empty _ _ c w).mono ?_;rintro e w' ⟨rfl,rfl⟩;exact⟨_,_,_,_,rfl,⟨rfl,rfl⟩,a 0 false,g,.refl _ _ _⟩;subst h;have l:=t (by simpa using s);rw[length_map]at l;have f:∀j,j<zs.length->w.cell? ⟨b,o+j,none⟩=some (.int .i64 (zs.getD j 0)):=by
  intro j y;have e2:r[o+j]?=some r[o+j]:=by rw[A5]
  have z:=Xs (x j (I (zs.getD j 0)) _ (by simp[y]) e2);rw[z]at e2;simp[World.cell?,g3,e2]
 refine(slices_BinarySearch_int b o n cap zs c w D9 D9 f (hs.sublist (List.take_sublist _ _))).mono ?_;rintro e w' ⟨rfl,q,rfl⟩;obtain⟨s1,s2⟩:=g.drewN q;rw[Ad D9];exact⟨_,_,_,_,rfl,⟨rfl,rfl⟩,(a _ _).mono s2,s1,s2⟩
variable {n:Nat}
def MT(a:k<n)(W:Nat->List Spot)(E:List Spot)(i:Nat)(x:List PV)(h:((W k).map Yz)[i]?=some x):(((range n).flatMap W++E).map Yz)[((range k).flatMap W).length+i]?=some x:=by
 obtain⟨m,rfl⟩:∃m,n=k+(m+1):=⟨n-k-1,by omega⟩;rw[Ai]at h ⊢;rw[Dx,Ap,append_assoc,Ao (De _ _),AJ,CY];have hi:i<(W k).length:=by obtain e|e:=Bc i (W k).length;exact e;rw[An e]at h;cases h
 rw[Au ED];simp only[Aw,AB,BJ];rw[Au D9];exact h
def MU(W:Nat->List Spot)(k:Nat):((range (k+1)).flatMap W).length=((range k).flatMap W).length+(W k).length:=by rw[AO,Ap,length_append];simp
def MV(l:List Int)(c:Int):(qv l).contains c=l.contains c:=by rw[Dm,Cz,Cz];exact(Ci l _).mem_iff
def pt{s:Stop}(hx:x.y.length<=1048576)(h:yd x [s]≠1):qz s.c:=by have:=oQ h;unfold jx at this;simp only[Ar,decide_eq_true_eq]at this;unfold qz;omega
def pu(x:Inst)(d:zt)(s:Stop)(hx:x.y.length<=1048576)(v:DayOk d)(hf:d.flatten.length<=1048576):Jv prog 343 [.ip [I s.c,I s.q],.ip (Yy x d)] ((qP x d s).map Yz):=by
 have p:=V4 x [s] hx EA;have g:=MS (qv (d.flatten.map (·.c))) s.c (by rw[Jx,length_map];exact hf) (V2 _);rw[MV]at g;generalize ((qv (d.flatten.map (·.c))).countP (·<s.c):Nat)=cnt at g;obtain⟨r,a0⟩:∃r,r=decide (¬(qv (d.flatten.map (·.c))).Nodup):=⟨_,rfl⟩;have u:r=decide (¬(d.flatten.map (·.c)).Nodup):=by rw[a0];exact decide_eq_decide.2 (not_congr (Ci _ _).nodup_iff)
 obtain⟨th,w⟩:∃th,th=(d.flatten.map (·.c)).contains s.c:=⟨_,rfl⟩;rw[<-w]at g;have a6:Yy x d=ZP x d (qv (d.flatten.map (·.c))) r (d.map (yd x)) (qB x d) (d.map xn) (d.map (xH x)):=by rw[a0]
 rw[a6];obtain⟨on,a7⟩:∃on,on=qv (d.flatten.map (·.c)):=⟨_,rfl⟩;rw[<-a7]at g ⊢;obtain⟨y,h⟩:∃y,y=yd x [s]:=⟨_,rfl⟩;rw[<-h]at p;have a1:=v.n;refine VQ func343 EF rfl ntmps343 (congrArg Array.toList results343) EA λl V keep nx J f hY A0 b=>?_;refine aG (some []) (pures [0,1,2,3,4,5] (.alt 6 (.alt 7 Ub .stop) .stop)) n' ?_;refine zK (gc s) n' ?_;intro v0;refine EJ ?_;refine zu p ?_;refine EJ ?_;refine zu g ?_;by_cases a:yd x [s]=1\/s.c∈d.flatten.map (·.c)\/¬(d.flatten.map (·.c)).Nodup\/x.U<d.length
 .have hz:qP x d s=[]:=by unfold qP;rw[if_pos a]
  rw[hz]at hY ⊢;by_cases h1:y=1;refine ze (aF [(2,30),(5,33),(9,37)] (zq h1 zz) ?_);exact zo rfl (zj (Ya (f _ _ b) rfl (by simpa using b)));cases h2:th with
  |true =>
  refine ze (aF [(2,30),(5,33),(9,37)] (zq h1 zz) ?_);exact zo rfl (zj (Ya (f _ _ b) rfl (by simpa using b)))
  |false =>
  cases h3:r with
  |true =>
  refine ze (aF [(2,30),(5,33),(9,37)] (zq h1 zz) ?_);exact zo rfl (zj (Ya (f _ _ b) rfl (by simpa using b)))
  |false =>
  have h4:x.U<d.length:=by
   obtain e|e|e|e:=a;exact absurd (h.trans e) h1;have:th=true:=by rw[w,Cz];exact e
   rw[h2]at this;cases this;have:r=true:=by rw[u];exact decide_eq_true e
   rw[h3]at this;cases this;exact e
  refine ze (aF [(2,30),(5,33),(9,37)] (zD h1 h4 zz) ?_);exact zo rfl (zj (Ya (f _ _ b) rfl (by simpa using b)))
 have h1:¬y=1:=λe=>a (.inl (h ▸ e));have h2:th=false:=by
  cases e:th with
  |false=>rfl
  |true=>rw[w,Cz]at e;exact absurd (.inr (.inl e)) a
 have h3:r=false:=by
  cases e:r with
  |false=>rfl
  |true=>rw[u]at e;exact absurd (.inr (.inr (.inl (of_decide_eq_true e)))) a
 have h4:¬x.U<d.length:=λe=>a (.inr (.inr (.inr e)));have a2:=pt hx (s:=s) (λe=>a (.inl e));obtain⟨WW,a3⟩:∃WW:Nat->List Spot,WW=λt=>Ye x t (d.getD t []) (yd x (d.getD t [])) (qB x d) (xn (d.getD t [])) (xH x (d.getD t [])) s:=⟨_,rfl⟩;obtain⟨EE,z⟩:∃EE:List Spot,EE=if qB x d=0/\yd x [s]=0/\(d.length:Int)<x.U then [⟨d.length,0,W (yT x [s.c])⟩] else []:=⟨_,rfl⟩;have hz:qP x d s=(range d.length).flatMap WW++EE:=by unfold qP;rw[if_neg a,a3,z]
 rw[hz]at hY ⊢;subst h2 h3;refine ze (aF [(2,30),(5,33),(9,37)] (zD h1 h4 zz) ?_);refine zp rfl (zk ?_);refine ze (EJ ?_);refine zn (xC (σ:=Nat × Store) (λs'=>s'.1<=d.length/\J ((range s'.1).flatMap WW).length s'.2) (λs'=>[(0,x9 l),(1,.ip [I s.c,I s.q]),(2,.ip (ZP x d on false (d.map (yd x)) (qB x d) (d.map xn) (d.map (xH x)))),(4,.ptr nx v0 0),(5,I d.length),(6,I y),(44,I d.length),(45,I s'.1)]) (λs'=>s'.2)
  (λ_=>[.cells v0 99 [L [s]]]) (λs'=>d.length-s'.1) (zY (0,A0) [] (by simpa using b) EA rfl EA) ?_)
 rintro⟨k,A⟩ ⟨hk,hJ⟩;simp only at hk hJ ⊢;refine EJ ?_;refine ze (zA rfl (λhc=>?_) (λhc=>?_));simp at hc;have i:d[k]?=some d[k]:=Ac hc;have hg:d.getD k []=d[k]:=by rw[Aa,i];rfl
 have hb:yd x d[k]=13->0<qB x d:=by intro e;obtain q|q:=Ca (qB x d);rw[JD.1 q _ (AY hc)]at e;cases e;exact q
 have hw:=MA x d on false (d.map (yd x)) (qB x d) (d.map xn) (d.map (xH x)) k d[k] s (yd x d[k]) (xn d[k]) (xH x d[k]) (AF (oB x d) a1) a1 i (by rw[Ai,i];rfl) (by rw[Ai,i];rfl) (by rw[Ai,i];rfl) EA EA EA hb (v.t _ (AY hc)) (v.s _ (AY hc)) a2;have a8:WW k=Ye x k d[k] (yd x d[k]) (qB x d) (xn d[k]) (xH x d[k]) s:=by rw[a3];simp only[hg]
 rw[<-a8]at hw;have a4:=MU WW k;refine zk (aA (EJ ?_));refine EJ ?_;refine λj=>((oG hw keep hY _ (MT hc WW EE) hJ _).mono ?_);rintro _ _ ⟨A',rfl,m,rfl⟩;rw[length_map,<-a4]at m;refine⟨_,_,rfl,zS j ?_⟩;refine zp rfl (zk (zg ?_));exact zv (k+1,A') [] ⟨hc,m⟩ ED (by simp[zy k D9]) rfl EA;simp at hc;obtain rfl:k=d.length:=D9;refine zB ?_;by_cases he:qB x d=0/\yd x [s]=0/\(d.length:Int)<x.U;have hE:EE=[⟨d.length,0,W (yT x [s.c])⟩]:=by rw[z,if_pos he]
 obtain⟨e1,e2,e3⟩:=he;have a5:=V1 x [s] EA (by simpa using a2);have h5:y=0:=h.trans e2;have hy:(((range d.length).flatMap WW++EE).map Yz)[((range d.length).flatMap WW).length]?=some (Yz ⟨d.length,0,W (yT x [s.c])⟩):=by rw[Ai,Ao (Ag _),Bk,hE];rfl
 simp only[Aw,Bf]at a5;refine aF [(3,58),(7,62)] (zM e1 h5 e3 zz) ?_;refine zo rfl (zg ?_);refine zu a5 ?_;refine λj=>Ww rfl rfl rfl (hY _ _ _ _ hy hJ) ?_;rintro _ ⟨A',m,rfl⟩;refine⟨_,_,rfl,zS j ?_⟩;exact Ya (f _ _ m) rfl (by rw[length_map,length_append,hE];exact m);have hE:EE=[]:=by rw[z,if_neg he]
 have o:J (((range d.length).flatMap WW++EE).map Yz).length A:=by rw[hE,Ay,length_map];exact hJ
 by_cases e1:qB x d=0;by_cases e2:y=0;have e3:¬(d.length:Int)<x.U:=λe=>he ⟨e1,h ▸ e2,e⟩;refine aF [(3,58),(7,62)] (zM e1 e2 e3 zz) ?_;exact zp rfl (zk (Ya (f _ _ hJ) rfl o));refine aF [(3,58),(7,62)] (zD e1 e2 zz) ?_;exact zp rfl (zk (Ya (f _ _ hJ) rfl o));refine aF [(3,58),(7,62)] (zq e1 zz) ?_;exact zp rfl (zk (Ya (f _ _ hJ) rfl o))
def MW(id v:Nat)(cs:List PV)(d:zt):(d.flatMap enc).map (qk id v cs)=(d.flatMap enc:List PV):=EA
def MX(id v:Nat)(cs:List PV)(d:zt)(t:Nat)(p:PV):((d.flatMap enc).set t p).map (qk id v cs)=(d.flatMap enc:List PV).set t (qk id v cs p):=EA
theorem py:∀(d:zt) (t:Nat) (l:zT),(d.flatMap enc:List PV).set t (L l)=(d.set t l).flatMap enc
 |[],t,l=>rfl
 |m::d,0,l=>rfl
 |m::d,t+1,l=>by rw[AM,AB,AB,<-py d t l];rfl
def MY{m:Nat}(x y:Ob)(hm:m=nx+obs.length):((ext S nx obs).set (m+3) x).set (m+4) y=ext S nx (obs++[.dead,.dead,.dead,x,y]):=by subst hm;rw[VT 3];have:=jP (S:=S) (nx:=nx) (obs:=obs++List.replicate 3 .dead++[x]) y;grind
def MZ(d:zt)(a:d.length<=1048576)(b:∀l∈d,l.length<=1048576)(S:Store)(nx:Nat)(c:yh nx S):
  SP 328 [.agg [L d]] S (λp S'=>∃v,p=.agg [.sl (nx+3) v 1 0 d.length]/\S'=S.set (nx+3) (.cells v 99 (d.flatMap enc))):=by
 refine(gB d d.length a b EA S nx c).mono ?_;rintro _ _ ⟨v,f,ob,⟨h1,h2,-⟩,rfl,rfl⟩;obtain⟨rfl,rfl⟩:=h2 (Ag _);rw[Ah];refine⟨v,rfl,?_⟩;funext o;by_cases e:o=nx+4;subst e;rw[q11,q10 _ _ _ _ D9,c _ D9];simp_all[q10]
def Na(cs:List PV)(i:Nat)(p q:PV)(h:i<cs.length):yr (cs.set i p) i [q]=cs.set i q:=by
 unfold yr;rw[AE,if_pos h,AE,if_pos h];have hl:(cs.take i).length=i:=by rw[AA];omega
 simp_all[Cu]
def pz(id v sz k:Nat)(cs:List PV)(h:k*sz=cs.length):qk id v cs (.sl id v sz 0 k)=.lst k cs:=by simp[qk,h]
variable {i:Nat}
def gM{f:β->α->β}{b:β}{l:List α}{a:α}(h:l[i]?=some a):(l.take (i+1)).foldl f b=f ((l.take i).foldl f b) a:=by grind[List.take_succ_eq_append_getElem]
def Nb{s:Stop}{b:Spot}(h:b∈qP x d s)(hb:b.t≠d.length):∃l,d[b.t]?=some l/\0<l.length/\b.p<=l.length:=by
 obtain⟨-,-,-,-,h⟩:=al h;obtain⟨l,hl,hi,ho,-⟩|⟨rfl,-⟩:=h;refine⟨l,hl,?_,hi⟩;have a:yd x l=0\/yd x l=13:=by by_cases hf:yd x l=13;exact .inr hf;rw[if_neg hf]at ho;exact .inl (JD.1 D9 l (Ab hl))
 have c:jH x l=true:=by
  cases e:jH x l with
  |true=>rfl
  |false=>rw[gH e]at a;obtain h|h:=a<;>cases h
 exact Bt.2 (cX c);exact absurd rfl hb
def Nc{s:Stop}{b:Spot}(h:b∈qP x d s):b.t<=d.length:=by obtain⟨-,-,-,-,h⟩:=al h;obtain⟨l,hl,-⟩|⟨rfl,-⟩:=h;exact D0 (Af.1 hl).1;exact Ag _
def gN(x:Inst)(d:zt)(s:Stop)(hx:x.y.length<=1048576)(z:DayOk d)(hf:d.flatten.length<=1000000):PP 315 [.agg (zE x),.agg [L d],.agg [I s.c,I s.q]] (.tup [.agg [L (qm x d s).1],B (qm x d s).2]):=by
 have hit:=pu x d s hx z D9;have a5:=oE x d hx z D9;have k:=λh=>cV (l:=qP x d s) h;have a7:∀b∈qP x d s,b.t<=d.length:=λb hb=>Nc hb;have a0:∀b∈qP x d s,b.t≠d.length->∃l,d[b.t]?=some l/\0<l.length/\b.p<=l.length:=λb hb=>Nb hb;have w:qm x d s=bif (YA (qP x d s)).2 then (xS d (YA (qP x d s)).1 s,true) else (d,false):=rfl;have a8:=oz (Yy x d) s rfl;rw[w];clear w;generalize qP x d s=xs at *;generalize d1:Yy x d=lk at *;have a1:=z.n;have u:∀l∈d,l.length<=1000000:=λl hl=>AF (QQ hl).length_le hf;refine c9 func315 λS nx hd=>?_;intro v0 v1 v2 v3;refine EJ ?_;intro v4 v5;refine ze (aG none RS n' ?_);refine zK (a5) n' ?_;refine zK (a8) n' ?_;refine zn (Xp (xs:=xs.map Yz) (σ:=Spot × Bool) (λi st=>st=(xs.take i).foldl QR (⟨0,0,0⟩,false)) [(3,.ptr nx v0 0),(4,.ptr (nx+1) v1 0),(5,.ptr (nx+2) v2 0),(6,.ptr (nx+3) v3 0),(8,.ptr (nx+4) v4 0),(9,.ptr (nx+5) v5 0)] (λ_=>S)
  (λ(b,g)=>[.cells v0 25 (zE x),.cells v1 96 [L d],.cells v2 101 [I s.c,I s.q],.cells v3 96 [yI],.cells v4 395 [I b.t,I b.p,I b.m],.cells v5 4 [B g]]) (⟨0,0,0⟩,false)
  hit rfl (by intro x hx;obtain⟨y,_,rfl⟩:=Ak.1 hx;rfl) EG EA EA rfl EA EA ?_ ?_)
 .rintro l i ⟨b,g⟩ more y o hy;simp only at o ⊢;rw[Ai]at hy;obtain⟨p,hp,rfl⟩:=Al.1 hy;have a:=gM (f:=QR) (b:=(⟨0,0,0⟩,false)) hp;rw[<-o]at a;unfold QR at a;simp only at a;refine zg ?_;intro v6;refine zn ?_;cases g with
  |false =>
  rw[if_pos (.inl rfl)]at a;refine aF [(2,21)] zz ?_;refine zo rfl (zg ?_);simp only[xB];exact vJ (p,true) [_] a.symm rfl EB
  |true =>
  by_cases hm:p.m<b.m;rw[if_pos (.inr hm)]at a;refine aF [(2,21)] (zq hm zz) ?_;refine zo rfl (zg ?_);simp only[xB];exact vJ (p,true) [_] a.symm rfl EB;rw[if_neg (by simp[hm])]at a;refine aF [(2,21)] (zq hm zz) ?_;refine zp rfl (zk ?_);simp only[xB];exact vJ (b,true) [_] a.symm rfl EB
 rintro⟨b,g⟩ o;simp only[length_map,Ah]at o ⊢;have a9:YA xs=(b,g):=o.symm;rw[a9]at k ⊢;simp only at k ⊢;cases g with
 |false =>
 simp only[cond_false];refine EJ ?_;refine zu (Mw d a1 (λl hl=>AF (u l hl) EG)) ?_;refine aA (EJ ?_);refine zo rfl (EJ ?_);exact zj (zm hd EB (by simp[zr]))
 |true =>
 have hb:=k rfl;have d2:=a7 b hb;simp only[cond_true];by_cases a2:b.t=d.length;have a3:xS d b s=d++[[s]]:=by unfold xS;rw[if_pos a2]
 rw[a3];have a4:(d.flatMap enc:List PV).length=d.length:=qJ d;have a6:(d.flatMap enc:List PV).take d.length=d.flatMap enc:=Ad D9;have d3:((d++[[s]]).flatMap enc:List PV)=d.flatMap enc++[L [s]]:=by rw[Ap];rfl
 refine EJ ?_;refine λr=>((MZ d a1 (λl hl=>AF (u l hl) EG) _ _ xP).mono ?_).v;rintro _ _ ⟨v7,rfl,rfl⟩;refine⟨_,_,VT 3 _,xQ [] Nat.add_assoc r ?_⟩;generalize b7:(d.flatMap enc:List PV)=ds at *;refine aA (EJ ?_);refine zp rfl (EJ ?_);refine zo ED ?_;refine zC (some [nx+2]) RG (zq a4 a6) ?_;refine zK (gc s) (zq a4 a6) ?_;refine⟨by omega,?_⟩;refine yc 9 rfl ?_;refine EJ ?_;exact zj (zm hd EB (by simp[zr,a4,b7]));obtain⟨l,hl,b8,hp⟩:=a0 b hb a2;have j:b.t<d.length:=D9;have a3:xS d b s=d.set b.t (wE l b.p s):=by unfold xS;rw[if_neg a2,Aa,hl];rfl
 have c6:=u l (Ab hl);rw[a3];refine EJ ?_;refine λr=>((Mx d b.t l a1 (λl hl=>AF (u l hl) EG) hl b8 _ _ xP).mono ?_).v;rintro _ _ ⟨v7,w7,rfl,rfl⟩;refine⟨_,_,MY _ _ rfl,xQ [] Nat.add_assoc r ?_⟩;refine aA (EJ ?_);refine zp rfl (EJ ?_);refine zp ED ?_;refine aF [] j ?_;refine zC (some [nx+4,nx+2]) (pures [0,1,2,3,5,6,7,8] (.alt 4 (.alt 9 RV .stop) .stop)) j ?_;skip;refine((Ms l b.p s hp c6 EA).mono ?_).v;rintro _ _ ⟨rfl,rfl⟩;have c7:((wE l b.p s).flatMap enc:List PV).length=(l.length+1)*2:=by have e:=(am l s b.p).length_eq;rw[Y4,e];simp
 have c8:L (wE l b.p s)=.lst (l.length+1) ((wE l b.p s).flatMap enc):=by have e:=(am l s b.p).length_eq;show PV.lst _ _=_;rw[e];rfl
 rw[show l.take b.p++s::l.drop b.p=wE l b.p s from rfl];generalize d4:((wE l b.p s).flatMap enc:List PV)=cs at *;rw[yu _ D9 EA,AJ];refine⟨by simp[y8],xE j ?_⟩;refine⟨by omega,?_⟩;rw[Na _ _ _ _ (by rw[qJ];exact j)];have d0:qk (nx+10) (w7+1) cs (.sl (nx+10) (w7+1) 2 0 (l.length+1))=L (wE l b.p s):=by rw[pz _ _ _ _ _ c7.symm,c8]
 have e9:qk (nx+9) v7 ((d.set b.t (wE l b.p s)).flatMap enc) (.sl (nx+9) v7 1 0 d.length)=L (d.set b.t (wE l b.p s)):=by rw[pz _ _ _ _ _ (by rw[qJ];simp)];show _=PV.lst _ _;rw[Bv]
 have n9:qk (nx+10) (w7+1) cs (.sl (nx+9) v7 1 0 d.length)=.sl (nx+9) v7 1 0 d.length:=by simp only[qk];rw[if_neg D9]
 refine yc 10 rfl ?_;simp only[Aw,Bf,AM,AR,xD,MX,d0,py,n9];refine yc 9 rfl ?_;simp only[Aw,Bf,AM,AR,xD,e9];refine aF [] (zq e9 n9) ?_;exact zj (zm hd EB (by simp[zr]))
theorem pA(f:Nat->List α)(m:Nat):∀n,(∀t,t<n->(f t).length<=m)->((range n).flatMap f).length<=n*m
 |0,_=>by simp
 |n+1,h=>by rw[AO,Ap,length_append];have h1:=pA f m n λt a=>h t D9;have h2:=h n D9;simp only[AB,Cv,Ay];rw[Nat.add_mul,D5];omega
def Nd(h1:d.length<=1000000)(h2:d.flatten.length<=1000000):(JE d).length<=1000001*1000001:=by
 unfold JE;refine AF (pA _ 1000001 _ λt _=>?_) (Cp _ D9);rw[length_map,DI,Aa];cases a:d[t]? with
 |none=>simp
 |some l =>
 have:=(QQ (Ab a)).length_le;simp only[Option.getD_some];omega
def Nf{s:Stop}(a:yx x d=0)(h1:d.length<=1000000)(h2:d.flatten.length<=1000000):(qP x d s).length<=1000001*1000001:=by rw[ML a];exact AF (CN _ _) (Nd h1 h2)
def Ng(cs:List PV)(v:PV)(h:0<cs.length):yr cs (cs.length-1) [v]=cs.set (cs.length-1) v:=by unfold yr;rw[AE,if_pos D9];simp
theorem pB:∀(l:List Int) (k:Nat) (v:Int),(l.flatMap enc:List PV).set k (I v)=(l.set k v).flatMap enc
 |[],k,v=>rfl
 |a::l,0,v=>rfl
 |a::l,k+1,v=>by rw[AM,AB,AB,<-pB l k v];rfl
def Nh(st:List Int × Int)(p:Spot):(uq st p).1.length<=st.1.length+1:=by unfold uq;split<;>simp
def gO(st:List Int × Int):Prop:=st.2=-1\/0<st.1.length
def Ni{st:List Int × Int}(h:gO st)(p:Spot):gO (uq st p):=by unfold uq;split;exact .inr EA;rename_i e;obtain h|h:=h;exfalso;simp only[ne_eq]at e;omega;exact .inr (by simpa using h)
def Nj(x:Inst)(d:zt)(s:Stop)(hx:x.y.length<=1048576)(a9:DayOk d)(h0:yx x d=0)(h1:d.length<=1000000)(h2:d.flatten.length<=1000000):PP 342 [.agg (Yy x d),.agg [I s.c,I s.q]] (L (WK x d s)):=by
 have hit:=pu x d s hx a9 D9;have n:=MQ (s:=s) h0;have d0:=Nf (s:=s) h0 h1 h2;have a0:=MR x d s (d.length+1);have a3:=oz (Yy x d) s rfl;unfold WK;rw[<-n]at a0 ⊢;clear n;generalize qP x d s=xs at *;obtain⟨on,tw,fs,bd,ls,ws,a4⟩:∃on tw fs bd ls ws,Yy x d=ZP x d on tw fs bd ls ws:=⟨_,_,_,_,_,_,rfl⟩;rw[a4]at hit a3 ⊢;clear a4;refine c9 func342 λS nx hd=>?_;intro v0 v1;refine EJ ?_;intro v2;refine EJ ?_;intro v3;refine ze (EJ ?_);refine zu a3 ?_;refine qj 2 0 3 1 rfl rfl λv4=>?_;refine zn (Xp (xs:=xs.map Yz) (σ:=(List Int × Int) × Nat) (λi st=>st.1=(xs.take i).foldl uq ([],-1)/\gO st.1/\st.1.1.length<=i/\i<=xs.length) [(2,.ptr nx v0 0),(3,.ptr (nx+1) v1 0),(5,.ptr (nx+2) v2 0),(6,.ptr (nx+3) v3 0)] (λ_=>S)
  (λ((l,a),v4)=>[.cells v0 390 (ZP x d on tw fs bd ls ws),.cells v1 101 [I s.c,I s.q],.cells v2 26 [.sl (nx+4) v4 1 0 l.length],.cells v3 3 [I a],.cells v4 3 (l.flatMap enc)]) (([],-1),v4)
  hit rfl (by intro x hx;obtain⟨y,_,rfl⟩:=Ak.1 hx;rfl) EG EA ⟨rfl,.inl rfl,by simp,by simp⟩ rfl EA EA ?_ ?_)
 .rintro lp i ⟨⟨l,a⟩,v4⟩ more y ⟨o,a1,b7,hi⟩ hy;simp only at o a1 b7 hi ⊢;rw[Ai]at hy;obtain⟨p,hp,rfl⟩:=Al.1 hy;have h:=gM (f:=uq) (b:=([],-1)) hp;rw[<-o]at h;have k:=Ni a1 p;have w:=Nh (l,a) p;simp only at w;have d1:=(Af.1 hp).1;have g:uq (l,a) p=uq (l,a) p:=rfl;conv at g=>rhs;unfold uq
  simp only at g;have j:(l.flatMap enc:List PV).length=l.length:=jV l;have b8:(l.flatMap enc:List PV).take l.length=l.flatMap enc:=Ad D9;refine zg ?_;intro v5;refine zn ?_;refine ze (EJ ?_);by_cases u:(p.t:Int)=a;have d2:0<l.length:=by obtain e|e:=a1;simp only at e;omega;exact e
  obtain⟨m,hm⟩:∃m,l.length=m+1:=⟨l.length-1,by omega⟩;obtain⟨z,tz,z1,z2,z3,z0⟩:=zH rfl l m D9;rw[if_neg (by simp[u])]at g;have c6:l.getD (l.length-1) 0=z:=by rw[hm,Cc,Aa,z1];rfl
  rw[c6]at g;have wm:i64.wrap ((l.length:Int)-1)=(m:Int):=by rw[wr _ D9 D9];omega
  have a5:m<l.length:=D9;have a6:1<=l.length-m:=D9;have a2:=Ng (l.flatMap enc) (I (if p.m<z then p.m else z)) D9;rw[j,pB]at a2;have r:xk z p.m=if p.m<z then p.m else z:=rfl;refine zp (by simp[u]) ?_;refine zk ?_;rw[show l.length-1=m by omega]at a2;refine zC (some [nx+2,nx+(more.length+5)]) Rz (zN wm a5 a6 z0 r j) ?_;refine⟨by omega,?_⟩;simp only[xB];rw[hm,Cc]at g;rw[g]at h k;refine vJ ((l.set m (if p.m<z then p.m else z),a),v4) [_] ⟨h.symm,k,by simp;omega,by omega⟩ rfl (by simp[a2];rfl);rw[if_pos u]at g;rw[g]at h k w;have w0:i64.wrap (l.length:Int)=(l.length:Int):=wr _ D9 D9;have w2:(l.length:Int)<(l.length:Int)+1:=D9;have r:xk p.m p.m=p.m:=by unfold xk;split<;>rfl
  have c7:(l.flatMap enc++[I p.m]:List PV)[l.length]?=some (I p.m):=by rw[Ao D9,j,Bk];rfl
  have d3:(l.flatMap enc++[I p.m]:List PV).drop l.length=[I p.m]:=by rw[<-j,List.drop_left]
  have a7:yr (l.flatMap enc++[I p.m]:List PV) l.length [I p.m]=l.flatMap enc++[I p.m]:=by unfold yr;rw[<-j,List.take_left,AS EA];simp
  refine zo (by simp[u]) ?_;refine zC (some [nx+(more.length+5)]) (pures [1,2,3,5,6] (.alt 0 (.alt 4 (.alt 7 (.alt 8 (.done) .stop) .stop) .stop) .stop)) (zq j b8) ?_;refine⟨by omega,?_⟩;refine zC (some [nx+2,nx+(more.length+5)]) Rz (yp w0 w2 r c7 j) ?_;simp only[xB];refine vJ ((l++[p.m],(p.t:Int)),v4+1) [_] ⟨h.symm,k,by simp;omega,by omega⟩ rfl (by simp[a7];rfl)
 rintro⟨⟨l,a⟩,v4⟩ ⟨o,-⟩;simp only[length_map,Ah]at o ⊢;rw[<-o]at a0 ⊢;simp only at a0 ⊢;have c8:=Jx l;refine EJ ?_;refine λa8=>((cI l EA D9).mono ?_).v;rintro _ _ rfl;refine⟨_,_,yu _ D9 EA,xQ [] (show nx+4-nx=4 by omega) a8 ?_⟩;generalize qv l=c at *;rw[<-c8];refine yc 4 rfl ?_;refine EJ ?_;exact EK hd
open Go.Shelf Go.RowKit Go.Lib
def Nk{P:Program}(b o:Nat)(vs:List Value)(w:World)(cur:Array Value)(t:TypeId)(d:w.heap[b]?=some (.cells cur t (0,0)))(hl:o+vs.length<=cur.size)(h1:∀v∈vs,v.oneCell'=true):
  w.setCells b o vs=w.setRow b (cur.toList.take o++vs++cur.toList.drop (o+vs.length)).toArray:=by
 have a:=run_storeCells_cells (P:=P) b o vs 0 w (λj e=>by simp[World.cell?,d];omega) (λj _=>by simp[World.frozen?,d]) h1;have c:=run_storeCells_at (P:=P) b o t vs 0 cur w d (by simpa using hl) h1;rw[a]at c;simpa using c
def Nl(a:Array Value):(Builtin.zeroCells a 1).toList=a.toList:=by apply A8;simp[Builtin.zeroCells];intro i h1 h2;simp[Builtin.zeroCells,Dd (show i<a.size by simpa using h2)];exact getElem!_pos a i (by simpa using h2)
def Nm(w:World)(t e ty:TypeId)(a:Array Value)(d:P.underlying t=some (.slice e))(hv:∀w,(zeroValue e).run P w=.ok (.agg a) w)(h1:∀v∈a.toList,v.oneCell'=true)(b o c:Nat)(cur:Array Value)(t':TypeId)(f:w.heap[b]?=some (.cells cur t' (0,0)))(hl:o+a.size<=cur.size):
  (Builtin.clear_ #[t] ty #[.slice (some ⟨b,o,none⟩) 1 c]).run P w=.ok (.tuple #[]) (w.setRow b (cur.toList.take o++a.toList++cur.toList.drop (o+a.size)).toArray):=by
 have c:=run_storeCells_at (P:=P) b o t' a.toList 0 cur w f (by simpa using hl) h1;simp only[BJ,Array.length_toList]at c;simp[Builtin.clear_,run_underlying d,hv,Nl,c]
def Nn(b n c i:Nat)(V:List Value)(w:World)(i0:TypeInfo)(y:prog.info? 101=some i0)(z:i0.size=2)(cur:Array Value)(d:w.heap[b]?=some (.cells cur 101 (0,0)))(p:cur.size=c*2)
  (hi:i<n) (a1:n<=c) (a0:c<=9223372036854775807) (hn:n<=1048576) (hV:V.length=n*2) (q:cur.toList.take (n*2)=V) (h1:∀v∈V,v.oneCell'=true) (R1 R2:Array Value)
  (m:R1=(cur.toList.take (i*2)++V.drop ((i+1)*2)++cur.toList.drop (i*2+(V.drop ((i+1)*2)).length)).toArray) (r:R2=(R1.toList.take ((i+(n-(i+1)))*2)++([.int .i64 0,.int .i64 0]:List Value)++R1.toList.drop ((i+(n-(i+1)))*2+2)).toArray) :
  Calls prog 326 #[.slice (some ⟨b,0,none⟩) n c,.int .i64 i,.int .i64 ((i:Int)+1)] w λe w' =>
   e=.returned (.slice (some ⟨b,0,none⟩) (i+(n-(i+1))) c)/\w'=(w.drew.setRow b R1).setRow b R2:=by
 obtain⟨news,a⟩:∃news,news=V.drop ((i+1)*2):=⟨_,rfl⟩;have f:news.length=(n-(i+1))*2:=by rw[a,A7,hV];omega
 have k:∀t u,news[t]?=some u->w.drew.cell? ⟨b,(i+1)*2+t,none⟩=some u:=by intro t u g;rw[a,AL,<-q,BT]at g;split at g;rw[Array.getElem?_toList]at g;show w.cell? _=_;simp[World.cell?,d,g];cases g
 obtain⟨A,hA,s⟩:∃A:Addr,(if c=i+1 then some (⟨b,0,none⟩:Addr) else some ⟨b,(i+1)*2,none⟩)=some A/\Hid (∀t u,news[t]?=some u->w.drew.cell? (A.add t)=some u):=by
  by_cases h:c=i+1;refine⟨⟨b,0,none⟩,by simp[h],λt u g=>?_⟩;have h0:news.length=0:=by rw[f];omega
  rw[Ct.1 h0]at g;simp at g;refine⟨⟨b,(i+1)*2,none⟩,by simp[h],λt u g=>?_⟩;rw[Addr.add_lit];exact k t u g
 have s1:Hid (news.length=(n-(i+1))*2):=f;have s2:Hid (∀u∈news,u.oneCell'=true):=λu g=>h1 u (by rw[a]at g;exact By g);have s3:Hid (∀t,t<news.length->(w.drew.cell? ⟨b,0+i*2+t,none⟩).isSome=true/\w.drew.frozen? ⟨b,0+i*2+t,none⟩=false):=by intro t ht;rw[f]at ht;refine⟨?_,?_⟩;show (w.cell? _).isSome=true;simp[World.cell?,d];omega;show w.frozen? _=false;simp[World.frozen?,d]
 obtain⟨W1,o⟩:∃W1,W1=w.drew.setCells b (0+i*2) news:=⟨_,rfl⟩;have j:W1=w.drew.setRow b R1:=by rw[o,Nk (P:=prog) b (0+i*2) news w.drew cur 101 d (by rw[f,p];omega) s2,m,a,AV]
 have l:W1.heap[b]?=some (.cells R1 101 (0,0)):=by rw[j];exact setRow_heap _ _ _ _ _ _ d
 have x:R1.size=c*2:=by rw[m,<-a];simp[f];omega
 have a2:∀ty,(Builtin.clear_ #[97] ty #[.slice (some ⟨b,(i+(n-(i+1)))*2,none⟩) (n-(i+(n-(i+1)))) (c-(i+(n-(i+1))))]).run prog W1=.ok (.tuple #[]) (W1.setRow b R2):=λty=>by have:=Nm (P:=prog) W1 97 101 ty #[.int .i64 0,.int .i64 0] underlying97 zeroValue101 (by intro v hv;simp at hv;obtain rfl|rfl:=hv<;>rfl) b ((i+(n-(i+1)))*2) (c-(i+(n-(i+1)))) R1 101 l ED;rw[show n-(i+(n-(i+1)))=1 by omega,this,r];simp
 have hW:Hid (W1=w.drew.setCells b (0+i*2) news):=o;have hX:Hid (W1=w.drew.setRow b R1):=j;clear o j l m r x d q k a f h1 hV p;have a3:i<=c:=D9;have a4:i+1<=c:=D9;have a5:i<=n:=D9;have a6:i+1<=n:=D9;have a7:¬(i:Int)=(i:Int)+1:=D9;have a8:(0:Int)<=(i:Int)+1:=D9;have a9:((i:Int)+1).toNat=i+1:=D9;have b7:(i:Int)+1<=(n:Int):=D9;have b8:(i:Int)<=(i:Int)+1:=D9;have c6:¬c=i+(n-(i+1)):=D9;have c7:i+(n-(i+1))<=n:=D9;have mixed:prog.follows .mixedOrders=true:=EC
 go_enter func326,ntmps326
 go_wp2_with fail
 go_region_law_o (refine step_append_room rfl (.tmp 22) (.tmp 25) 97 rfl 101 i0 2 underlying97 y z b 0 i c (by simp[Act.eval,Act.put]) A (n-(i+1)) (c-(i+1)) news (by simp[Act.eval,Act.put]) s1.out s.out s2.out D9 s3.out ?_;rw[<-hW.out])
 go_wp2
 go_ret
 exact⟨rfl,by rw[hX.out]⟩
def No(l:List Stop)(i:Nat)(h:i<l.length):yG (l.eraseIdx i)=(yG l).take (i*2)++(yG l).drop ((i+1)*2):=by rw[C6,fT,nu l i D9,nv l (i+1) D9]
def Np{id ver:Nat}(cs:List Stop)(i:Nat)(hi:i<cs.length)(hn:cs.length<=1000000)(hid:S id=.cells ver 101 (cs.flatMap enc)):
  SP 326 [.sl id ver 2 0 cs.length,I i,I ((i:Int)+1)] S (λp S'=>p=.sl id (ver+1) 2 0 (cs.eraseIdx i).length/\S'=S.set id (.cells (ver+1) 101 ((cs.eraseIdx i).flatMap enc))):=by
 refine⟨qN func326 EF rfl,?_⟩;intro C w vs hS hl hr;obtain⟨u,v,x,rfl⟩:=nw hl;obtain rfl:=Xs (hr 1 _ v rfl rfl);obtain rfl:=Xs (hr 2 _ x rfl rfl);have hu:=hr 0 _ u rfl rfl;have a:(yG cs).length=cs.length*2:=WB cs;have o:(cs.eraseIdx i).length=i+(cs.length-(i+1)):=by rw[B4 hi];omega
 have q:=No cs i hi;have m:(yG (cs.eraseIdx i)).length=(i+(cs.length-(i+1)))*2:=by rw[WB,o]
 rw[nt]at hid ⊢;rw[o];generalize cs.eraseIdx i=es at *;obtain⟨i0,r⟩:=BZ.1 fI;have hc:=fH;simp only[Program.cellsOf,r,AU,Option.getD_some]at hc;cases hu with
 |sl h1 h2 h3 =>
 obtain⟨ad,cap,rfl,q1,q2,q3,q4⟩:=h1;have s:=(h3 ver (by rw[hid];rfl)).2 rfl;obtain⟨c6,t⟩|⟨b,k,c,g1,g2,g3,g4,g5,g6⟩:=hS.cells id ver _ _ hid;have:=congrArg List.length t;simp[a]at this;exfalso;omega;obtain⟨z1,_⟩|⟨b',k',c7,b8,z1,z2,z3,z4⟩:=s;rw[g1]at z1;cases z1;rw[g1]at z1;cases z1;cases z2;obtain⟨rfl,z⟩:=z3 rfl;rw[length_map,a]at g4;have d:∀(j:Nat) v,(yG cs)[j]?=some v->c[j]?=some v:=by intro j v hj;have c8:=(Af.1 hj).1;have e2:c[j]?=some c[j]:=A5 D9;have:=g6 j (.sc v) _ (by rw[Ai,hj];rfl) e2;rw[e2];generalize c[j]=y at this;cases this;rfl
 have f:c.toList.take (cs.length*2)=yG cs:=by apply A3;intro j;by_cases hj:j<cs.length*2;rw[AP hj,Array.getElem?_toList];have e:(yG cs)[j]?=some (yG cs)[j]:=Ac D9;rw[e,d j _ e];rw[An ED,An D9]
 have a0:c.size=cap*2:=g3.trans z.symm;have a7:((yG cs).drop ((i+1)*2)).length=(cs.length-(i+1))*2:=by rw[A7,a];omega
 obtain⟨R1,n⟩:∃R1:Array Value,R1=(c.toList.take (i*2)++(yG cs).drop ((i+1)*2)++c.toList.drop (i*2+((yG cs).drop ((i+1)*2)).length)).toArray:=⟨_,rfl⟩;obtain⟨R2,a1⟩:∃R2:Array Value,R2=(R1.toList.take ((i+(cs.length-(i+1)))*2)++([.int .i64 0,.int .i64 0]:List Value)++R1.toList.drop ((i+(cs.length-(i+1)))*2+2)).toArray:=⟨_,rfl⟩;have a8:c.toList.take (i*2)=(yG cs).take (i*2):=by rw[<-f,Dy,Bm D9]
 have a2:R1.toList.take ((i+(cs.length-(i+1)))*2)=yG es:=by rw[n];simp only[];rw[a8,<-q,<-m,List.take_left]
 have a3:R1.size=cap*2:=by rw[n];simp[a7];omega
 have g:R2.toList=yG es++(([.int .i64 0,.int .i64 0]:List Value)++R1.toList.drop ((i+(cs.length-(i+1)))*2+2)):=by rw[a1,a2];simp
 have a4:R2.size=cap*2:=by rw[<-Array.length_toList,g];simp[m,a3];omega
 refine(Nn b cs.length cap i (yG cs) w i0 r hc c g2 a0 hi q1 (by unfold maxLen at q3;omega) D9 a f (WC cs) R1 R2 n a1).mono ?_;rintro e w' ⟨rfl,rfl⟩;obtain⟨r1,r2⟩:=fU (C:=C) (S:=S) (w:=w) g (WC _);have a9:=setRow_heap w.drew b c R1 _ _ g2;obtain⟨t1,t2⟩:=hS.turn (l:=some (b,cap*2)) (ver':=ver+1) (cs':=(yG es).map .sc) hid D9 (λh=>absurd h D9) (w':=(w.drew.setRow b R1).setRow b R2)
  (by rw[g1];refine⟨⟨rfl,rfl,rfl,by simp[World.setRow],λj hj b7=>?_⟩,C4 _⟩;have a5:j≠b:=λe=>b7 (by rw[e];rfl);rw[setRow_other _ _ _ _ a5,setRow_other _ _ _ _ a5];rfl)
  (.inr ⟨b,cap*2,R2,rfl,.inr (by rw[g1];rfl),setRow_heap _ _ _ _ _ _ a9,a4,by rw[length_map,m];omega,r1,r2⟩)
 refine⟨_,_,_,_,rfl,⟨rfl,rfl⟩,?_,t1,t2⟩;refine .sl ⟨_,_,rfl,by omega,by unfold xO;omega,q3,λ_=>⟨_,_,rfl⟩⟩ ⟨h2.1,by simp only[Ctx.at];omega⟩ λv0 a6=>?_;rw[q11]at a6;cases a6;exact⟨Ag _,λ_=>.inr ⟨b,_,_,_,by simp[Ctx.at],rfl,λ_=>⟨rfl,rfl⟩,λ_=>rfl⟩⟩
def XE(c:Int)(l:List Stop):Int:=((l.filter λs=>decide (s.c=c)).map (·.q)).sum
theorem Nq(c:Int)(d:zt):oR c d=W (XE c d.flatten):=rfl
def Nr(c:Int)(l:List Stop)(s:Stop):XE c (l++[s])=XE c l+if s.c=c then s.q else 0:=by unfold XE;rw[Cd,map_append,D1];by_cases h:s.c=c<;>simp[h]
def Ns(c:Int)(l:List Stop)(s:Stop):vu c (l++[s])=vu c l++if s.c=c then [] else [s]:=by unfold vu;rw[Cd];by_cases h:s.c=c<;>simp[h]
def Nt(c:Int)(d:zt)(t:zT):wF c (d++[t])=wF c d++if (vu c t).length=0 then [] else [vu c t]:=by rw[MH];congr 1;unfold wF;rw[Aw,Bf];generalize vu c t=u;cases u<;>simp
def gP(c:Int)(t:zT):(vu c t).length<=t.length:=BO _ _
def pC(c:Int)(d:zt):(wF c d).length<=d.length:=by unfold wF;exact AF (BO _ _) EA
def Nu(d:zt)(c:Int)(a6:d.length<=1048576)(o:∀t∈d,t.length<=1048576):PP 313 [.agg [L d],I c] (.tup [.agg [L (wF c d)],I (oR c d)]):=by
 rw[Nq];refine c9 func313 λS nx hd=>?_;intro v0 v1;refine EJ ?_;intro n;refine qj 2 0 99 1 rfl rfl λv3=>?_;refine EJ ?_;refine ze (EJ ?_);refine zn (zF (λ(s:Nat × Nat)=>s.1<=d.length) (λ(k,v3)=>[(1,I c),(4,.ptr (nx+1) v1 0),(6,.ptr (nx+2) n 0),(7,I (W (XE c (d.take k).flatten))),(14,L d),(15,I d.length),(16,I k)]) (λ(k,v3)=>[.cells v0 96 [L d],.cells v1 96 [yI],.cells n 96 [.sl (nx+3) v3 1 0 (wF c (d.take k)).length],.cells v3 99 ((wF c (d.take k)).flatMap enc)]) (λs=>d.length-s.1) (0,v3) [] EA (by simp[XE]) (by simp[wF]) ?_);rintro⟨k,v3⟩ hk;simp only at hk ⊢;refine EJ ?_;refine ze (zA rfl (λhc=>?_) (λhc=>?_));simp at hc;obtain⟨t,tl,a1,a2,a3,e0⟩:=zH rfl d k hc;have p:1<=d.length-k:=D9;have r:=Ab a1;have w:=o t r;have e:=Nt c (d.take k) t;rw[<-a3]at e;have h:(d.take (k+1)).flatten=(d.take k).flatten++t:=by rw[a3,List.flatten_append];simp
 generalize (d.take k).flatten=pre at *;have a7:(wF c (d.take k)).length<=1048576:=AF (pC _ _) (by rw[AA];omega);refine zk (aA ?_);generalize a8:wF c (d.take k)=rk at *;have x:∀id v cs,(rk.flatMap enc).map (qk id v cs)=(rk.flatMap enc:List PV):=λid v cs=>MW id v cs rk;have y:(rk.flatMap enc:List PV).length=rk.length:=qJ rk;have z:(rk.flatMap enc:List PV).take rk.length=rk.flatMap enc:=Ad D9;refine aF [] (zD hc e0 p) ?_;intro v4;refine EJ ?_;refine qa 10 101 2 rfl λv5=>?_;refine ze (EJ ?_);refine zn (zF (λ(s:Nat × Nat)=>s.1<=t.length) (λ(j,v5)=>[(1,I c),(4,.ptr (nx+1) v1 0),(6,.ptr (nx+2) n 0),(7,I (W (XE c (pre++t.take j)))),(10,.sl (nx+5) v5 2 0 (vu c (t.take j)).length),(14,L d),(15,I d.length),(16,I k),(21,L t),(22,I t.length),(23,I j)]) (λ(j,v5)=>[.cells v0 96 [L d],.cells v1 96 [yI],.cells n 96 [.sl (nx+3) v3 1 0 rk.length],.cells v3 99 (rk.flatMap enc),.cells v4 99 [L t],.cells v5 101 ((vu c (t.take j)).flatMap enc)]) (λs=>t.length-s.1) (0,v5) [] EA (by simp[vu]) (by simp[vu]) ?_);rintro⟨j,v5⟩ hj;simp only at hj ⊢;refine EJ ?_;refine ze (zA rfl (λf=>?_) (λf=>?_));simp at f;obtain⟨s,ts,b1,b2,b3,b4,b5⟩:=el 2 rfl t j f;have a0:2<=t.length*2-j*2:=D9;have a:=Nr c (pre++t.take j) s;rw[append_assoc,<-b3]at a;have b:=Ns c (t.take j) s;rw[<-b3]at b;have a4:(vu c (t.take j)).length<=1048576:=AF (gP _ _) (by rw[AA];omega);generalize vu c (t.take j)=u at *;have i:(u.flatMap enc:List PV).length=u.length*2:=Y4 u;have a5:(u.flatMap enc:List PV).take (u.length*2)=u.flatMap enc:=Ad D9;refine zk (aA (aF [] (zD f b5 a0) ?_));intro v6;refine EJ ?_;refine zA rfl (λg=>?_) (λg=>?_);simp at g;rw[if_pos g]at a b;rw[Ay]at b;refine zg ?_;refine zg ?_;exact zv (j+1,v5) [_] ED ED (by simp[zy j D9,a,uk,b]) rfl (by simp[b];rfl);simp at g;rw[if_neg g]at a b;rw[Dv]at a;have l:((vu c (t.take (j+1))).flatMap enc:List PV)=u.flatMap enc++[I s.c,I s.q]:=by rw[b,Ap];rfl
 refine zi [] (zq i a5) ?_;refine⟨by omega,?_⟩;refine zg ?_;exact zv (j+1,v5+1) [_] ED ED (by simp[zy j D9,a,b]) rfl (by simp[l];rfl);simp at f;obtain rfl:j=t.length:=D9;refine zB ?_;rw[Ah];have a4:(vu c t).length<=1048576:=AF (gP _ _) w;generalize vu c t=u at *;have i:(u.flatMap enc:List PV).length=u.length*2:=Y4 u;refine yc 5 rfl ?_;simp only[Aw,Bf,AM,AR,xD,x];refine EJ ?_;refine zA rfl (λg=>?_) (λg=>?_);simp at g;rw[if_neg D9]at e;have m:((rk++[u]).flatMap enc:List PV)=rk.flatMap enc++[L u]:=by rw[Ap];rfl
 refine zi [] (zq y z) ?_;refine⟨by omega,?_⟩;refine zg ?_;exact zv (k+1,v3+1) [_,_] ED ED (by simp[zy k D9,h]) rfl (by simp[e,m];exact⟨rfl,rfl⟩);simp at g;rw[if_pos (by rw[g];rfl),Ay]at e;refine zk (zg ?_);exact zv (k+1,v3) [_,_] ED ED (by simp[zy k D9,h]) rfl (by simp[e];exact⟨rfl,rfl⟩);simp at hc;obtain rfl:k=d.length:=D9;refine zB (yc 3 rfl ?_);have g1:d.take d.length=d:=Ah;refine EJ ?_;exact zj (zm hd EB (by simp[zr,g1]))
def Nv(h:∀row∈x.J,∀d∈row,0<=d/\d<=2147483648):jk x:=by
 intro a b;unfold arc;split;omega;rw[Aa,Aa];cases c:x.J[a.toNat]? with
 |none=>simp
 |some row =>
 simp only[Option.getD_some];cases e:row[b.toNat]? with
 |none=>simp
 |some d=>exact h row (Ab c) d (Ab e)
def pD{s:Stop}(hx:x.y.length<=1048576)(b:DayOk d)(g:d.length<=1000000)(hf:d.flatten.length<=1000000):DayOk (qm x d s).1:=by
 unfold qm;cases hb:(YA (qP x d s)).2 with
 |false=>exact b
 |true =>
 have hm:=cV hb;have f:=gF hm;have hs:=pt hx (al hm).1;simp only[cond_true];have i:(xS d (YA (qP x d s)).1 s).flatten.length<=1000001:=by rw[f.length_eq,Ae];omega
 refine⟨?_,λt c=>?_,λt c a j=>?_⟩;unfold xS;split;simp;omega;simp;omega;have:=(QQ c).length_le;omega;have:=f.subset ((QQ c).subset j);rw[Am]at this;obtain rfl|h:=this;exact hs;obtain⟨u,k,e⟩:=BA.1 h;exact b.s u k a e
def YB(l:List Int):Int:=if 1<l.length then W (l.getD 1 0-l.getD 0 0) else 1099511627776
def Zp(c:Stop->List Int):List Stop->Nat->Int->Int->Int
 |[],_,place,_=>place
 |s::l,i,place,most=>if (c s).length=0 then (i:Int) else if place<0\/most<YB (c s) then Zp c l (i+1) (i:Int) (YB (c s)) else Zp c l (i+1) place most
def Qb(x:Inst)(d:zt)(l:List Stop):Int:=Zp (WK x d) l 0 (-1) 0
theorem gQ(c:Stop->List Int):∀(l:List Stop) (i:Nat) (place most:Int),(l≠[]\/0<=place)->place<i->0<=Zp c l i place most/\Zp c l i place most<(i+l.length:Nat)
 |[],i,place,most,h,a=>by obtain h|h:=h;exact absurd rfl h;simp only[Zp,Aj];omega
 |s::l,i,place,most,_,a=>by unfold Zp;split;simp only[Ae];omega;split;have:=gQ c l (i+1) i (YB (c s)) (.inr D9) D9;simp only[Ae];omega;rename_i hc;have:=gQ c l (i+1) place most (.inr D9) D9;simp only[Ae];omega
def pE{l:List Stop}(h:l≠[]):∃k:Nat,Qb x d l=k/\k<l.length:=by have:=gQ (WK x d) l 0 (-1) 0 (.inl h) D9;exact⟨(Qb x d l).toNat,by unfold Qb;omega,by unfold Qb;omega⟩
def Zq(x:Inst):Nat->zt->List Stop->zt × Bool
 |0,d,_=>(d,true)
 |n+1,d,l=>bif (qm x d (l.getD (Qb x d l).toNat default)).2 then Zq x n (qm x d (l.getD (Qb x d l).toNat default)).1 (l.eraseIdx (Qb x d l).toNat) else (d,false)
def xp(x:Inst)(l:List Stop):zt × Bool:=Zq x l.length [] l
structure RgOk (x:Inst) (d:zt) (l:List Stop):Prop where
 ok:DayOk d
 ab:yx x d=0
 len:d.flatten.length+l.length<=1000
theorem RgOk.dl{l:List Stop}(h:RgOk x d l):d.length<=1000:=by have h1:=cU d (pj h.ab);have h2:=h.len;omega
theorem RgOk.step{l:List Stop}(hx:x.y.length<=1048576)(h:RgOk x d l)(hi:i<l.length){s:Stop}(hs:(qm x d s).2=true):RgOk x (qm x d s).1 (l.eraseIdx i):=by
 have hf:=h.len;have hl:=h.dl;refine⟨pD hx h.ok D9 D9,?_,?_⟩
 .unfold qm at hs ⊢;cases hb:(YA (qP x d s)).2 with
  |false=>rw[hb]at hs;cases hs
  |true=>exact gI (cV hb)
 rw[(gG hs).length_eq,Ae,B4 hi];omega
def pF(hv:0<=x.U){l:List Stop}(hl:l.length<=1000):RgOk x [] l :=
 ⟨⟨by simp,by simp,by simp⟩,(uO x []).2 ⟨by simp,by simp,by simpa using hv⟩,by simpa using hl⟩
def Nw{c:Stop->List Int}{l:List Stop}{s:Stop}{place most:Int}(a:l.drop k=s::l.drop (k+1)):
  Zp c (l.drop k) k place most=if (c s).length=0 then (k:Int) else if place<0\/most<YB (c s) then Zp c (l.drop (k+1)) (k+1) (k:Int) (YB (c s)) else Zp c (l.drop (k+1)) (k+1) place most:=by
 rw[a];rfl
def Nx(x:Inst)(d:zt)(l:List Stop)(hx:x.y.length<=1048576)(h:RgOk x d l){id ver:Nat}(hid:S id=.cells ver 101 (l.flatMap enc)):
  SP 325 [.agg (Yy x d),.sl id ver 2 0 l.length] S (λp S'=>p=I (Qb x d l)/\S'=S):=by
 have hf:=h.len;have hl:=h.dl;have m:=λs=>Nj x d s hx h.ok h.ab D9 D9;have hu:Qb x d l=Zp (WK x d) (l.drop 0) 0 (-1) 0:=rfl;rw[hu];clear hu;obtain⟨t,u,fs,bd,ls,ws,n⟩:∃t u fs bd ls ws,Yy x d=ZP x d t u fs bd ls ws:=⟨_,_,_,_,_,_,rfl⟩;rw[n]at m ⊢;clear n;generalize a6:WK x d=cz at *;refine i' func325 λnx v=>?_;have w:id<nx:=qA v hid EA;have y:=λobs=>zL (S:=S) (obs:=obs) w;refine EJ ?_;intro v0;refine EJ ?_;refine ze (EJ ?_);refine zn (zF (λs':Nat × Int × Int=>s'.1<=l.length/\Zp cz (l.drop s'.1) s'.1 s'.2.1 s'.2.2=Zp cz (l.drop 0) 0 (-1) 0) (λ(k,place,most)=>[(2,.ptr nx v0 0),(5,I place),(6,I most),(11,.sl id ver 2 0 l.length),(12,I l.length),(13,I k)]) (λ_=>[.cells v0 390 (ZP x d t u fs bd ls ws)]) (λs'=>l.length-s'.1) (0,-1,0) [] ⟨by simp,rfl⟩ EA EA ?_);rintro⟨k,place,most⟩ ⟨hk,o⟩;simp only at hk o ⊢;rw[<-o];refine EJ ?_;refine ze (zA rfl (λhc=>?_) (λhc=>?_));simp at hc;obtain⟨s,tl,a1,a2,a3,e1,e0⟩:=el 2 rfl l k hc;have z:2<=l.length*2-k*2:=D9;have f:=Nw (c:=cz) (place:=place) (most:=most) a2;have a0:=m s;generalize a7:cz s=c at *;have wk:=zy k D9;refine zk (aA (aF [] (yp y hid e0 hc z) ?_));intro v1;refine EJ ?_;refine zu a0 ?_;by_cases h0:c.length=0;rw[if_pos h0]at f;refine ze (aF [] h0 ?_);refine zo rfl (EJ ?_);exact zj ⟨_,S,EB,⟨by simp[zr,f],rfl⟩,ye v⟩;rw[if_neg h0]at f;refine ze (EJ ?_);refine zp (by simp;exact λe=>h0 (by rw[e];rfl)) ?_;refine zk ?_;refine ze (EJ ?_);refine qg (nx:=nx) (λ_:Unit=>True) (λ_=>[(2,.ptr nx v0 0),(5,I place),(6,I most),(7,I k),(10,I (YB c)),(11,.sl id ver 2 0 l.length),(12,I l.length),(13,I k)]) (λ_=>S) (λ_=>[.cells v0 390 (ZP x d t u fs bd ls ws)]) ?_ ?_;by_cases h1:1<c.length;obtain⟨a,ta,q1,-,-,q0⟩:=zH rfl c 1 h1;obtain⟨b,tb,r1,-,-,r0⟩:=zH rfl c 0 D9;have i:YB c=W (a-b):=by unfold YB;rw[if_pos h1,Aa,Aa,q1,r1];rfl
 have g1:1<=c.length-1:=D9;have g2:0<c.length:=D9;have g3:1<=c.length:=D9;have j:(c.flatMap enc:List PV)=enc b++tb:=by simpa using r0
 have a4:(1:Int)<c.length:=D9;refine zo ED ?_;rw[j]at q0;have a5:tb=I a::ta:=by simpa using q0
 rw[a5]at j;refine zC none Rh (zN j h1 a4 g1 g2 g3) ?_;exact zY () [_] n' (by simp[i]) rfl EB;have i:YB c=1099511627776:=by unfold YB;rw[if_neg h1]
 refine zp ED ?_;exact zk (zY () [_] n' (by simp[i]) rfl EB);rintro⟨⟩ -;generalize YB c=ab at *
 by_cases r:place<0;rw[if_pos (.inl r)]at f;refine aF [(2,37)] (zq r zz) ?_;refine zo rfl (zg ?_);refine zg ?_;exact zv (k+1,(k:Int),ab) [] ⟨hc,by rw[<-f,o]⟩ ED (by simp[wk]) rfl EA;by_cases g:most<ab;rw[if_pos (.inr g)]at f;refine aF [(2,37)] (zq r g) ?_;refine zo rfl (zg ?_);refine zg ?_;exact zv (k+1,(k:Int),ab) [] ⟨hc,by rw[<-f,o]⟩ ED (by simp[wk]) rfl EA;rw[if_neg (by rintro(q|q);exact r q;exact g q)]at f;refine aF [(2,37)] (zq r g) ?_;refine zp rfl (zk (zg ?_));exact zv (k+1,place,most) [] ⟨hc,by rw[<-f,o]⟩ ED (by simp[wk]) rfl EA;simp at hc;obtain rfl:k=l.length:=D9;refine zB ?_;have a8:Zp cz (l.drop l.length) l.length place most=place:=by rw[Bh];rfl
 refine EJ ?_;exact zj ⟨_,S,EB,⟨by simp[zr];rfl,rfl⟩,ye v⟩
def Ny{l:List Stop}{s:Stop}(c:Qb x d l=k)(b:l[k]?=some s):
  Zq x l.length d l=bif (qm x d s).2 then Zq x (l.eraseIdx k).length (qm x d s).1 (l.eraseIdx k) else (d,false):=by
 have a:=(Af.1 b).1;obtain⟨n,hn⟩:∃n,l.length=n+1:=⟨l.length-1,by omega⟩;have e:(l.eraseIdx k).length=n:=by rw[B4 a];omega
 have f:l.getD k default=s:=by rw[Aa,b];rfl
 rw[hn,e,Zq,c,AN,f]
def Nz{l:List Stop}(h:RgOk x d l):d.length<=1000/\d.flatten.length<=1000/\l.length<=1000:=by have h1:=h.dl;have h2:=h.len;omega
def NA(x:Inst)(l:List Stop)(hx:x.y.length<=1048576)(hv:0<=x.U)(hl:l.length<=1000):PP 311 [.agg (zE x),L l] (.tup [.agg [L (xp x l).1],B (xp x l).2]):=by
 have hb:=pF hv hl;unfold xp;by_cases h0:0<l.length;case neg =>
  obtain rfl:l=[]:=As D9;have t:=cR [] EA;refine c9 func311 λS nx q=>?_;intro v0 v1;refine EJ ?_;intro g;refine z8 2 0 rfl rfl ?_;refine EJ ?_;refine zu t ?_;refine aA (zF (λ_:Nat=>True) (λ_=>[(2,.ptr nx v0 0),(4,.ptr (nx+1) v1 0),(6,.ptr (nx+2) g 0),(7,L ([]:List Stop))]) (λ_=>[.cells v0 25 (zE x),.cells v1 96 [yI],.cells g 96 [L ([]:zt)]]) (λk=>k) 0 [] n' EA EA ?_);rintro k -;refine ze (EJ ?_);refine zp rfl (zB (EJ ?_));exact zj (zm q EB (by simp[zr,Zq]))
 refine c9 func311 λS nx q=>?_;intro v0 v1;refine EJ ?_;intro g;refine z8 2 0 rfl rfl ?_;refine EJ ?_;refine λa=>((gA l h0 D9 _ _ Z9).mono ?_).v;rintro _ _ ⟨v3,rfl,rfl⟩;refine⟨_,_,jP _,zS a ?_⟩;refine aA (zF (λs':zt × List Stop × Nat=>Zq x s'.2.1.length s'.1 s'.2.1=Zq x l.length [] l/\RgOk x s'.1 s'.2.1) (λ(d,m,v3)=>[(2,.ptr nx v0 0),(4,.ptr (nx+1) v1 0),(6,.ptr (nx+2) g 0),(7,.sl (nx+3) v3 2 0 m.length)]) (λ(d,m,v3)=>[.cells v0 25 (zE x),.cells v1 96 [yI],.cells g 96 [L d],.cells v3 101 (m.flatMap enc)]) (λs'=>s'.2.1.length) ([],l,v3) [] ⟨rfl,hb⟩ EA EA ?_);rintro⟨d,m,v3⟩ ⟨z,b⟩;simp only at z b ⊢;rw[<-z];by_cases hm:m=[];subst hm;refine ze (EJ ?_);refine zp rfl (zB (EJ ?_));exact zj (zm q EB (by simp[zr,Zq]));have u:0<m.length:=Bt.2 hm;obtain⟨k,hu,i⟩:=pE (x:=x) (d:=d) hm;obtain⟨s,tl,a1,a2,a3,e1,e0⟩:=el 2 rfl m k i;have w:2<=m.length*2-k*2:=D9;have c:=Ny hu a1;obtain⟨b1,b2,b3⟩:=Nz b;have f:=oE x d hx b.ok D9;have j:=gN x d s hx b.ok D9;have n:=λh=>b.step hx i (s:=s) h;have e:=λ(S:Store) (id ver:Nat) h=>Nx x d m hx b (S:=S) (id:=id) (ver:=ver) h;rw[hu]at e;obtain⟨on,tw,fs,bd,ls,ws,o⟩:∃on tw fs bd ls ws,Yy x d=ZP x d on tw fs bd ls ws:=⟨_,_,_,_,_,_,rfl⟩;rw[o]at f e;clear o;have y:=oP (x:=x) (d:=d) (s:=s);generalize hi:qm x d s=r at *;obtain⟨d2,ok⟩:=r;simp only at c n y;have wk:=zy k D9;have p:(0:Int)<m.length:=D9;refine ze (aF [] p ?_);refine zo (by simp;exact u) ?_;refine zk (zn (EJ ?_));refine λa=>((f _).mono ?_).v;rintro _ _ ⟨rfl,rfl⟩;refine⟨_,_,rfl,zS a ?_⟩;refine λa=>((e _ _ _ (by rw[zZ];rfl)).mono ?_).v;rintro _ _ ⟨rfl,rfl⟩;refine⟨_,_,rfl,zS a ?_⟩;refine aG (some [nx,nx+2,nx+3]) (pures [0,1,2,3,4,5,6,7,8,9] (.alt 10 (.alt 11 (pures [12] .done) .stop) .stop)) (zD e0 i w) ?_;refine zK (j) n' ?_;intro v4;refine ze (EJ ?_);cases ok with
 |false =>
 simp only[cond_false]at c;refine zo rfl (EJ ?_);exact zj (zm q EB (by simp[zr,c]))
 |true =>
 simp only[cond_true]at c;refine zp rfl (zk ?_);have a0:=B4 i;refine zC (some [nx+4]) (pures [0,1,2,3,4] (.alt 5 (.alt 6 (pures [7] .done) .stop) .stop)) wk ?_;skip;refine((Np m k i D9 (by rw[zZ];rfl)).mono ?_).v;rintro _ _ ⟨rfl,rfl⟩;rw[yu _ D9 EA,AJ];refine⟨by simp[y8],xE n' ?_⟩;exact zv (d2,m.eraseIdx k,v3+1) [_] ⟨c.symm,n rfl⟩ (by simp only;omega) EA rfl EB
def ur(step:zt->Option zt):Nat->zt->zt
 |0,d=>d
 |n+1,d=>match step d with
  |none=>d
  |some e=>ur step n e
def YC(step:zt->Option zt):Nat->zt->Nat
 |0,_=>0
 |n+1,d=>match step d with
  |none=>0
  |some e=>YC step n e+1
def pG(x:Inst)(step:zt->Option zt)(G:zt->Prop):Prop:=∀d,G d->∃mk ma mb mi mj least,PP 293 [.agg (zE x),.agg [L d]] (.tup [.agg [I mk,I ma,I mb,I mi,I mj],I least,B (step d).isSome]) /\
 ∀e,step d=some e->PP 294 [.agg (zE x),.agg [L d],.agg [I mk,I ma,I mb,I mi,I mj]] (.tup [.agg [L e],I 0])/\G e
def pH(x:Inst)(d:zt)(b:Int)(step:zt->Option zt)(G:zt->Prop)(hb:b<=9223372036854775807)(a0:d.length<=1048576)(m:∀t∈d,t.length<=1048576)(o:0<b->G d)(hs:pG x step G):PP 264 [.agg (zE x),.agg [L d],I b] (.tup [.agg [L (ur step b.toNat d)],I (if YC step b.toNat d<b.toNat then (YC step b.toNat d:Int) else jU b 0)]):=by
 refine c9 func264 λS nx y=>?_;intro v0 v1 j;refine EJ ?_;intro v3;refine qj 3 0 99 1 rfl rfl λv4=>?_;refine ze (EJ ?_);refine zn (zF (λs':Nat × Nat=>s'.1<=d.length) (λ(k,v4)=>[(2,I b),(3,.ptr nx v0 0),(6,.ptr (nx+2) j 0),(7,I 0),(8,.ptr (nx+3) v3 0),(16,L d),(17,I d.length),(18,I k)]) (λ(k,v4)=>[.cells v0 25 (zE x),.cells v1 96 [L d],.cells j 96 [yI],.cells v3 96 [.sl (nx+4) v4 1 0 k],.cells v4 99 ((d.take k).flatMap enc)]) (λs'=>d.length-s'.1) (0,v4) [] EA EA EA ?_);rintro⟨k,v4⟩ l;simp only at l ⊢;refine EJ ?_;refine ze (zA rfl (λhc=>?_) (λhc=>?_));simp at hc;obtain⟨t,tl,a1,a2,a3,e0⟩:=zH rfl d k hc;have p:1<=d.length-k:=D9;have q:=cR t (m t (Ab a1));have f:((d.take k).flatMap enc:List PV).length=k:=by rw[qJ,AA];omega
 have g:((d.take k).flatMap enc:List PV).take k=(d.take k).flatMap enc:=Ad D9;have r:((d.take (k+1)).flatMap enc:List PV)=(d.take k).flatMap enc++[L t]:=by rw[a3,Ap];rfl
 generalize ((d.take k).flatMap enc:List PV)=cs at *;refine zk (aA (aF [] (zD e0 hc p) ?_));intro v5;refine zC (some [nx+5]) RA (zq f g) ?_;refine zK (q) (zq f g) ?_;refine⟨by omega,?_⟩;refine zg ?_;exact zv (k+1,v4+1) [_] hc ED (by simp[zy k D9]) rfl (by simp[r];rfl);simp at hc;obtain rfl:k=d.length:=D9;have g1:d.take d.length=d:=Ah;refine zB ?_;rw[g1];refine yc 4 rfl ?_;refine ze (EJ ?_);clear l hc g1;refine zn (zF (λs':Nat × zt=>s'.1<=b.toNat/\(0<b->G s'.2)/\ur step (b.toNat-s'.1) s'.2=ur step b.toNat d/\s'.1+YC step (b.toNat-s'.1) s'.2=YC step b.toNat d) (λ(k,e)=>[(2,I b),(3,.ptr nx v0 0),(6,.ptr (nx+2) j 0),(8,.ptr (nx+3) v3 0),(11,I k)]) (λ(k,e)=>[.cells v0 25 (zE x),.cells v1 96 [L d],.cells j 96 [yI],.cells v3 96 [L e]]) (λs'=>b.toNat-s'.1) (0,d) [.dead] ⟨by simp,o,by simp,by simp⟩ EA EA ?_);rintro⟨k,e⟩ ⟨l,z,hi,a⟩;simp only at l z hi a ⊢;rw[<-hi];refine ze (EJ ?_);refine zA rfl (λhc=>?_) (λhc=>?_)
 .simp at hc;obtain⟨mk,ma,mb,mi,mj,s,hB,hM⟩:=hs e (z D9);obtain⟨n,hn⟩:∃n,b.toNat-k=n+1:=⟨b.toNat-k-1,by omega⟩;refine zk (aA (EJ ?_));refine zu hB ?_;intro v5;refine ze (EJ ?_);cases c:step e with
  |none =>
  have u:ur step (b.toNat-k) e=e:=by rw[hn];unfold ur;rw[c]
  have h:YC step (b.toNat-k) e=0:=by rw[hn];unfold YC;rw[c]
  rw[h]at a;rw[u,<-a,if_pos D9];refine zo rfl (EJ ?_);exact zj (zm y EB (by simp[zr]))
  |some e2 =>
  have u:ur step (b.toNat-k) e=ur step (b.toNat-(k+1)) e2:=by rw[hn,show b.toNat-(k+1)=n by omega];conv=>lhs;unfold ur;rw[c]
  have h:YC step (b.toNat-k) e=YC step (b.toNat-(k+1)) e2+1:=by rw[hn,show b.toNat-(k+1)=n by omega];conv=>lhs;unfold YC;rw[c]
  obtain⟨v,w⟩:=hM e2 c;refine zp rfl (zk (zg ?_));refine zu v ?_;refine zg ?_;exact zv (k+1,e2) [_] ⟨by simp;omega,λ_=>w,u.symm,by simp only;omega⟩ ED (by simp[zy k D9]) rfl EB
 simp at hc;have hz:b.toNat-k=0:=D9;rw[hz]at a ⊢;have i:YC step b.toNat d=k:=by rw[<-a];rfl
 rw[i,if_neg D9];refine zB (EJ ?_);exact zj (zm y EB (by simp[zr,ur]))
structure Pc where
 t:Nat
 f:Nat
 o:Nat
 b:Bool
 deriving DecidableEq
def qh:Pc:=⟨0,0,0,false⟩
abbrev pcL(p:Pc):List PV:=[I p.t,I p.f,I p.o,B p.b]
structure Rw5 where
 a:Pc
 b:Pc
 c:Pc
 d:Pc
 e:Pc
abbrev yL(r:Rw5):List PV:=[I r.a.t,I r.a.f,I r.a.o,B r.a.b,I r.b.t,I r.b.f,I r.b.o,B r.b.b,I r.c.t,I r.c.f,I r.c.o,B r.c.b,I r.d.t,I r.d.f,I r.d.o,B r.d.b,I r.e.t,I r.e.f,I r.e.o,B r.e.b]
def Rw5.l(r:Rw5):List Pc:=[r.a,r.b,r.c,r.d,r.e]
def wQ:Rw5:=⟨qh,qh,qh,qh,qh⟩
structure Mv where
 k:Nat
 a:Nat
 b:Nat
 i:Nat
 j:Nat
 deriving DecidableEq
abbrev Yf(m:Mv):List PV:=[I m.k,I m.a,I m.b,I m.i,I m.j]
abbrev YD(m:Mv)(la lb:Nat):List PV:=[I m.k,I m.a,I m.b,I m.i,I m.j,I la,I lb]
def uP(m:Mv)(la lb:Nat):Bool :=
 if m.k=0 then decide (m.b=m.a/\m.i<m.j/\m.j<la)
 else if m.k=1 then decide (m.i<la/\(if m.a=m.b then m.j<lb else m.j<=lb))
 else if m.k=2 then decide (¬(m.b<m.a\/m.a=m.b/\m.j<=m.i)/\m.i<la/\m.j<lb)
 else decide (m.a<m.b/\m.i<=la/\m.j<=lb)
def wR(m:Mv)(la lb:Nat):Rw5 × Rw5 :=
 if m.k=0 then (⟨⟨m.a,0,m.i,false⟩,⟨m.a,m.i,m.j+1,true⟩,⟨m.a,m.j+1,la,false⟩,qh,qh⟩,wQ)
 else if m.k=1 then
  (if m.a≠m.b then (⟨⟨m.a,0,m.i,false⟩,⟨m.a,m.i+1,la,false⟩,qh,qh,qh⟩,⟨⟨m.b,0,m.j,false⟩,⟨m.a,m.i,m.i+1,false⟩,⟨m.b,m.j,lb,false⟩,qh,qh⟩)
  else if m.i<m.j then (⟨⟨m.a,0,m.i,false⟩,⟨m.a,m.i+1,m.j+1,false⟩,⟨m.a,m.i,m.i+1,false⟩,⟨m.a,m.j+1,la,false⟩,qh⟩,wQ)
  else (⟨⟨m.a,0,m.j,false⟩,⟨m.a,m.i,m.i+1,false⟩,⟨m.a,m.j,m.i,false⟩,⟨m.a,m.i+1,la,false⟩,qh⟩,wQ))
 else if m.k=2 then
  (if m.a=m.b then (⟨⟨m.a,0,m.i,false⟩,⟨m.b,m.j,m.j+1,false⟩,⟨m.a,m.i+1,m.j,false⟩,⟨m.a,m.i,m.i+1,false⟩,⟨m.a,m.j+1,la,false⟩⟩,wQ)
  else (⟨⟨m.a,0,m.i,false⟩,⟨m.b,m.j,m.j+1,false⟩,⟨m.a,m.i+1,la,false⟩,qh,qh⟩,⟨⟨m.b,0,m.j,false⟩,⟨m.a,m.i,m.i+1,false⟩,⟨m.b,m.j+1,lb,false⟩,qh,qh⟩))
 else (⟨⟨m.a,0,m.i,false⟩,⟨m.b,m.j,lb,false⟩,qh,qh,qh⟩,⟨⟨m.b,0,m.j,false⟩,⟨m.a,m.i,la,false⟩,qh,qh,qh⟩)
def NB(m:Mv)(e f:Nat)(g:m.k=0):PP 348 [.agg (YD m e f)] (B (uP m e f)):=by
 unfold uP;rw[if_pos g];refine c9 func348 λS nx d=>?_;intro v0;by_cases h1:m.b=m.a;case neg =>
  have c:¬(m.b:Int)=m.a:=D9;refine aF [(7,10),(13,16),(22,25)] (zq c zz) ?_;exact zj (zm d rfl (by simp[h1,zr]))
 have c:(m.b:Int)=m.a:=D9;by_cases h2:m.i<m.j;case neg =>
  have h:¬(m.i:Int)<m.j:=D9;refine aF [(7,10),(13,16),(22,25)] (zD c h2 zz) ?_;exact zj (zm d rfl (by simp[h2,zr]))
 by_cases h3:m.j<e;case neg =>
  refine aF [(7,10),(13,16),(22,25)] (zM c h2 h3 zz) ?_;exact zj (zm d rfl (by simp[h3,zr]))
 refine aF [(7,10),(13,16),(22,25)] (zD c h2 h3) ?_;exact zj (zm d rfl (by simp[h1,h2,h3,zr]))
def NC(m:Mv)(e c:Nat)(l:m.k=1)(n:c<=1048576):PP 350 [.agg (YD m e c)] (B (uP m e c)):=by
 unfold uP;rw[if_neg D9,if_pos l];refine c9 func350 λS nx f=>?_;intro v0;refine EJ ?_;refine ze (qg (nx:=nx) (λz:Int=>(m.j:Int)<=z<->(if m.a=m.b then m.j<c else m.j<=c)) (λz=>[(1,.ptr nx v0 0),(3,I z)]) (λ_=>S) (λ_=>[.cells v0 415 (YD m e c)]) ?_ ?_);by_cases h1:m.a=m.b;have d:(m.a:Int)=m.b:=D9;have o:i64.wrap ((c:Int)-1)=(c:Int)-1:=wr _ D9 D9;refine aF [] d ?_;refine zo rfl (zi [] o ?_);exact zY ((c:Int)-1) [] (by rw[if_pos h1];omega) EA rfl EA;have d:¬(m.a:Int)=m.b:=D9;refine aF [] d ?_;exact zp rfl (zk (zY (c:Int) [] (by rw[if_neg h1];omega) EA rfl EA));intro z h;by_cases h2:m.i<e;case neg =>
  refine aF [(4,19),(12,27),(18,33)] (zq h2 zz) ?_;exact zj (zm f rfl (by simp[h2,zr]))
 by_cases h3:(m.j:Int)<=z;case neg =>
  have g:=(not_congr h).1 h3;refine aF [(4,19),(12,27),(18,33)] (zq h2 h3) ?_;exact zj (zm f rfl (by simp[h2,g,zr]))
 have g:=h.1 h3;refine aF [(4,19),(12,27),(18,33)] (zq h2 h3) ?_;exact zj (zm f rfl (by simp[h2,g,zr]))
def ND(m:Mv)(g h:Nat)(n:m.k=2):PP 352 [.agg (YD m g h)] (B (uP m g h)):=by
 unfold uP;rw[if_neg D9,if_neg D9,if_pos n];refine c9 func352 λS nx f=>?_;intro v0;have rest:∀(P:Prop),(m.i<g->m.j<h->P)->(¬(m.i<g/\m.j<h)->P)->P:=λP a b=>by by_cases q:m.i<g/\m.j<h;exact a q.1 q.2;exact b q
 by_cases h1:m.b<m.a;refine ze (aF [(7,10),(15,18)] (zq h1 zz) ?_);refine zo rfl (EJ ?_);exact zj (zm f rfl (by simp[h1,zr]));by_cases h2:m.a=m.b
 .have d:(m.a:Int)=m.b:=D9;by_cases h3:m.j<=m.i;have l:¬m.b<m.b:=D9;refine ze (aF [(7,10),(15,18)] (zD d l h3) ?_);refine zo rfl (EJ ?_);exact zj (zm f rfl (by simp[h2,h3,zr]));have l:¬m.b<m.b:=D9;have h0:¬(m.b<m.a\/m.a=m.b/\m.j<=m.i):=D9;refine ze (aF [(7,10),(15,18)] (zD d l h3) ?_);refine zp rfl (zk ?_);by_cases c:m.i<g;case neg =>
   refine aF [(4,32),(12,40),(18,46)] (zq c zz) ?_;exact zj (zm f rfl (by simp[c,zr]))
  by_cases e:m.j<h;case neg =>
   refine aF [(4,32),(12,40),(18,46)] (zq c e) ?_;exact zj (zm f rfl (by simp[e,zr]))
  refine aF [(4,32),(12,40),(18,46)] (zq c e) ?_;exact zj (zm f rfl (by simp[h0,c,e,zr]))
 have d:¬(m.a:Int)=m.b:=D9;have h0:¬(m.b<m.a\/m.a=m.b/\m.j<=m.i):=D9;refine ze (aF [(7,10),(15,18)] (zD h1 d zz) ?_);refine zp rfl (zk ?_);by_cases c:m.i<g;case neg =>
  refine aF [(4,32),(12,40),(18,46)] (zq c zz) ?_;exact zj (zm f rfl (by simp[c,zr]))
 by_cases e:m.j<h;case neg =>
  refine aF [(4,32),(12,40),(18,46)] (zq c e) ?_;exact zj (zm f rfl (by simp[e,zr]))
 refine aF [(4,32),(12,40),(18,46)] (zq c e) ?_;exact zj (zm f rfl (by simp[h0,c,e,zr]))
def NE(m:Mv)(d e:Nat)(f:3<=m.k):PP 354 [.agg (YD m d e)] (B (uP m d e)):=by
 unfold uP;rw[if_neg D9,if_neg D9,if_neg D9];refine c9 func354 λS nx c=>?_;intro v0;by_cases h1:m.a<m.b;case neg =>
  refine aF [(7,10),(13,16),(21,24),(27,30)] (zq h1 zz) ?_;exact zj (zm c rfl (by simp[h1,zr]))
 by_cases h2:m.i<=d;case neg =>
  refine aF [(7,10),(13,16),(21,24),(27,30)] (zD h1 h2 zz) ?_;exact zj (zm c rfl (by simp[h2,zr]))
 by_cases h3:m.j<=e;case neg =>
  refine aF [(7,10),(13,16),(21,24),(27,30)] (zD h1 h2 h3) ?_;exact zj (zm c rfl (by simp[h3,zr]))
 refine aF [(7,10),(13,16),(21,24),(27,30)] (zD h1 h2 h3) ?_;exact zj (zm c rfl (by simp[h1,h2,h3,zr]))
def NF(m:Mv)(a b:Nat)(c:m.k=0)(hi:m.i<=1048576)(f:m.j<=1048576):PP 349 [.agg (YD m a b)] (.tup [.agg (yL (wR m a b).1),.agg (yL (wR m a b).2)]):=by have g:=zy m.i D9;have d:=zy m.j D9;unfold wR;rw[if_pos c];refine c9 func349 λS nx e=>?_;intro v0 v1 h;refine aG (some [nx]) Rp n' ?_;refine aF [] d ?_;exact zj (zm e EB (by simp[zr,wQ,qh]))
def NG(m:Mv)(a b:Nat)(d:3<=m.k):PP 355 [.agg (YD m a b)] (.tup [.agg (yL (wR m a b).1),.agg (yL (wR m a b).2)]):=by unfold wR;rw[if_neg D9,if_neg D9,if_neg D9];refine c9 func355 λS nx c=>?_;intro v0 v1 e;refine aG (some [nx]) R3 n' ?_;refine aG (some [nx]) Ry n' ?_;exact zj (zm c EB (by simp[zr,wQ,qh]))
def NH(m:Mv)(e f:Nat)(l:m.k=1)(hi:m.i<=1048576)(n:m.j<=1048576):PP 351 [.agg (YD m e f)] (.tup [.agg (yL (wR m e f).1),.agg (yL (wR m e f).2)]):=by
 have d:=zy m.i D9;have h:=zy m.j D9;unfold wR;rw[if_neg D9,if_pos l];refine c9 func351 λS nx g=>?_;intro v0 v1 o;refine aG (some [nx]) R3 n' ?_;refine aF [] d ?_;intro v3;refine aA ?_;by_cases h1:m.a=m.b;case neg =>
  have c:¬(m.a:Int)=m.b:=D9;rw[if_pos h1];refine aF [] c ?_;refine zo rfl (aG (some [nx,nx+3]) (pures [0,1,2,3,4,5,6,7,8,9,10,11,12,13,14,15,16,17,18,19] (.alt 20 (.alt 21 (.done) .stop) .stop)) d ?_);exact zj (zm g EB (by simp[zr,wQ,qh]))
 have c:(m.a:Int)=m.b:=D9;rw[if_neg (by simpa using h1)];refine aF [] c ?_;refine zp rfl ?_;by_cases h2:m.i<m.j;rw[if_pos h2];refine aF [] h2 ?_;refine zo rfl (aF [] (zq d h) ?_);exact zj (zm g EB (by simp[zr,wQ,qh,h1]));rw[if_neg h2];refine aF [] h2 ?_;refine zp rfl (zk (aF [] (zq d h) ?_));exact zj (zm g EB (by simp[zr,wQ,qh,h1]))
def NI(m:Mv)(d e:Nat)(l:m.k=2)(hi:m.i<=1048576)(n:m.j<=1048576):PP 353 [.agg (YD m d e)] (.tup [.agg (yL (wR m d e).1),.agg (yL (wR m d e).2)]):=by have f:=zy m.i D9;have g:=zy m.j D9;unfold wR;rw[if_neg D9,if_neg D9,if_pos l];refine c9 func353 λS nx h=>?_;intro v0 v1 o;refine aG (some [nx]) R3 n' ?_;refine aF [] (zq f g) ?_;intro v3 v4;by_cases h1:m.a=m.b;have c:(m.a:Int)=m.b:=D9;rw[if_pos h1];refine ze (aF [] c ?_);refine zo rfl (aF [] (zq f g) ?_);exact zj (zm h EB (by simp[zr,wQ,qh,h1]));have c:¬(m.a:Int)=m.b:=D9;rw[if_neg h1];refine ze (aF [] c ?_);refine zp rfl (zk (aG (some [nx,nx+3,nx+4]) (pures [0,1,2,3,4,5,6,7,8,9,10,11,12,13,14,15,16,17,18,19,20,21] (.alt 22 (.alt 23 (.done) .stop) .stop)) (zq f g) ?_));exact zj (zm h EB (by simp[zr,wQ,qh]))
abbrev da:List PV:=[.fn (.func 348) [] [],.fn (.func 349) [] [],.fn (.func 350) [] [],.fn (.func 351) [] [],.fn (.func 352) [] [],.fn (.func 353) [] [],.fn (.func 354) [] [],.fn (.func 355) [] []]
def pI:PP 331 [] (.agg da):=by refine c9 func331 λS nx a=>?_;intro v0;refine EJ ?_;exact EK a
def jy(d:zt)(t:Nat):Nat:=(d.getD t []).length
def vw(d:zt)(m:Mv):Bool:=decide (m.k<=3/\m.a<d.length/\m.b<d.length)&&uP m (jy d m.a) (jy d m.b)
def yH(d:zt)(m:Mv):Rw5 × Rw5:=wR m (jy d m.a) (jy d m.b)
def Qc(d:zt)(m:Mv):Rw5 × Rw5 × Bool:=if vw d m=true then ((yH d m).1,(yH d m).2,true) else (wQ,wQ,false)
def gR(d:zt)(m:Mv)(a6:d.length<=1048576)(w:∀t∈d,t.length<=1048576)(hk:m.k<=3)(x:m.a<d.length)(hb:m.b<d.length)(hi:m.i<=1048576)(y:m.j<=1048576):PP 318 [.agg [L d],.agg (Yf m)]
  (.tup [.agg (yL (Qc d m).1),.agg (yL (Qc d m).2.1),B (Qc d m).2.2]):=by
 obtain⟨ta,xa,a1,-,-,a0⟩:=zH rfl d m.a x;obtain⟨e,xb,b1,-,-,b0⟩:=zH rfl d m.b hb;have z:1<=d.length-m.a:=D9;have a2:1<=d.length-m.b:=D9;have la:jy d m.a=ta.length:=by unfold jy;rw[Aa,a1];rfl
 have lb:jy d m.b=e.length:=by unfold jy;rw[Aa,b1];rfl
 have a3:=w e (Ab b1);have l:vw d m=uP m ta.length e.length:=by unfold vw;rw[la,lb,decide_eq_true ⟨hk,x,hb⟩];rfl
 have n:yH d m=wR m ta.length e.length:=by unfold yH;rw[la,lb]
 unfold Qc;rw[l,n];clear l n la lb;have call:∀f g:Nat,m.k=m.k->True:=λ_ _ _=>trivial;clear call;have g1:¬(m.k:Int)<0:=D9;have g2:¬(3:Int)<m.k:=D9;have g3:¬(m.a:Int)<0:=D9;have g4:¬d.length<=m.a:=D9;have g5:¬(m.b:Int)<0:=D9;have g6:¬d.length<=m.b:=D9;refine c9 func318 λS nx hd=>?_;intro v0 v1 v2 v3;refine EJ ?_;refine ze (aF [(3,18),(8,23),(13,28),(19,34),(24,39)] (zN g1 g2 g3 g4 g5 g6) ?_);refine zp rfl (zk (aG (some [nx,nx+1]) Ry (zN a0 b0 x hb z a2) ?_));intro v4;obtain⟨mf,cf,a4,a5,s⟩:∃mf cf:Nat,Pure prog mf [.agg (YD m ta.length e.length)] (B (uP m ta.length e.length))/\Pure prog cf [.agg (YD m ta.length e.length)] (.tup [.agg (yL (wR m ta.length e.length).1),.agg (yL (wR m ta.length e.length).2)]) /\
   ∃k:Nat,(k:Int)=m.k/\k<4/\(da.drop (k*2)).take 2=[.fn (.func mf) [] [],.fn (.func cf) [] []]:=by
  have h4:m.k=0\/m.k=1\/m.k=2\/m.k=3:=D9;obtain h|h|h|h:=h4;exact⟨_,_,NB m _ _ h,NF m _ _ h hi y,0,by omega,by omega,rfl⟩;exact⟨_,_,NC m _ _ h a3,NH m _ _ h hi y,1,by omega,by omega,rfl⟩;exact⟨_,_,ND m _ _ h,NI m _ _ h hi y,2,by omega,by omega,rfl⟩;exact⟨_,_,NE m _ _ D9,NG m _ _ D9,3,by omega,by omega,rfl⟩
 obtain⟨k,a7,u,q⟩:=s;obtain rfl:k=m.k:=D9;have o:(m.k:Int)<4:=D9;have v:2<=8-m.k*2:=D9;generalize a8:uP m ta.length e.length=mz at *;generalize a9:wR m ta.length e.length=cz at *;obtain⟨r1,r2⟩:=cz;generalize r:da=kl at q;have c:=pI;rw[r]at c;have p:kl.length=8:=by rw[<-r];rfl
 clear r;refine aG (some [nx+1]) (pures [0,1,2,3] (.alt 4 (.alt 5 (.done) .stop) .stop)) (yp q u o p v) ?_;refine zK (c) (yp q u o p v) ?_;intro v5;refine ze (EJ ?_);refine zu a4 ?_;cases mz with
 |false =>
 refine zo rfl (EJ ?_);exact zj (zm hd EB (by simp[zr,wQ,qh]))
 |true =>
 refine zp rfl (zk (EJ ?_));refine zu a5 ?_;intro v6 v7;refine aG (some [nx+6,nx+7]) (pures [0,1] (.alt 2 (.alt 3 Uc .stop) .stop)) n' ?_;exact zj (zm hd EB (by simp[zr]))
def pJ(l:List Stop)(k:Nat)(s:Stop)(h:k<l.length):yr (l.flatMap enc) (k*2) [I s.c,I s.q]=(l.set k s).flatMap enc:=by unfold yr;rw[AE,if_pos h,Ap,AB,<-Js enc 2 (λ_=>rfl) l k,<-Wm enc 2 (λ_=>rfl) l (k+1)];simp[show k*2+2=(k+1)*2 by omega]
def xq(l:List Stop)(k:Nat):List Stop:=(range l.length).map λq=>if q<k\/l.length-1-q<k then l.getD (l.length-1-q) default else l.getD q default
def ZQ(l:List Stop)(k:Nat):(xq l k).length=l.length:=by simp[xq]
def WL{l:List Stop}(a:t<l.length):(xq l k)[t]?=some (if t<k\/l.length-1-t<k then l.getD (l.length-1-t) default else l.getD t default):=by unfold xq;rw[Ai,Bg a];rfl
def NJ(l:List Stop):xq l 0=l:=by apply A3;intro q;by_cases h:q<l.length;rw[WL h,if_neg D9,Aa,Ac h];rfl;rw[An (by rw[ZQ];omega),An D9]
def NK{l:List Stop}(a:l.length-1<=k+k):xq l k=l.reverse:=by apply A3;intro q;by_cases h:q<l.length;rw[WL h,List.getElem?_reverse h];by_cases h1:q<k\/l.length-1-q<k;rw[if_pos h1,Aa,Ac D9];rfl;rw[if_neg h1,Aa];have:q=l.length-1-q:=D9;rw[<-this,Ac h];rfl;rw[An (by rw[ZQ];omega),An ED]
def NL{l:List Stop}(h:k<l.length-1-k){a b:Stop}(d:(xq l k)[k]?=some a)(hb:(xq l k)[l.length-1-k]?=some b):((xq l k).set k b).set (l.length-1-k) a=xq l (k+1):=by rw[WL D9,if_neg D9]at d;rw[WL D9,if_neg D9]at hb;cases d;cases hb;apply A3;intro q;by_cases c:q<l.length;rw[WL c,BG,BG];by_cases e:l.length-1-k=q;rw[if_pos e,if_pos (by rw[Bv,ZQ];omega),if_pos D9];congr 2;omega;rw[if_neg e];by_cases e2:k=q;subst e2;rw[if_pos rfl,if_pos (by rw[ZQ];exact c),if_pos D9];rw[if_neg e2,WL c];by_cases h1:q<k\/l.length-1-q<k;rw[if_pos h1,if_pos D9];rw[if_neg h1,if_neg D9];rw[An (by rw[Bv,Bv,ZQ];omega),An (by rw[ZQ];omega)]
def db(S:Store)(i:Nat)(a b:Ob):(S.set i a).set i b=S.set i b:=by funext o;by_cases h:o=i;subst h;rw[q11,q11];rw[q10 _ _ _ _ h,q10 _ _ _ _ h,q10 _ _ _ _ h]
def NM{id ver:Nat}(pre l:List Stop)(hn:(pre++l).length<=1048576)(hid:S id=.cells ver 101 ((pre++l).flatMap enc)):
  SP 335 [.sl id ver 2 (pre.length*2) l.length] S (λ_ S'=>S'=S.set id (.cells ver 101 ((pre++l.reverse).flatMap enc))):=by
 refine i' func335 λnx w=>?_;have e:id<nx:=qA w hid EA;simp only[length_append]at hn;have w0:i64.wrap ((l.length:Int)-1)=(l.length:Int)-1:=wr _ D9 D9;refine aF [] w0 ?_;refine zn (xC (σ:=Nat) (λk=>k<=l.length) (λk=>[(0,.sl id ver 2 (pre.length*2) l.length),(2,I k),(3,I ((l.length:Int)-1-k))]) (λk=>S.set id (.cells ver 101 ((pre++xq l k).flatMap enc))) (λ_=>[]) (λk=>l.length-k) (zY 0 [] EA EA (by rw[NJ];exact WA S id _ hid) EA) ?_);rintro k hk;show PW _ _ _ _ _ _ _ (ext (S.set id (.cells ver 101 ((pre++xq l k).flatMap enc))) nx []);obtain⟨T,d⟩:∃T,T=S.set id (.cells ver 101 ((pre++xq l k).flatMap enc)):=⟨_,rfl⟩;rw[<-d];refine ze (EJ ?_);refine zA rfl (λhc=>?_) (λhc=>?_);simp at hc;have h1:k<l.length-1-k:=D9;have x1:=ZQ l k;obtain⟨a,ta,z,-,-,-,a0⟩:=el 2 rfl (pre++xq l k) (pre.length+k) (by simp[ZQ];omega);obtain⟨b,tb,b1,-,-,-,b0⟩:=el 2 rfl (pre++xq l k) (pre.length+(l.length-1-k)) (by simp[ZQ];omega);have o:=NL h1 (a:=a) (b:=b) (by rw[<-z,Ao D9,AJ]) (by rw[<-b1,Ao D9,AJ]);have p:=pJ (pre++xq l k) (pre.length+k) b (by simp[ZQ];omega);have f:=pJ ((pre++xq l k).set (pre.length+k) b) (pre.length+(l.length-1-k)) a (by simp[ZQ];omega);have q:((pre++xq l k).set (pre.length+k) b).set (pre.length+(l.length-1-k)) a=pre++xq l (k+1):=by rw[Bw _ _ D9,Bw _ _ D9,AJ,AJ,o]
 rw[q]at f;have r:(l.length:Int)-1-k=((l.length-1-k:Nat):Int):=D9;generalize l.length-1-k=j at *;generalize s:((pre++xq l k).flatMap enc:List PV)=c0 at *;generalize t:(((pre++xq l k).set (pre.length+k) b).flatMap enc:List PV)=c1 at *;have l0:c0.length=(pre.length+l.length)*2:=by rw[<-s,Y4];simp[ZQ]
 have l1:c1.length=(pre.length+l.length)*2:=by rw[<-t,Y4];simp[ZQ]
 have g:T id=.cells ver 101 c0:=by rw[d];exact q11 _ _ _
 have u:=λobs=>zL (S:=T) (obs:=obs) e;have h:=λobs=>zL (S:=T.set id (.cells ver 101 c1)) (obs:=obs) e;have v:(T.set id (.cells ver 101 c1)) id=.cells ver 101 c1:=q11 _ _ _;have m:k+1<=l.length:=D9;have q1:pre.length*2+k*2=(pre.length+k)*2:=D9;have q2:pre.length*2+j*2=(pre.length+j)*2:=D9;have q3:j<l.length:=D9;have q4:k<l.length:=D9;have q5:¬nx<=id:=D9;refine zk (aA ?_);rw[r];refine zC (some []) (pures [0,1,2,3,4,5,6,8,9,10] (.alt 7 (.alt 11 RL .stop) (.alt 11 (.alt 7 RL .stop) .stop))) (zN u g q1 q2 a0 (zq (zN b0 q3 q4 q5 l0 p) (zM v h f l1))) ?_;have x:i64.wrap ((j:Int)-1)=(l.length:Int)-1-((k+1:Nat):Int):=by rw[wr _ D9 D9];omega
 have y:=zy k D9;have n:S.set id (.cells ver 101 ((pre++xq l (k+1)).flatMap enc))=(T.set id (.cells ver 101 c1)).set id (.cells ver 101 ((pre++xq l (k+1)).flatMap enc)):=by rw[d,db,db]
 have c:((pre++xq l (k+1)).flatMap enc:List PV)=pre.flatMap enc++(xq l (k+1)).flatMap enc:=by rw[Ap]
 rw[c]at n;refine⟨?_,?_⟩;refine⟨by omega,by omega,?_⟩;refine zi [] (zq y x) ?_;exact zv (k+1) [] m D9 EA (by rw[c,d];simp only[db]) EA;refine⟨by omega,by omega,?_⟩;refine zi [] (zq y x) ?_;exact zv (k+1) [] m D9 EA (by rw[c,d];simp only[db]) EA;simp at hc;refine zB ?_;refine⟨[],T,rfl,?_,ye ?_⟩;rw[d,NK D9];rw[d];intro i hi;rw[q10 _ _ _ _ D9];exact w i hi
def jm(d:zt)(p:Pc):List Stop:=if p.f<p.o then (bif p.b then (((d.getD p.t []).drop p.f).take (p.o-p.f)).reverse else ((d.getD p.t []).drop p.f).take (p.o-p.f)) else []
def qL(d:zt)(r:Rw5):List Stop:=r.l.flatMap (jm d)
def WM(d:zt)(p:Pc):Prop:=p.f<p.o->p.t<d.length/\p.o<=jy d p.t
def ZR(d:zt)(r:Rw5):Prop:=∀p∈r.l,WM d p
def NN(d:zt):ZR d wQ:=by intro p a h;simp[Rw5.l,wQ]at a;subst a;exact absurd h EG
def de(r:Rw5)(h:k<5):∃p,r.l[k]?=some p/\((yL r).drop (k*4)).take 4=pcL p/\r.l.take (k+1)=r.l.take k++[p]:=by have a:k=0\/k=1\/k=2\/k=3\/k=4:=D9;obtain rfl|rfl|rfl|rfl|rfl:=a<;>exact⟨_,rfl,rfl,rfl⟩
def pK{p:Pc}{m:Nat}(h:∀t∈d,t.length<=m):(jm d p).length<=m:=by
 have c:(d.getD p.t []).length<=m:=by
  rw[Aa];cases a:d[p.t]? with
  |none=>simp
  |some l=>exact h l (Ab a)
 unfold jm;generalize d.getD p.t []=l at *;split;cases p.b<;>simp<;>omega;simp
def pL(d:zt)(r:Rw5)(d1:d.length<=1048576)(s:∀t∈d,t.length<=1000)(hr:ZR d r):PP 321 [.agg [L d],.agg (yL r)] (L (qL d r)):=by
 have w:=λk (h:k<5)=>de r h;have hz:qL d r=(r.l.take 5).flatMap (jm d):=by unfold qL;rw[Ad (by simp[Rw5.l])]
 rw[hz];clear hz;have x:(yL r).length=20:=rfl;have a2:(yL r).take 20=yL r:=rfl;have y:=λp=>pK (d:=d) (p:=p) s;have a3:∀k,((r.l.take k).flatMap (jm d)).length<=1000*k:=by
  intro k;induction k with
  |zero=>simp
  |succ k ih =>
  by_cases hk:k<5;obtain⟨p,-,-,e⟩:=w k hk;rw[e,Ap,length_append];have:=y p;simp only[AB,Cv,Ay];omega;rw[Ad (by simp[Rw5.l];omega)]at ih ⊢;omega
 have d2:r.l.length=5:=rfl;generalize d3:yL r=rc at *;refine c9 func321 λS nx hd=>?_;intro v0 v1;refine EJ ?_;refine ze (qa 5 101 2 rfl λj=>?_);refine aF [] (zq x a2) ?_;refine zn (zF (λs':Nat × Nat=>s'.1<=5) (λ(k,j)=>[(2,.ptr nx v0 0),(3,.ptr (nx+1) v1 0),(5,.sl (nx+2) j 2 0 ((r.l.take k).flatMap (jm d)).length),(9,.agg rc),(10,I k)]) (λ(k,j)=>[.cells v0 96 [L d],.cells v1 372 rc,.cells j 101 (((r.l.take k).flatMap (jm d)).flatMap enc)]) (λs'=>5-s'.1) (0,j) [] EA EA EA ?_);rintro⟨k,j⟩ hk;simp only at hk ⊢;by_cases z:k<5
 .obtain⟨p,a4,a5,a6⟩:=w k z;have n:(k:Int)<5:=D9;have a7:4<=20-k*4:=D9;have a8:=hr p (Ab a4);have d4:=a3 k;have i:(r.l.take (k+1)).flatMap (jm d)=(r.l.take k).flatMap (jm d)++jm d p:=by rw[a6,Ap];simp
  have c7:=y p;generalize (r.l.take k).flatMap (jm d)=out at *;have wk:=zy k D9;refine aF [] n ?_;refine ze (zo rfl (zk (aA (aF [] (yp a5 z n x a7) ?_))));intro v3;by_cases u:p.f<p.o;case neg =>
   have a:jm d p=[]:=by unfold jm;rw[if_neg u]
   have c:p.o<=p.f:=D9;refine ze (aF [] c ?_);refine zo (by simp[c]) ?_;refine zB (zg ?_);exact zv (k+1,j) [_] ED ED (by simp[wk,i,a]) rfl (by simp[i,a];rfl)
  obtain⟨ht,ho⟩:=a8 u;obtain⟨t,tt,t1,-,-,t0⟩:=zH rfl d p.t ht;have a9:1<=d.length-p.t:=D9;have a0:d.getD p.t []=t:=by rw[Aa,t1];rfl
  unfold jy at ho;rw[a0]at ho;have a:jm d p=bif p.b then ((t.drop p.f).take (p.o-p.f)).reverse else (t.drop p.f).take (p.o-p.f):=by unfold jm;rw[if_pos u,a0]
  have c:¬p.o<=p.f:=D9;have b7:((t.flatMap enc:List PV).drop (p.f*2)).take ((p.o-p.f)*2)=((t.drop p.f).take (p.o-p.f)).flatMap enc:=by rw[Wm enc 2 (λ_=>rfl) t p.f,Js enc 2 (λ_=>rfl) (t.drop p.f) (p.o-p.f)]
  have g:((t.drop p.f).take (p.o-p.f)).length=p.o-p.f:=ED;have c8:(((t.drop p.f).take (p.o-p.f)).flatMap enc:List PV).length=(p.o-p.f)*2:=by rw[Y4,g]
  generalize (t.drop p.f).take (p.o-p.f)=sg at *;have b8:(out.flatMap enc:List PV).length=out.length*2:=Y4 out;have c6:(out.flatMap enc:List PV).take (out.length*2)=out.flatMap enc:=Ad D9;have q1:p.f<=p.o:=D9;have d5:=s t (Ab t1);refine ze (aF [] c ?_);refine zp (by simp[c]) ?_;refine zk (EJ ?_);refine aG (some [nx,nx+3]) (pures [0,1,2,3,4,5,6,7,8,9,10,11,12] (.alt 13 U3 .stop)) (zN t0 ht a9 b8 c6 (zM b7 g q1 ho)) ?_;refine⟨by omega,?_⟩;have d0:sg.length<=1000:=by have h1:=s t (Ab t1);omega
  cases m:p.b with
  |false =>
  rw[m]at a;simp only[cond_false]at a;refine aF [] m ?_;refine zp rfl (zk (zg ?_));exact zv (k+1,j+1) [_] ED ED (by simp[wk,i,a,g]) rfl (by simp[i,a];rfl)
  |true =>
  rw[m]at a;simp only[cond_true]at a;have q:=λ(S:Store) (id ver:Nat) h=>NM (S:=S) (id:=id) (ver:=ver) out sg ED h;rw[g]at q;refine aF [] m ?_;refine zo rfl (zg ?_);refine λa1=>((q _ _ _ (by rw[zZ,Ap];rfl)).mono ?_).v;rintro _ _ rfl;refine⟨_,_,yu _ D9 EA,xQ [] (show nx+2-nx=2 by omega) a1 ?_⟩;refine zg ?_;exact zv (k+1,j+1) [_] ED ED (by simp[wk,i,a,g]) rfl (by simp[i,a];rfl)
 obtain rfl:k=5:=D9;generalize (r.l.take 5).flatMap (jm d)=out at *;refine EJ ?_;refine ze (zp rfl (zB (yc 2 rfl ?_)));refine EJ ?_;exact zj (zm hd EB (by simp[zr]))
variable {j:Nat}
theorem pM{d:List α}(hn:d.Nodup){t:α}(hi:d[i]?=some t)(a:d[j]?=some t):i=j:=by grind[List.pairwise_iff_getElem]
def wG(f:zT->Bool):zt->Int
 |[]=>-1
 |t::d=>if 0<=wG f d then wG f d+1 else if f t then 0 else -1
theorem pN(f:zT->Bool):∀d:zt,(wG f d=-1/\∀t∈d,f t=false)\/∃(k:Nat) (t:zT),d[k]?=some t/\f t=true/\wG f d=k
 |[]=>.inl ⟨rfl,λt h=>by cases h⟩
 |u::d=>by
  unfold wG;obtain⟨h1,h2⟩|⟨k,t,h1,h2,h3⟩:=pN f d
  .rw[h1,if_neg D9];cases a:f u with
   |true=>exact .inr ⟨0,u,rfl,a,by simp⟩
   |false =>
   simp_all
  rw[h3,if_pos D9];exact .inr ⟨k+1,t,by simpa using h1,h2,by simp⟩
def gS(d:zt)(a b:Nat)(t:zT)(k:Nat):zt:=(range k).flatMap λj=>if j=a then [t] else if j=b then [] else [d.getD j []]
def QT(c:Int)(t:zT):Bool:=decide (Jz t=some c)
def QU(c:Int)(t:zT):Bool:=decide (Xx t=some c)
def QV(x:Inst)(d:zt)(p:Pr):zt :=
 if wG (QT p.a) d<0\/wG (QU p.b) d<0\/wG (QT p.a) d=wG (QU p.b) d\/(p.s<=0/\(d.length:Int)<=x.U) then d
 else if yd x (d.getD (wG (QT p.a) d).toNat []++d.getD (wG (QU p.b) d).toNat [])=0 then
  gS d (wG (QT p.a) d).toNat (wG (QU p.b) d).toNat (d.getD (wG (QT p.a) d).toNat []++d.getD (wG (QU p.b) d).toNat []) d.length
 else d
theorem gT{γ:Type}{f:α->List γ}{g:β->List γ}:∀(A:List α) (B:List β),A.length=B.length->(∀(j:Nat) a b,A[j]?=some a->B[j]?=some b->f a=g b)->A.flatMap f=B.flatMap g
 |[],[],_,_=>rfl
 |a::A,b::B,hl,h=>by rw[AB,AB,h 0 a b rfl rfl,gT A B (by simpa using hl) λj a b c hb=>h (j+1) a b (by simpa using c) (by simpa using hb)]
 |[],_::_,hl,_=>by simp at hl
 |_::_,[],hl,_=>by simp at hl
theorem gU(p:α->Bool):∀l:List α,l.filter p=l.flatMap λa=>if p a then [a] else []
 |[]=>rfl
 |a::l=>by rw[AB,<-gU p l,Ck];cases p a<;>simp
structure Apt (T:zt):Prop where
 u:∀(i j:Nat) t s s',T[i]?=some t->s∈t->∀t',T[j]?=some t'->s'∈t'->s.c=s'.c->i=j
variable {ss:List Stop}
theorem JI.apt{T:zt}{g:Int->Option Int}(h:JI ss T g):Apt T:=⟨λi j t s s' hi hs t' b a e=>by have c:=h.g i t s hi hs;have e2:=h.g j t' s' b a;grind⟩
abbrev ne(t:zT):Bool:=!t.isEmpty
def an{t:zT}(h:ne t=true):∃s,s∈t:=by cases t<;>simp_all
def pO{t:zT}{s:Stop}(h:s∈t):ne t=true:=EH
def WN(ta tb u:zT):zt:=if u=ta then [ta++tb] else if u=tb then [] else [u]
variable {ta:zT}
def NO{T:zt}(g:Apt T){a:zT}(hi:T[i]?=some ta)(h:T[k]?=some a)(l:i≠k)(n:ne ta=true)(hb:ne a=true):
  ((T.set i (ta++a)).set k []).filter ne=(T.filter ne).flatMap (WN ta a):=by
 rw[gU ne T,List.flatMap_assoc,gU];refine gT _ _ EA λj u v c hv=>?_;obtain⟨q,o⟩:=an n;obtain⟨m,d⟩:=an hb;have e:=(Af.1 hv).1;by_cases h1:k=j;subst h1;rw[A4 (by simpa using e)]at c;cases c;obtain rfl:a=v:=by rw[h]at hv;exact inj hv
 have p:a≠ta:=by rintro rfl;exact l (g.u i k a m m hi d a h d rfl)
 simp_all[WN];rw[A6 h1]at c;by_cases h2:i=j;subst h2;rw[A4 e]at c;cases c;obtain rfl:ta=v:=by rw[hi]at hv;exact inj hv
 simp_all[WN];rw[A6 h2]at c;obtain rfl:u=v:=EI;cases hn:ne u with
 |false=>simp
 |true =>
 obtain⟨f,b⟩:=an hn;have n1:u≠ta:=by rintro rfl;exact h2 (g.u i j u f f hi b u hv b rfl)
 have r:u≠a:=by rintro rfl;exact h1 (g.u k j u f f h b u hv b rfl)
 simp_all[WN]
def NP{T:zt}(a:Apt T):(T.filter ne).Nodup:=by rw[List.nodup_iff_pairwise_ne,List.pairwise_filter,BH];intro i j hi b c h1 h2 e;obtain⟨s,hs⟩:=an h1;have:=a.u i j T[i] s s (Ac hi) hs T[j] (Ac b) (e ▸ hs) rfl;omega
def NQ(hn:d.Nodup){a b:Nat}{c:zT}(e:d[a]?=some ta)(hb:d[b]?=some c):gS d a b (ta++c) d.length=d.flatMap (WN ta c):=by unfold gS;refine gT _ _ EA λj n u f g=>?_;grind[pM,WN]
def pQ{T:zt}(h:Apt T){t:zT}{s:Stop}(hi:T[i]?=some t)(hs:s∈t)(f:zT->Bool)(hf:∀u,f u=true->∃s'∈u,s'.c=s.c):
  (f t=false/\wG f (T.filter ne)=-1)\/(f t=true/\∃k:Nat,(T.filter ne)[k]?=some t/\wG f (T.filter ne)=k):=by
 have g:∀u∈T.filter ne,f u=true->u=t:=by intro u l a;obtain⟨s',b,e⟩:=hf u a;obtain⟨j,d⟩:=Bp.1 (Bu.1 l).1;have:=h.u i j t s s' hi hs u d b e.symm;subst this;rw[hi]at d;exact(inj d).symm
 grind[pN]
def NR{c:Int}{t:zT}(h:QT c t=true):∃s∈t,s.c=c:=by have h:Jz t=some c:=of_decide_eq_true h;grind[Jz]
def NS{c:Int}{t:zT}(h:QU c t=true):∃s∈t,s.c=c:=by have h:Xx t=some c:=of_decide_eq_true h;grind[Xx]
theorem gV(p:zT->Bool):∀T:zt,((T.filter p).length:Int)=(T.map λt=>if p t then (1:Int) else 0).sum
 |[]=>rfl
 |t::T=>by rw[Ck,Aw,BE,<-gV p T];grind
def NT{T:zt}{a:zT}(hi:T[i]?=some ta)(c:T[k]?=some a)(b:i≠k)(d:ne ta=true)(hb:ne a=true):
  ((((T.set i (ta++a)).set k []).filter ne).length:Int)=((T.filter ne).length:Int)-1:=by
 obtain⟨f,e⟩:=an d;rw[gV,gV,gJ _ _ k a [] (by rw[A6 b];exact c),gJ _ _ i ta (ta++a) hi];simp_all
def NU{st:zt × Int}{g:Int->Option Int}(h:JI ss st.1 g)(o:st.2=((st.1.filter ne).length:Int)){p:Pr}(a5:p.a∈ss.map (·.c))(a6:p.b∈ss.map (·.c)):
  QV x (st.1.filter ne) p=(j6 x st p).1.filter ne/\(j6 x st p).2=(((j6 x st p).1.filter ne).length:Int)/\∃g',JI ss (j6 x st p).1 g':=by
 obtain⟨i,a,sa,j,n,w,b8,a7⟩:=h.there a5;obtain⟨k,b,sb,d,y,z,c6,a8⟩:=h.there a6;have a9:st.1.getD i []=a:=by rw[Aa,j];rfl
 have b7:st.1.getD k []=b:=by rw[Aa,d];rfl
 have a0:j6 x st p=bif jl x st.2 p i k a b then ((st.1.set i (a++b)).set k [],st.2-1) else st:=by unfold j6 V8;simp only[a7,a8,a9,b7]
 have hA:=h.apt;have a1:=pO n;have a2:=pO y;have a3:=NP hA;rw[a0];have m:jl x st.2 p i k a b=false->QV x (st.1.filter ne) p=st.1.filter ne->QV x (st.1.filter ne) p=(bif jl x st.2 p i k a b then ((st.1.set i (a++b)).set k [],st.2-1) else st).1.filter ne/\(bif jl x st.2 p i k a b then ((st.1.set i (a++b)).set k [],st.2-1) else st).2=(((bif jl x st.2 p i k a b then ((st.1.set i (a++b)).set k [],st.2-1) else st).1.filter ne).length:Int)/\∃g',JI ss (bif jl x st.2 p i k a b then ((st.1.set i (a++b)).set k [],st.2-1) else st).1 g':=by intro t e2;rw[t];exact⟨e2,o,g,h⟩
 rcases pQ hA j n (QT p.a) (λu hu=>by rw[w];exact NR hu) with ⟨fa,la⟩|⟨fa,ka,ha1,la⟩
 have t:Jz a≠some p.a:=of_decide_eq_false fa;refine m (by simp[jl,t]) ?_;unfold QV;rw[if_pos (.inl D9)];rcases pQ hA d y (QU p.b) (λu hu=>by rw[z];exact NS hu) with ⟨fb,lb⟩|⟨fb,kb,hb1,lb⟩
 have t:Xx b≠some p.b:=of_decide_eq_false fb;refine m (by simp[jl,t]) ?_;unfold QV;rw[if_pos (.inr (.inl D9))];have t:Jz a=some p.a:=of_decide_eq_true fa;have e2:Xx b=some p.b:=of_decide_eq_true fb;have a4:ka=kb<->i=k:=by
  constructor;rintro rfl;obtain rfl:a=b:=by rw[ha1]at hb1;exact inj hb1
  exact hA.u i k a sa sa j n a d n rfl;rintro rfl;obtain rfl:a=b:=by rw[j]at d;exact inj d
  exact pM a3 ha1 hb1
 have ga:(st.1.filter ne).getD (ka:Int).toNat []=a:=by rw[AN,Aa,ha1];rfl
 have gb:(st.1.filter ne).getD (kb:Int).toNat []=b:=by rw[AN,Aa,hb1];rfl
 by_cases l:i=k;refine m (by simp[jl,l]) ?_;unfold QV;rw[if_pos (.inr (.inr (.inl (by rw[la,lb,a4.2 l]))))];by_cases f:p.s<=0/\st.2<=x.U;refine m (by simp[jl,f.1,f.2]) ?_;unfold QV;rw[if_pos (.inr (.inr (.inr ⟨f.1,by omega⟩)))];have v:¬(wG (QT p.a) (st.1.filter ne)<0\/wG (QU p.b) (st.1.filter ne)<0\/wG (QT p.a) (st.1.filter ne)=wG (QU p.b) (st.1.filter ne)\/(p.s<=0/\((st.1.filter ne).length:Int)<=x.U)):=by rw[la,lb];rintro(q|q|q|q);omega;omega;exact l (a4.1 D9);exact f ⟨q.1,by omega⟩
 by_cases r:yd x (a++b)=0;have hc:jl x st.2 p i k a b=true:=by unfold jl;simp only[l,t,e2,r,Ar,decide_eq_true_eq,ne_eq,not_false_eq_true,Cq,Db,decide_eq_false_iff_not,and_true,true_and];by_cases q:p.s<=0;exact .inr λe=>f ⟨q,e⟩;exact .inl q
 rw[hc];simp only[cond_true];refine⟨?_,?_,_,h.join j d l⟩;unfold QV;rw[if_neg v,la,lb,ga,gb,if_pos r,NO hA j d l a1 a2,<-NQ a3 ha1 hb1];rfl;rw[NT j d l a1 a2,o];simp_all[jl,QV]
def NV(ss:List Stop):(ss.map λs=>[s]).filter ne=jI ss:=by simp[jI]
def pR(l:List Stop):(jI l).length=l.length:=by simp[jI]
def NW{x:Inst}{T:zt}{g:Int->Option Int}(h:JI ss T g)(c:ss.length<=1000):(T.filter ne).length<=1000/\(T.filter ne).flatten.length<=1000/\∀t∈T.filter ne,t≠[]:=by
 have hf:(T.filter ne).flatten=T.flatten:=by
  induction T with
  |nil=>rfl
  |cons t T b =>
  clear h;have key:∀T:zt,(T.filter ne).flatten=T.flatten:=by
   intro T;induction T with
   |nil=>rfl
   |cons t T b =>
   rw[Ck];cases t with
   |nil=>simpa using b
   |cons s t=>simp[b]
  exact key _
 have a:∀t∈T.filter ne,t≠[]:=λt d e=>by have:=(Bu.1 d).2;rw[e]at this;cases this
 have hl:=h.perm.length_eq;have h1:=cU (T.filter ne) a;rw[hf]at h1;exact⟨by omega,by rw[hf];omega,a⟩
structure SOk (x:Inst) (l:List Stop):Prop where
 y:x.y.length<=1048576
 aj:jk x
 U:0<=x.U
 len:l.length<=1000
 sm:∀s∈l,qz s.c
 nd:(l.map (·.c)).Nodup
def JH(x:Inst)(l:List Stop):List zt:=[uo x l,jI l]++(bif (xp x l).2 then [(xp x l).1] else [])
def Qd(x:Inst)(imp:zt->zt)(l:List Stop):List zt:=[jI l,imp (uo x l),imp (jI l)]++(bif (xp x l).2 then [imp (xp x l).1] else [])
theorem pS(hx:x.y.length<=1048576):∀(n:Nat) (d:zt) (l:List Stop),l.length=n->RgOk x d l->RgOk x (Zq x n d l).1 []/\((Zq x n d l).2=true->(Zq x n d l).1.flatten.Perm (d.flatten++l))
 |0,d,l,hl,h=>by simp_all[Zq]
 |n+1,d,l,hl,h=>by
  have a:l≠[]:=λe=>by simp_all
  obtain⟨k,c,b⟩:=pE (x:=x) (d:=d) a;have f:l.getD k default=l[k]:=by rw[Aa,Ac b];rfl
  unfold Zq;rw[c,AN,f];cases hi:(qm x d l[k]).2 with
  |false =>
  refine⟨⟨h.ok,h.ab,?_⟩,λe=>by cases e⟩;have:=h.len;grind
  |true =>
  simp only[cond_true];obtain⟨h1,h2⟩:=pS hx n (qm x d l[k]).1 (l.eraseIdx k) (by rw[B4 b];omega) (h.step hx b hi);refine⟨h1,λe=>(h2 e).trans ?_⟩;have g:=gG hi;refine(g.append_right _).trans ?_;grind[List.eraseIdx_eq_take_drop_succ,List.drop_eq_getElem_cons,take_append_drop]
section
variable {x:Inst} {l:List Stop} (h:SOk x l)
include h
def SOk.apart:DayOk (jI l)/\(jI l).flatten=l/\(jI l).length<=1000:=by
 have hf:(jI l).flatten=l:=by
  unfold jI;clear h;induction l with
  |nil=>rfl
  |cons s l d=>simpa using d
 refine⟨⟨?_,λt b=>?_,λt b a c=>?_⟩,hf,?_⟩;rw[pR];have:=h.len;omega;obtain⟨s,_,rfl⟩:=Ak.1 b;simp;obtain⟨s,hs,rfl⟩:=Ak.1 b;simp at c;subst c;exact h.sm _ hs;rw[pR];exact h.len
def SOk.join:DayOk (uo x l)/\(uo x l).flatten.Perm l/\(uo x l).length<=1000/\∀t∈uo x l,t≠[]:=by
 obtain⟨g,i⟩:=JI.begin l [] [] _ JI.nil (by simpa using h.nd);have key:∀(ps:List Pr) (st:zt × Int),(∃g,JI l st.1 g)->st.2=((st.1.filter ne).length:Int)->(∀p∈ps,p.a∈l.map (·.c)/\p.b∈l.map (·.c))->∃g,JI l (ps.foldl (j6 x) st).1 g:=by
  intro ps;induction ps with
  |nil=>simp_all
  |cons p ps m =>
  rintro st ⟨g,i⟩ hn d;obtain⟨h1,h2⟩:=d p EA;obtain⟨w,e2,r⟩:=NU (x:=x) i hn h1 h2;rw[Ba];exact m _ r e2 λq u=>d q (by simp[u])
 obtain⟨g',e⟩:=key (jW x (l.map (·.c))) (l.map λs=>[s],(l.length:Int)) ⟨g,by simpa using i⟩ (by simp[NV,jI]) λp d=>by grind[cM,Xw]
 have f:uo x l=((jW x (l.map (·.c))).foldl (j6 x) (l.map λs=>[s],(l.length:Int))).1.filter ne:=rfl;obtain⟨n,w2,o⟩:=NW (x:=x) e h.len;have j:∀T:zt,(T.filter ne).flatten=T.flatten:=by
  intro T;induction T with
  |nil=>rfl
  |cons t T m =>
  grind
 have d:(uo x l).flatten.Perm l:=by rw[f,j];exact e.perm
 rw[<-f]at n w2 o;refine⟨⟨by omega,λt k=>?_,λt k a v=>?_⟩,d,n,o⟩;have:=(QQ k).length_le;omega;exact h.sm a (d.subset ((QQ k).subset v))
def SOk.regret:RgOk x (xp x l).1 []/\((xp x l).2=true->(xp x l).1.flatten.Perm l):=by have:=pS h.y l.length [] l rfl (pF h.U h.len);simp_all[xp]
end
def pT(x:Inst)(b:Int)(imp:zt->zt)(ds:List zt):Prop:=∀d∈ds,(∃n,PP 264 [.agg (zE x),.agg [L d],I b] (.tup [.agg [L (imp d)],I n]))/\DayOk (imp d)/\(imp d).flatten.length<=1048576
def NX(x:Inst)(l:List Stop)(b:Int)(a:zt->zt)(h:SOk x l)(hI:vK x l=0->pT x b a (JH x l)):
  PP 261 [.agg (zE x),L l,I b] (.tup [.agg [L (uM x (vK x l) (Qd x a l)).1],I (uM x (vK x l) (Qd x a l)).2]):=by
 have o:=Kd x l h.y (by have:=h.len;omega);by_cases j:vK x l=0;case neg=>exact ow x (L l) b _ _ (Xz l) h.y o (λe=>absurd e j) λe=>absurd e j
 have hI:=hI j;have p:=Kc l (by have:=h.len;omega);have r:=Mi x l h.aj h.y h.len h.sm h.nd;have i:=NA x l h.y h.U h.len;obtain⟨⟨n1,i1⟩,t,u⟩:=hI (uo x l) (by simp[JH]);obtain⟨⟨v,i2⟩,w,y⟩:=hI (jI l) (by simp[JH]);obtain⟨z,a2,a3⟩:=h.apart;have h3:(xp x l).2=true->(∃n,PP 264 [.agg (zE x),.agg [L (xp x l).1],I b] (.tup [.agg [L (a (xp x l).1)],I n]))/\DayOk (a (xp x l).1)/\(a (xp x l).1).flatten.length<=1048576:=λe=>hI _ (by simp[JH,e]);have q:=h.len;have hit:=Mn (fsL x (L l) b) [some (jI l),some (a (uo x l)),some (a (jI l)),bif (xp x l).2 then some (a (xp x l).1) else none] rfl EA (by
  intro k f hf
  match k with
  |0=>cases hf;exact⟨_,_,L (jI l),rfl,Mk (L l) (jI l) (Xz l) p,λd g=>by cases g;rfl⟩
  |1=>cases hf;exact⟨_,_,L (a (uo x l)),rfl,Ml x (L l) b _ _ _ (Xz l) r i1,λd g=>by cases g;rfl⟩
  |2=>cases hf;exact⟨_,_,L (a (jI l)),rfl,Mm x (L l) b _ _ _ (Xz l) p i2,λd g=>by cases g;rfl⟩
  |3 =>
   cases hf;cases c:(xp x l).2 with
   |true =>
   obtain⟨⟨s,i3⟩,-⟩:=h3 c;rw[c]at i;exact⟨_,_,L (a (xp x l).1),rfl,ov x (L l) b _ _ true s (Xz l) i (λ_=>i3),λd g=>by cases g;rfl⟩
   |false =>
   rw[c]at i;exact⟨_,_,yI,rfl,ov x (L l) b _ [] false 0 (Xz l) i (λe=>by cases e),λd g=>by cases g⟩
  |k+4=>cases hf)
 have m:([some (jI l),some (a (uo x l)),some (a (jI l)),bif (xp x l).2 then some (a (xp x l).1) else none]:List (Option zt)).filterMap id=Qd x a l:=by unfold Qd;cases (xp x l).2<;>rfl
 rw[m]at hit;refine ow x (L l) b (vK x l) (Qd x a l) (Xz l) h.y o (λ_=>hit) λ_ d g=>?_;grind
variable {r:Rd}{o:Oper}{e:TypeId}{parts:Array (Nat × Operand)}
def NY{t:TypeId}{cs:List PV}{K:PV->Store->Prop}(ho:o.op=.buildSlice t nx parts)(m:P.underlying t=some (.slice e))(h0:P.cellsOf e≠0)(l:nx<=1048576)
  (hl:Yp P e nx (parts.toList.map λx=>(x.1,ev F x.2))=some cs)
  (g:∀C:Ctx,S C.next=.dead->∃id v,Fresh C S id v/\K (.sl id v (P.cellsOf e) 0 nx) (S.set id (.cells v e cs))):PO P r n o F S K:=by
 intro G p C w a N st next Q' b;have d:parts.toList.map (λx=>(x.1,ev G x.2))=parts.toList.map (λx=>(x.1,ev F x.2)):=AQ λx hx=>by rw[p x.2 (by simp only[ho,Op.operands,List.mem_toArray,Ak];first|exact⟨x,hx,rfl⟩|(simp;exact⟨x.1,by simpa using hx⟩))]
 rw[<-d]at hl;obtain⟨vs,f,h,j⟩:=eR (w:=w) m (ev G) a.eval st.ev hl;obtain⟨id,ver,k,g⟩:=g C st.sim.free;obtain⟨k1,q⟩:=st.sim.object' k e vs cs (Cx h.1) (λi v _ hv=>h.2.1 i v hv) h.2.2;refine qx (x:=.value (.slice (some ⟨w.heap.size,0,none⟩) nx nx)) (w':=w.alloc (.cells vs e)) (by intro c hc;rw[ho]at hc;cases hc) ?_
  (b _ _ _ _ _ g (VM C S w _ _ _ _ _ _ _ _ rfl (Ag _) (by unfold xO;omega) (by unfold maxLen;omega) j.symm) k1 q)
 unfold execOp;simp only[ho];have s:(parts.map λx=>(x.1,a.eval x.2))=(parts.toList.map λx=>(x.1,a.eval x.2)).toArray:=by apply BV.1;simp
 simp only[s,f,Sem.run_bind,Sem.run_pure,Aq]
def NZ{t:TypeId}{cs:List PV}{K:PV->Store->Prop}(ho:o.op=.buildSlice t k parts)(b:P.underlying t=some (.slice e))(h0:P.cellsOf e≠0)(a:k<=1048576)
  (hl:Yp P e k (parts.toList.map λx=>(x.1,ev F x.2))=some cs) (c:∀v,K (.sl (nx+obs.length) v (P.cellsOf e) 0 k) (ext S nx (obs++[.cells v e cs]))):PO P r n o F (ext S nx obs) K :=
 NY ho b h0 a hl (YX (X:=λid v=>K (.sl id v (P.cellsOf e) 0 k) ((ext S nx obs).set id (.cells v e cs))) _ Z9 λv=>by rw[jP];exact c v)
def Oa{N:Nat}{Q:Exit->(Nat->PV)->Store->Prop}{A:Prop}{R:Nat->KT->CT->HT->Prop}{id:Nat}{ops:Array Oper}{os:List Oper}{t:TypeId}
  (D:List (Nat × Nat)) (cs:List PV) (g:P.underlying t=some (.slice e)) (a:A) (h:∀v,R v (λF' S' b=>Q .normal F' (ext S' nx b)) (CQ P r n nx ops λF' S' b=>Q .normal F' (ext S' nx b)) (HQ P r n nx ops λF' S' b=>Q .normal F' (ext S' nx b)))
  (c:ops.toList=o::os:=by rfl) (i:o.guard=none:=by rfl) (ho:o.op=.buildSlice t p parts:=by rfl) (h0:P.cellsOf e≠0:=by simp) (d:p<=1048576:=by decide)
  (hl:Yp P e p (parts.toList.map λx=>(x.1,ev F x.2))=some cs:=by simp[Yp,YV]) (j:ug N ops=true:=by rfl) (k:ZH ops D=true:=by rfl)
  (l:A->∀v,XQ P nx D os (yo F o.dst (.sl (nx+obs.length) v (P.cellsOf e) 0 p)) S (obs++[.cells v e cs]) (R v):=by intro a v K Gc Gh X f m h;simp -implicitDefEqProofs [f,m,a];exact h):PW P r n N (.region id ops false) Q F (ext S nx obs):=by
 refine cA j ?_;rw[c];unfold XS;have:gd ops F o=some true:=by unfold gd;rw[i]
 rw[this];exact NZ ho g h0 d hl λv=>⟨_,_,rfl,Xr (by rw[c];exact List.suffix_cons _ _) k (l a v) (h v)⟩
def yP(x:Inst)(t:zT):Nat->Int
 |0=>0
 |i+1=>yP x t i+arc x ((t.getD i default).c+1) ((t.getD (i+1) default).c+1)
def yQ(x:Inst)(t:zT):Nat->Int
 |0=>0
 |i+1=>yQ x t i+arc x ((t.getD (i+1) default).c+1) ((t.getD i default).c+1)
theorem WO(h:jk x)(t:zT):∀i:Nat,0<=yP x t i/\yP x t i<=2147483648*(i:Int)
 |0=>by simp[yP]
 |i+1=>by have h1:=WO h t i;have h2:=h ((t.getD i default).c+1) ((t.getD (i+1) default).c+1);unfold yP;omega
theorem WP(h:jk x)(t:zT):∀i:Nat,0<=yQ x t i/\yQ x t i<=2147483648*(i:Int)
 |0=>by simp[yQ]
 |i+1=>by have h1:=WP h t i;have h2:=h ((t.getD (i+1) default).c+1) ((t.getD i default).c+1);unfold yQ;omega
structure Sm where
 f:List Int
 b:List Int
 l:List Int
 n:Int
instance:Enc Sm:=⟨λs=>[L s.f,L s.b,L s.l,I s.n],4,λ_=>rfl,λ_=>rfl⟩
@[simp] theorem ZCN(s:Sm):enc s=[L s.f,L s.b,L s.l,I s.n]:=rfl
@[simp high] theorem pU(l:List Sm):(l.flatMap enc).length=l.length*4:=ju l
@[simp high] theorem ZCO(l:List Sm):(l.flatMap enc).take (l.length*4)=l.flatMap enc:=Yt l
def wH(x:Inst)(t:zT):Sm:=⟨(range t.length).map (yP x t),(range t.length).map (yQ x t),(range (t.length+1)).map λi=>yg (t.take i),yT x (t.map (·.c))⟩
abbrev ZS(x:Inst)(d:zt):List PV:=[I x.days,I x.U,I x.R,I x.len,L x.y,L x.J,L d,L (d.map (wH x))]
structure MvDay (d:zt):Prop where
 n:d.length<=1000
 t:∀t∈d,t.length<=1000
 s:∀t∈d,∀s∈t,qz s.c/\0<=s.q/\s.q<=2147483648
def Oc{t:zT}{s:Stop}(h:t.take (i+1)=t.take i++[s]):yg (t.take (i+1))=yg (t.take i)+s.q:=by rw[h,VY]
def gW(f:Nat->α)(k:Nat):(range (k+1)).map f=(range k).map f++[f k]:=by rw[AO,map_append];rfl
def Od(id v:Nat)(cs:List PV)(l:List Sm):(l.flatMap enc).map (qk id v cs)=(l.flatMap enc:List PV):=by
 induction l with
 |nil=>rfl
 |cons s l a=>rw[AB,map_append,a];rfl
def Oe(x:Inst)(d:zt)(hx:jk x)(o:MvDay d):PP 316 [.agg (zE x),.agg [L d]] (.ip (ZS x d)):=by
 have d7:=o.n;refine c9 func316 λS nx hd=>?_;intro v0 v1;refine EJ ?_;intro l;refine qj 2 7 405 4 rfl rfl λv3=>?_;refine ze (EJ ?_);refine zn (zF (λs':Nat × Nat=>s'.1<=d.length) (λ(k,v3)=>[(2,.ptr nx v0 0),(5,.ptr (nx+2) l 0),(20,L d),(21,I d.length),(22,I k)]) (λ(k,v3)=>[.cells v0 25 (zE x),.cells v1 96 [L d],.cells l 403 [I x.days,I x.U,I x.R,I x.len,L x.y,L x.J,L d,.sl (nx+3) v3 4 0 k],.cells v3 405 (((d.map (wH x)).take k).flatMap enc)]) (λs'=>d.length-s'.1) (0,v3) [] EA EA EA ?_);rintro⟨k,v3⟩ hk;simp only at hk ⊢;refine EJ ?_;refine ze (zA rfl (λhc=>?_) (λhc=>?_))
 .simp at hc;obtain⟨t,tl,a1,a2,a3,e0⟩:=zH rfl d k hc;have a8:1<=d.length-k:=D9;have y:=Ab a1;have d8:=o.t t y;have h:=o.s t y;have z:=V1 x t D9 (λs hs=>(h s hs).1);have a9:=WI hx (t.map (·.c));rw[length_map]at a9;rw[show W (yT x (t.map (·.c)))=yT x (t.map (·.c)) from wr _ D9 D9]at z;refine zk (aA (aF [] (zD e0 hc a8) ?_));intro v4;refine ze (Oa [] [I 0] underlying26 n' ?_);intro v5;refine zu z ?_;intro w;refine EJ ?_;refine qj 6 0 3 1 rfl rfl λe=>?_;refine qj 6 1 3 1 rfl rfl λf=>?_;refine ze (EJ ?_);generalize r:(((d.map (wH x)).take k).flatMap enc:List PV)=pc at *;generalize b7:yT x (t.map (·.c))=wl at *;refine zn (zF (λs':Nat × Nat × Nat × Nat=>s'.1<=t.length) (λ(i,v5,e,f)=>[(2,.ptr nx v0 0),(5,.ptr (nx+2) l 0),(7,.ptr (nx+4) v4 0),(8,.ptr (nx+6) w 0),(9,I (yP x t (i-1))),(10,I (yQ x t (i-1))),(20,L d),(21,I d.length),(22,I k),(32,L t),(33,I t.length),(34,I i)])
   (λ(i,v5,e,f)=>[.cells v0 25 (zE x),.cells v1 96 [L d],.cells l 403 [I x.days,I x.U,I x.R,I x.len,L x.y,L x.J,L d,.sl (nx+3) v3 4 0 k],.cells v3 405 pc,.cells v4 99 [L t],.cells v5 3 (((range (i+1)).map λi=>yg (t.take i)).flatMap enc),
    .cells w 405 [.sl (nx+7) e 1 0 i,.sl (nx+8) f 1 0 i,.sl (nx+5) v5 1 0 (i+1),I wl],.cells e 3 (((range i).map (yP x t)).flatMap enc),.cells f 3 (((range i).map (yQ x t)).flatMap enc)]) (λs'=>t.length-s'.1) (0,v5,e,f) [] EA (by simp[yP,yQ]) (by simp[yg]) ?_)
  rintro⟨i,v5,e,f⟩ hi;simp only at hi ⊢;refine EJ ?_;refine ze (zA rfl (λb=>?_) (λb=>?_))
  .simp at b;obtain⟨s,ts,s1,s2,s3,-,s0⟩:=el 2 rfl t i b;have b8:2<=t.length*2-i*2:=D9;obtain⟨u,d9,e1⟩:=h s (Ab s1);have a0:t.getD i default=s:=by rw[Aa,s1];rfl
   have wi:=zy i D9;have f1:=gW (yP x t) i;have f2:=gW (yQ x t) i;have f3:=gW (λi=>yg (t.take i)) (i+1);have a4:=Oc s3;have e2:=gD (t:=t.take i) (λa ha=>(h a (Bn ha)).2);have e3:(t.take i).length<=1000:=by rw[AA];omega
   have c6:i64.wrap (yg (t.take i)+s.q)=yg (t.take (i+1)):=by rw[a4];exact wr _ D9 D9
   have g1:(((range i).map (yP x t)).flatMap enc:List PV).length=i:=by rw[jV];simp
   have g2:(((range i).map (yQ x t)).flatMap enc:List PV).length=i:=by rw[jV];simp
   have g3:(((range (i+1)).map λi=>yg (t.take i)).flatMap enc:List PV).length=i+1:=by rw[jV];simp
   obtain⟨lz,e4,z1,-,-,z0⟩:=zH rfl ((range (i+1)).map λi=>yg (t.take i)) i EA;have m:lz=yg (t.take i):=by simpa using z1.symm
   have c1:(((range (i+1)).map (yP x t)).flatMap enc:List PV)=((range i).map (yP x t)).flatMap enc++[I (yP x t i)]:=by rw[f1,Ap];rfl
   have c2:(((range (i+1)).map (yQ x t)).flatMap enc:List PV)=((range i).map (yQ x t)).flatMap enc++[I (yQ x t i)]:=by rw[f2,Ap];rfl
   have c3:(((range (i+1+1)).map λi=>yg (t.take i)).flatMap enc:List PV)=((range (i+1)).map λi=>yg (t.take i)).flatMap enc++[I (yg (t.take (i+1)))]:=by rw[f3,Ap];rfl
   rw[m]at z0;clear f1 f2 f3 z1 m a4;generalize (((range i).map (yP x t)).flatMap enc:List PV)=fc at *;generalize (((range i).map (yQ x t)).flatMap enc:List PV)=bc at *;generalize (((range (i+1)).map λi=>yg (t.take i)).flatMap enc:List PV)=lc at *;have t1:fc.take i=fc:=Ad D9;have t2:bc.take i=bc:=Ad D9;have t3:lc.take (i+1)=lc:=Ad D9;refine zk (aA (aF [] (zD s0 b b8) ?_));intro v9;apply ze;refine qg (nx:=nx) (λ_:Unit=>True) (λ_=>[(2,.ptr nx v0 0),(5,.ptr (nx+2) l 0),(7,.ptr (nx+4) v4 0),(8,.ptr (nx+6) w 0),(9,I (yP x t i)),(10,I (yQ x t i)),(11,I i),(12,.ptr (nx+9) v9 0),(20,L d),(21,I d.length),(22,I k),(32,L t),(33,I t.length),(34,I i)]) (λ_=>S)
    (λ_=>[.cells v0 25 (zE x),.cells v1 96 [L d],.cells l 403 [I x.days,I x.U,I x.R,I x.len,L x.y,L x.J,L d,.sl (nx+3) v3 4 0 k],.cells v3 405 pc,.cells v4 99 [L t],.cells v5 3 lc,
    .cells w 405 [.sl (nx+7) e 1 0 i,.sl (nx+8) f 1 0 i,.sl (nx+5) v5 1 0 (i+1),I wl],.cells e 3 fc,.cells f 3 bc,.cells v9 101 [I s.c,I s.q]]) ?_ ?_
   .by_cases h0:0<i
    .obtain⟨j,rfl⟩:∃j,i=j+1:=⟨i-1,by omega⟩;obtain⟨p,tp,p1,-,-,-,p0⟩:=el 2 rfl t j D9;obtain⟨c7,-,-⟩:=h p (Ab p1);have a5:t.getD j default=p:=by rw[Aa,p1];rfl
     have c8:2<=t.length*2-j*2:=D9;have d0:j<t.length:=D9;have wj:i64.wrap (j:Int)=(j:Int):=wr _ D9 D9;have wp:=Yw c7;have ws:=Yw u;have d1:=ul x (p.c+1) (s.c+1);have d2:=ul x (s.c+1) (p.c+1);have g:yP x t (j+1)=yP x t j+arc x (p.c+1) (s.c+1):=by conv=>lhs;unfold yP;rw[a0,a5]
     have d3:yQ x t (j+1)=yQ x t j+arc x (s.c+1) (p.c+1):=by conv=>lhs;unfold yQ;rw[a0,a5]
     have b1:=WO hx t (j+1);have b2:=WP hx t (j+1);have wf:i64.wrap (yP x t j+arc x (p.c+1) (s.c+1))=yP x t (j+1):=by rw[g]at b1 ⊢;exact wr _ D9 D9
     have wb:i64.wrap (yQ x t j+arc x (s.c+1) (p.c+1))=yQ x t (j+1):=by rw[d3]at b2 ⊢;exact wr _ D9 D9
     simp only[Cc];have d4:(0:Int)<((j+1:Nat):Int):=D9;refine aF [] (zq h0 d4) ?_;refine aD ?_;refine aG (some [nx+4,nx+9]) Rt (zN wj p0 d0 c8 wp ws) ?_;refine EJ ?_;refine yK [] d1 wf ?_;refine zg ?_;refine yK [] d2 wb ?_;exact zY () [] n' EA rfl EA
    obtain rfl:i=0:=D9;refine EJ ?_;exact zp rfl (zk (zY () [] n' EA rfl EA))
   rintro⟨⟩ -;apply ze;refine qg (nx:=nx) (λ_:Unit=>True) (λ_=>[(2,.ptr nx v0 0),(5,.ptr (nx+2) l 0),(7,.ptr (nx+4) v4 0),(8,.ptr (nx+6) w 0),(9,I (yP x t i)),(10,I (yQ x t i)),(11,I i),(12,.ptr (nx+9) v9 0),(20,L d),(21,I d.length),(22,I k),(32,L t),(33,I t.length),(34,I i)]) (λ_=>S)
    (λ_=>[.cells v0 25 (zE x),.cells v1 96 [L d],.cells l 403 [I x.days,I x.U,I x.R,I x.len,L x.y,L x.J,L d,.sl (nx+3) v3 4 0 k],.cells v3 405 pc,.cells v4 99 [L t],.cells v5 3 lc,
    .cells w 405 [.sl (nx+7) (e+1) 1 0 (i+1),.sl (nx+8) (f+1) 1 0 (i+1),.sl (nx+5) v5 1 0 (i+1),I wl],.cells (e+1) 3 (fc++[I (yP x t i)]),.cells (f+1) 3 (bc++[I (yQ x t i)]),.cells v9 101 [I s.c,I s.q]]) ?_ ?_
   .repeat apply ze
    refine zC (some []) (pures [0,2,3,5,7,8] (.alt 1 (.alt 4 (.alt 6 Rr .stop) (.alt 6 (.alt 4 Rr .stop) .stop)) (.alt 6 (.alt 1 (.alt 4 Rr .stop) .stop) .stop))) (zM g1 g2 t1 t2) ?_
    repeat' (first|refine And.intro D9 ?_|apply And.intro)
    all_goals exact zY () [] n' EA rfl EA
   rintro⟨⟩ -;have z1:(i:Int)<(i:Int)+1:=D9;have z2:i<i+1:=D9;have z3:1<=i+1-i:=D9;refine zC (some [nx+9]) (pures [0,2,4,7,8] (.alt 1 (.alt 3 (pures [5] (.alt 6 Ru .stop)) .stop) (.alt 3 (pures [5] (.alt 1 (.alt 6 Ru .stop) (.alt 6 RF .stop))) .stop))) (zN z0 z1 z2 z3 c6 (zq g3 t3)) ?_
   repeat' (first|refine And.intro D9 ?_|apply And.intro)
   all_goals
    refine zi [] wi ?_;exact zv (i+1,v5+1,e+1,f+1) [_] b ED (by simp[wi]) rfl (by simp[c1,c2,c3];rfl)
  simp at b;obtain rfl:i=t.length:=D9;refine zB ?_;clear hi b;have u:wH x t=⟨(range t.length).map (yP x t),(range t.length).map (yQ x t),(range (t.length+1)).map λi=>yg (t.take i),wl⟩:=by unfold wH;rw[b7]
  have g1:(((range t.length).map (yP x t)).flatMap enc:List PV).length=t.length:=by rw[jV];simp
  have g2:(((range t.length).map (yQ x t)).flatMap enc:List PV).length=t.length:=by rw[jV];simp
  have g3:(((range (t.length+1)).map λi=>yg (t.take i)).flatMap enc:List PV).length=t.length+1:=by rw[jV];simp
  have g:∀id v cs,pc.map (qk id v cs)=pc:=λid v cs=>by rw[<-r];exact Od id v cs _
  have d5:pc.length=k*4:=by rw[<-r,pU];simp;omega
  have d6:pc.take (k*4)=pc:=Ad D9;have a6:(((d.map (wH x)).take (k+1)).flatMap enc:List PV)=pc++[L ((range t.length).map (yP x t)),L ((range t.length).map (yQ x t)),L ((range (t.length+1)).map λi=>yg (t.take i)),I wl]:=by rw[<-r,<-map_take,a3,map_append,Ap,<-map_take,Aw,u];rfl
  have l1:((range t.length).map (yP x t)).length=t.length:=EA;have l2:((range t.length).map (yQ x t)).length=t.length:=EA;have l3:((range (t.length+1)).map λi=>yg (t.take i)).length=t.length+1:=EA;generalize (range t.length).map (yP x t)=fl at *;generalize (range t.length).map (yQ x t)=bl at *;generalize ((range (t.length+1)).map λi=>yg (t.take i))=ll at *;clear g1 g2 g3;refine yc 8 rfl ?_;simp only[Aw,Bf,AM,AR,xD,g];refine yc 7 rfl ?_;simp only[Aw,Bf,AM,AR,xD,g];refine yc 5 rfl ?_;simp only[Aw,Bf,AM,AR,xD,g];refine zC (some [nx+6]) Rx (yp l1 l2 l3 d5 d6) ?_;refine⟨by omega,?_⟩;refine zg ?_;exact zv (k+1,v3+1) [_,_,_,_,_] hc ED (by simp[zy k D9]) rfl (by simp[a6,l1,l2,l3];exact⟨rfl,rfl,rfl,rfl,rfl⟩)
 simp at hc;obtain rfl:k=d.length:=D9;rw[Ad EA];refine zB ?_;have a7:((d.map (wH x)).flatMap enc:List PV).length=d.length*4:=by rw[pU];simp
 refine yc 3 rfl ?_;refine aF [] a7 ?_;refine vt 2 rfl ?_;exact zj (zm hd EB (by simp[zr,a7]))
def wS(x:Inst):Int->List Int->Int
 |_,[]=>0
 |a,c::l=>arc x a (c+1)+wS x (c+1) l
theorem gX(x:Inst):∀(l:List Int) (a:Int) (m:List Int),wS x a (l++m)=wS x a l+wS x (qK a l) m
 |[],a,m=>by simp[wS,qK]
 |c::l,a,m=>by simp only[cons_append,wS,qK];rw[gX x l (c+1) m];omega
theorem gY:∀(l:List Int) (a:Int) (m:List Int),qK a (l++m)=qK (qK a l) m
 |[],a,m=>rfl
 |c::l,a,m=>by simp only[cons_append,qK];exact gY l (c+1) m
theorem pV(x:Inst):∀(l:List Int) (a:Int),xR x a l=wS x a l+arc x (qK a l) 0
 |[],a=>by simp[xR,wS,qK]
 |c::l,a=>by simp only[xR,wS,qK];rw[pV x l (c+1)];omega
def Zr(t:zT)(f n:Nat):zT:=(t.drop f).take n
variable {f:Nat}
def ao{t:zT}{s:Stop}(h:t[f+n]?=some s):Zr t f (n+1)=Zr t f n++[s]:=by grind[Zr,List.take_succ_eq_append_getElem]
def getD_some{t:zT}{s:Stop}(h:t[i]?=some s):t.getD i default=s:=EI
theorem pW(x:Inst)(t:zT)(f:Nat)(a:Int):∀n,f+n<t.length->wS x a ((Zr t f (n+1)).map (·.c))=arc x a ((t.getD f default).c+1)+(yP x t (f+n)-yP x t f)/\qK a ((Zr t f (n+1)).map (·.c))=(t.getD (f+n) default).c+1
 |0,h=>by have h0:t[f+0]?=some t[f]:=Ac D9;rw[ao h0];grind[Zr,wS,qK]
 |n+1,h=>by obtain⟨i1,i2⟩:=pW x t f a n D9;have h0:t[f+(n+1)]?=some t[f+(n+1)]:=Ac D9;rw[ao h0,map_append,gX,gY,i1,i2,getD_some h0];grind[wS,qK,yP]
theorem pX(x:Inst)(t:zT)(f:Nat):∀(n:Nat) (a:Int),f+n<t.length->wS x a ((Zr t f (n+1)).reverse.map (·.c))=arc x a ((t.getD (f+n) default).c+1)+(yQ x t (f+n)-yQ x t f)/\qK a ((Zr t f (n+1)).reverse.map (·.c))=(t.getD f default).c+1
 |0,a,h=>by have h0:t[f+0]?=some t[f]:=Ac D9;rw[ao h0];grind[Zr,wS,qK]
 |n+1,a,h=>by have h0:t[f+(n+1)]?=some t[f+(n+1)]:=Ac D9;obtain⟨i1,i2⟩:=pX x t f n ((t.getD (f+(n+1)) default).c+1) D9;rw[ao h0,Dn];simp only[CB,DP,AK,cons_append,Aw,wS,qK];grind[yQ]
theorem pY(t:zT)(f:Nat):∀n,f+n<=t.length->yg (Zr t f n)=yg (t.take (f+n))-yg (t.take f)
 |0,_=>by simp[Zr,yg]
 |n+1,h=>by have h0:t[f+n]?=some t[f+n]:=Ac D9;have e:t.take (f+n+1)=t.take (f+n)++[t[f+n]]:=AT D9;rw[ao h0,VY,pY t f n D9,<-Nat.add_assoc,e,VY];omega
def xu(x:Inst)(d:zt)(st:Int × Int)(p:Pc):Int × Int :=
 if p.f<p.o then
  (bif p.b then (((d.getD p.t []).getD p.f default).c+1,st.2+(arc x st.1 (((d.getD p.t []).getD (p.o-1) default).c+1)+yQ x (d.getD p.t []) (p.o-1)-yQ x (d.getD p.t []) p.f))
  else (((d.getD p.t []).getD (p.o-1) default).c+1,st.2+(arc x st.1 (((d.getD p.t []).getD p.f default).c+1)+yP x (d.getD p.t []) (p.o-1)-yP x (d.getD p.t []) p.f)))
 else st
def vO(x:Inst)(d:zt)(r:Rw5):Int:=(r.l.foldl (xu x d) (0,0)).2+arc x (r.l.foldl (xu x d) (0,0)).1 0
def ut(d:zt)(st:Int)(p:Pc):Int:=if p.f<p.o then st+(yg ((d.getD p.t []).take p.o)-yg ((d.getD p.t []).take p.f)) else st
def JJ(d:zt)(r:Rw5):Int:=r.l.foldl (ut d) 0
def Of{p:Pc}(h:WM d p)(g:List Stop):xu x d (qK 0 (g.map (·.c)),wS x 0 (g.map (·.c))) p=(qK 0 ((g++jm d p).map (·.c)),wS x 0 ((g++jm d p).map (·.c))):=by
 unfold xu jm;by_cases a:p.f<p.o
 .obtain⟨i,ho⟩:=h a;unfold jy at ho;rw[if_pos a,if_pos a];generalize d.getD p.t []=t at *;obtain⟨n,hn⟩:∃n,p.o=p.f+n+1:=⟨p.o-p.f-1,by omega⟩;have e:p.o-1=p.f+n:=D9;have e2:p.o-p.f=n+1:=D9;rw[e,e2,map_append,gX,gY];cases p.b with
  |true =>
  simp only[cond_true];obtain⟨i1,i2⟩:=pX x t p.f n (qK 0 (g.map (·.c))) D9;unfold Zr at i1 i2;rw[i1,i2];congr 1;omega
  |false =>
  simp only[cond_false];obtain⟨i1,i2⟩:=pW x t p.f (qK 0 (g.map (·.c))) n D9;unfold Zr at i1 i2;rw[i1,i2];congr 1;omega
 grind
theorem pZ:∀(l:List Pc) (g:List Stop),(∀p∈l,WM d p)->l.foldl (xu x d) (qK 0 (g.map (·.c)),wS x 0 (g.map (·.c)))=(qK 0 ((g++l.flatMap (jm d)).map (·.c)),wS x 0 ((g++l.flatMap (jm d)).map (·.c)))
 |[],g,_=>by simp
 |p::l,g,h=>by rw[Ba,Of (h p EA),pZ l _ λq a=>h q (by simp[a]),AB,append_assoc]
def gZ{r:Rw5}(h:ZR d r)(h0:arc x 0 0=0):vO x d r=yT x ((qL d r).map (·.c)):=by have:=pZ (x:=x) r.l [] h;grind[qK,wS,vO,qL,yT,pV]
def Og{p:Pc}(h:WM d p)(g:List Stop):ut d (yg g) p=yg (g++jm d p):=by
 unfold ut jm;by_cases a:p.f<p.o
 .obtain⟨e,ho⟩:=h a;unfold jy at ho;rw[if_pos a,if_pos a,MC];generalize d.getD p.t []=t at *;have:=pY t p.f (p.o-p.f) D9;rw[show p.f+(p.o-p.f)=p.o by omega]at this;have c:∀l:zT,yg l.reverse=yg l:=λl=>by unfold yg;exact MB ((List.reverse_perm l).map _)
  unfold Zr at this;cases p.b with
  |true=>simp only[cond_true];rw[c,this]
  |false=>simp only[cond_false];rw[this]
 grind
def Oh{r:Rw5}(h:ZR d r):JJ d r=yg (qL d r):=by
 have key:∀(l:List Pc) (g:List Stop),(∀p∈l,WM d p)->l.foldl (ut d) (yg g)=yg (g++l.flatMap (jm d)):=by
  intro l;induction l with
  |nil=>intro g _;simp
  |cons p l a =>
  intro g h;rw[Ba,Og (h p EA),a _ λq b=>h q (by simp[b]),AB,append_assoc]
 have:=key r.l [] h;simp_all[JJ,qL,yg]
abbrev WQ(x:Inst)(d:zt)(sms:List Sm):List PV:=[I x.days,I x.U,I x.R,I x.len,L x.y,L x.J,L d,L sms]
def WR(h:jk x)(a b:Int):0<=arc x a b/\arc x a b<=2147483648:=h a b
def df{a:List Sm}(hs:a=d.map (wH x))(h:k<d.length):∃(t:zT) (c g:List PV),d[k]?=some t/\d.getD k []=t/\(d.flatMap enc:List PV).drop k=L t::c /\
  (a.flatMap enc:List PV).drop (k*4)=[L (wH x t).f,L (wH x t).b,L (wH x t).l,I (wH x t).n]++g:=by
 obtain⟨t,c,e,-,-,i⟩:=zH rfl d k h;rw[hs];obtain⟨s,j,b1,-,-,-,m⟩:=el 4 rfl (d.map (wH x)) k (by simpa using h);have:s=wH x t:=by rw[Ai,e]at b1;exact(inj b1).symm
 subst this;exact⟨t,c,j,e,by rw[Aa,e];rfl,i,m⟩
def WS[Enc α](n:Nat)(hn:Enc.sz α=1)(f:Nat->α)(h:i<n):∃tl,(((range n).map f).flatMap enc:List PV).drop i=enc (f i)++tl:=by
 obtain⟨s,a,b1,-,-,b⟩:=zH hn ((range n).map f) i (by simpa using h);have:s=f i:=by rw[Ai,Bg h]at b1;exact(inj b1).symm
 subst this;exact⟨a,b⟩
def ia(x:Inst)(d:zt)(r:Rw5)(hx:jk x)(z:MvDay d)(hr:ZR d r):PP 333 [.ip (ZS x d),.agg (yL r)] (I (vO x d r)):=by
 obtain⟨j,m⟩:∃j,j=d.map (wH x):=⟨_,rfl⟩;have a6:j.length=d.length:=by rw[m];simp
 rw[show ZS x d=WQ x d j from by rw[m]];have e9:=z.n;have d7:=λk (h:k<5)=>de r h;have hz:vO x d r=((r.l.take 5).foldl (xu x d) (0,0)).2+arc x ((r.l.take 5).foldl (xu x d) (0,0)).1 0:=by unfold vO;rw[Ad (by simp[Rw5.l])]
 rw[hz];clear hz;have a7:(yL r).length=20:=rfl;have d8:(yL r).take 20=yL r:=rfl;generalize f1:yL r=rc at *;refine c9 func333 λS nx hd=>?_;intro v0;refine EJ ?_;refine ze (aF [] (zq a7 d8) ?_);refine zn (zF (λk:Nat=>k<=5/\-(8796093022208*(k:Int))<=((r.l.take k).foldl (xu x d) (0,0)).2/\((r.l.take k).foldl (xu x d) (0,0)).2<=8796093022208*k) (λk=>[(0,.ip (WQ x d j)),(3,.ptr nx v0 0),(5,I ((r.l.take k).foldl (xu x d) (0,0)).1),(6,I ((r.l.take k).foldl (xu x d) (0,0)).2),(13,.agg rc),(14,I k)]) (λ_=>[.cells v0 372 rc]) (λk=>5-k) 0 [] EA EA EA ?_);rintro k ⟨hk,a8,a9⟩;by_cases b7:k<5
 .obtain⟨p,d9,e1,e2⟩:=d7 k b7;have v:(k:Int)<5:=D9;have e3:4<=20-k*4:=D9;have e4:=hr p (Ab d9);have e:(r.l.take (k+1)).foldl (xu x d) (0,0)=xu x d ((r.l.take k).foldl (xu x d) (0,0)) p:=by rw[e2,BI];rfl
  generalize (r.l.take k).foldl (xu x d) (0,0)=st at *;obtain⟨a,all⟩:=st;simp only at a8 a9 ⊢;have wk:=zy k D9;refine aF [] v ?_;refine ze (zo rfl (zk (aA (aF [] (yp e1 b7 v a7 e3) ?_))));intro v3;by_cases a0:p.f<p.o;case neg =>
   have e5:xu x d (a,all) p=(a,all):=by unfold xu;rw[if_neg a0]
   rw[e5]at e;have g:p.o<=p.f:=D9;refine ze (aF [] g ?_);refine zo (by simp[g]) ?_;refine zB (zg ?_);exact zv (k+1) [_] ⟨by omega,by rw[e];simp only;omega,by rw[e];simp only;omega⟩ D9 (by simp[wk,e]) rfl EB
  obtain⟨ht,ho⟩:=e4 a0;obtain⟨t,td,tf,a1,b8,e0,f0⟩:=df m ht;unfold jy at ho;rw[b8]at ho;have c6:=Ab a1;have f2:=z.t t c6;have c7:=z.s t c6;have e6:1<=d.length-p.t:=D9;have c8:4<=d.length*4-p.t*4:=D9;obtain⟨n,hn⟩:∃n,p.o=n+1:=⟨p.o-1,by omega⟩;have g:¬p.o<=p.f:=D9;have d0:xu x d (a,all) p=bif p.b then ((t.getD p.f default).c+1,all+(arc x a ((t.getD n default).c+1)+yQ x t n-yQ x t p.f)) else ((t.getD n default).c+1,all+(arc x a ((t.getD p.f default).c+1)+yP x t n-yP x t p.f)):=by unfold xu;rw[if_pos a0,b8,show p.o-1=n by omega]
  rw[d0]at e;clear d0;obtain⟨q,f3,s1,-,-,-,s0⟩:=el 2 rfl t p.f D9;obtain⟨sl,f4,l1,-,-,-,l0⟩:=el 2 rfl t n D9;have e7:t.getD p.f default=q:=getD_some s1;have e8:t.getD n default=sl:=getD_some l1;rw[e7,e8]at e;have q1:p.f<t.length:=D9;have q2:n<t.length:=D9;have q3:2<=t.length*2-p.f*2:=D9;have q4:2<=t.length*2-n*2:=D9;have wo:i64.wrap ((p.o:Int)-1)=(n:Int):=by rw[wr _ D9 D9];omega
  have a2:=Yw (c7 q (Ab s1)).1;have a3:=Yw (c7 sl (Ab l1)).1;have f5:=WO hx t p.f;have f6:=WO hx t n;have f7:=WP hx t p.f;have f8:=WP hx t n;have d1:((range t.length).map (yP x t)).length=t.length/\((range t.length).map (yQ x t)).length=t.length:=EA;obtain⟨z1,d2⟩:=WS t.length rfl (yP x t) q1;obtain⟨z2,d3⟩:=WS t.length rfl (yP x t) q2;obtain⟨z3,d4⟩:=WS t.length rfl (yQ x t) q1;obtain⟨z4,d5⟩:=WS t.length rfl (yQ x t) q2;have q5:1<=t.length-p.f:=D9;have q6:1<=t.length-n:=D9;simp only[wH]at f0;generalize f9:(range t.length).map (yP x t)=fl at *;generalize g0:(range t.length).map (yQ x t)=bl at *;generalize ((range (t.length+1)).map λi=>yg (t.take i))=ll at *;generalize yT x (t.map (·.c))=wl at *;obtain⟨a4,a5⟩:=d1;have w:(fl.flatMap enc:List PV).length=t.length:=by rw[jV,a4]
  have y:(bl.flatMap enc:List PV).length=t.length:=by rw[jV,a5]
  refine ze (aF [] g ?_);refine zp (by simp[g]) ?_;refine zk (aG (some [nx+1]) Rn (zN e0 f0 ht e6 c8 a6) ?_);refine aG (some [nx+1]) RJ wo ?_;apply ze;cases u:p.b with
  |false =>
  rw[u]at e;simp only[cond_false]at e;have d6:=WR hx a (q.c+1);have ar:=ul x a (q.c+1);have w1:i64.wrap (arc x a (q.c+1)+yP x t n)=arc x a (q.c+1)+yP x t n:=wr _ D9 D9;have w2:i64.wrap (arc x a (q.c+1)+yP x t n-yP x t p.f)=arc x a (q.c+1)+yP x t n-yP x t p.f:=wr _ D9 D9;have w3:i64.wrap (all+(arc x a (q.c+1)+yP x t n-yP x t p.f))=all+(arc x a (q.c+1)+yP x t n-yP x t p.f):=wr _ D9 D9;refine aF [] u ?_;refine zp rfl (zk (aG (some [nx+1]) RD (zN s0 q1 q3 a2 wo (zq (zN d2 d3 w a4 q2 q5) (zM q6 w1 w2 w3))) ?_));refine zK (ar) (zN s0 q1 q3 a2 wo (zq (zN d2 d3 w a4 q2 q5) (zM q6 w1 w2 w3))) ?_;refine zi [] (zM l0 q2 q4 a3) ?_;refine zg ?_;exact zv (k+1) [_] ⟨by omega,by rw[e];simp only;omega,by rw[e];simp only;omega⟩ D9 (by simp[wk,e]) rfl EB
  |true =>
  rw[u]at e;simp only[cond_true]at e;have d6:=WR hx a (sl.c+1);have ar:=ul x a (sl.c+1);have w1:i64.wrap (arc x a (sl.c+1)+yQ x t n)=arc x a (sl.c+1)+yQ x t n:=wr _ D9 D9;have w2:i64.wrap (arc x a (sl.c+1)+yQ x t n-yQ x t p.f)=arc x a (sl.c+1)+yQ x t n-yQ x t p.f:=wr _ D9 D9;have w3:i64.wrap (all+(arc x a (sl.c+1)+yQ x t n-yQ x t p.f))=all+(arc x a (sl.c+1)+yQ x t n-yQ x t p.f):=wr _ D9 D9;refine aF [] u ?_;refine zo rfl (zC (some [nx+1]) Rj (zM f0 ht c8 a6) ?_);refine aG (some [nx+1]) RD (zN l0 q2 q4 a3 wo (zq (zN d4 d5 y a5 q1 q5) (zM q6 w1 w2 w3))) ?_;refine zK (ar) (zN l0 q2 q4 a3 wo (zq (zN d4 d5 y a5 q1 q5) (zM q6 w1 w2 w3))) ?_;refine zi [] (zM s0 q1 q3 a2) ?_;refine zg ?_;exact zv (k+1) [_] ⟨by omega,by rw[e];simp only;omega,by rw[e];simp only;omega⟩ D9 (by simp[wk,e]) rfl EB
 obtain rfl:k=5:=D9;generalize (r.l.take 5).foldl (xu x d) (0,0)=st at *;obtain⟨a,all⟩:=st;simp only at a8 a9 ⊢;have d6:=WR hx a 0;have ar:=ul x a 0;have w1:i64.wrap (all+arc x a 0)=all+arc x a 0:=wr _ D9 D9;refine EJ ?_;refine ze (zp rfl (zB (EJ ?_)));refine yK [] ar w1 ?_;exact zj (zm hd rfl rfl)
def Oi(x:Inst)(d:zt)(r:Rw5)(q:MvDay d)(hr:ZR d r):PP 334 [.ip (ZS x d),.agg (yL r)] (I (JJ d r)):=by
 obtain⟨g,j⟩:∃g,g=d.map (wH x):=⟨_,rfl⟩;have a2:g.length=d.length:=by rw[j];simp
 rw[show ZS x d=WQ x d g from by rw[j]];have d1:=q.n;have a3:=λk (h:k<5)=>de r h;have hz:JJ d r=(r.l.take 5).foldl (ut d) 0:=by unfold JJ;rw[Ad (by simp[Rw5.l])]
 rw[hz];clear hz;have u:(yL r).length=20:=rfl;have a4:(yL r).take 20=yL r:=rfl;generalize d2:yL r=rc at *;refine c9 func334 λS nx hd=>?_;intro v0;refine EJ ?_;refine ze (aF [] (zq u a4) ?_);refine zn (zF (λk:Nat=>k<=5/\-(8796093022208*(k:Int))<=(r.l.take k).foldl (ut d) 0/\(r.l.take k).foldl (ut d) 0<=8796093022208*k) (λk=>[(0,.ip (WQ x d g)),(3,.ptr nx v0 0),(5,I ((r.l.take k).foldl (ut d) 0)),(8,.agg rc),(9,I k)]) (λ_=>[.cells v0 372 rc]) (λk=>5-k) 0 [] EA EA EA ?_);rintro k ⟨hk,d3,d4⟩;by_cases v:k<5
 .obtain⟨p,a5,a6,a7⟩:=a3 k v;have m:(k:Int)<5:=D9;have a8:4<=20-k*4:=D9;have a9:=hr p (Ab a5);have b:(r.l.take (k+1)).foldl (ut d) 0=ut d ((r.l.take k).foldl (ut d) 0) p:=by rw[a7,BI];rfl
  generalize (r.l.take k).foldl (ut d) 0=all at *;have wk:=zy k D9;refine aF [] m ?_;refine ze (zo rfl (zk (aA (aF [] (yp a6 v m u a8) ?_))));intro v3;by_cases e:p.f<p.o;case neg =>
   have b7:ut d all p=all:=by unfold ut;rw[if_neg e]
   rw[b7]at b;refine aF [] e ?_;refine zp (by simp[e]) ?_;refine zk (zg ?_);exact zv (k+1) [_] ⟨by omega,by rw[b];omega,by rw[b];omega⟩ D9 (by simp[wk,b]) rfl EB
  obtain⟨ht,ho⟩:=a9 e;obtain⟨t,td,tf,a1,w,e0,f0⟩:=df j ht;unfold jy at ho;rw[w]at ho;have y:=Ab a1;have d5:=q.t t y;have z:=q.s t y;have b8:4<=d.length*4-p.t*4:=D9;have c6:ut d all p=all+(yg (t.take p.o)-yg (t.take p.f)):=by unfold ut;rw[if_pos e,w]
  rw[c6]at b;have b1:=gD (t:=t.take p.o) (λa ha=>(z a (Bn ha)).2);have b2:=gD (t:=t.take p.f) (λa ha=>(z a (Bn ha)).2);have b3:(t.take p.o).length<=1000:=by rw[AA];omega
  have b4:(t.take p.f).length<=1000:=by rw[AA];omega
  have w1:i64.wrap (yg (t.take p.o)-yg (t.take p.f))=yg (t.take p.o)-yg (t.take p.f):=wr _ D9 D9;have w2:i64.wrap (all+(yg (t.take p.o)-yg (t.take p.f)))=all+(yg (t.take p.o)-yg (t.take p.f)):=wr _ D9 D9;obtain⟨z1,c7⟩:=WS (t.length+1) rfl (λi=>yg (t.take i)) (show p.o<t.length+1 by omega);obtain⟨z2,c8⟩:=WS (t.length+1) rfl (λi=>yg (t.take i)) (show p.f<t.length+1 by omega);have a0:((range (t.length+1)).map λi=>yg (t.take i)).length=t.length+1:=EA;simp only[wH]at f0;generalize (range t.length).map (yP x t)=fl at *;generalize (range t.length).map (yQ x t)=bl at *;generalize ((range (t.length+1)).map λi=>yg (t.take i))=ll at *;generalize yT x (t.map (·.c))=wl at *;generalize yg (t.take p.o)=lo at *;generalize yg (t.take p.f)=lf at *;have d0:(ll.flatMap enc:List PV).length=t.length+1:=by rw[jV,a0]
  have q1:p.o<t.length+1:=D9;have q2:p.f<t.length+1:=D9;have q3:1<=t.length+1-p.o:=D9;have q4:1<=t.length+1-p.f:=D9;have q5:(p.o:Int)<(t.length:Int)+1:=D9;have q6:(p.f:Int)<(t.length:Int)+1:=D9;refine aF [] e ?_;refine zo (by simp[e]) ?_;refine zC (some [nx+1]) (pures [0,1,2,3,4,5,6,7,8,9,10,11,12,13,14,15,16,17,18,19,20,21,22,23,24,25,26,27,28,29] .done) (zN f0 ht b8 a2 c7 (zq (zN c8 a0 d0 q1 q2 q3) (yp q4 q5 q6 w1 w2))) ?_;refine zg ?_;exact zv (k+1) [_] ⟨by omega,by rw[b];omega,by rw[b];omega⟩ D9 (by simp[wk,b]) rfl EB
 obtain rfl:k=5:=D9;refine EJ ?_;refine ze (zp rfl (zB (EJ ?_)));exact zj (zm hd rfl rfl)
def ap(x:Inst)(d:zt)(m:Mv)(r1 r2:Rw5):Int:=vO x d r1-yT x ((d.getD m.a []).map (·.c))+(if m.a=m.b then 0 else vO x d r2-yT x ((d.getD m.b []).map (·.c)))
def ql(hx:jk x)(e:MvDay d){r:Rw5}(n:ZR d r):-52776558133248<=vO x d r/\vO x d r<=52776558133248:=by
 have key:∀k:Nat,k<=5->-(8796093022208*(k:Int))<=((r.l.take k).foldl (xu x d) (0,0)).2/\((r.l.take k).foldl (xu x d) (0,0)).2<=8796093022208*k:=by
  intro k;induction k with
  |zero=>intro _;simp
  |succ k q =>
  intro w;obtain⟨h1,h2⟩:=q D9;obtain⟨p,g,-,h⟩:=de r (show k<5 by omega);have j:=n p (Ab g);rw[h,BI,Ba,List.foldl_nil];generalize (r.l.take k).foldl (xu x d) (0,0)=st at *;unfold xu;by_cases a:p.f<p.o
  .obtain⟨s,ho⟩:=j a;have m:d.getD p.t []∈d:=Ab (i:=p.t) (by rw[Aa,Ac s];rfl);have u:=e.t _ m;unfold jy at ho;generalize d.getD p.t []=t at *;have b1:=WO hx t p.f;have b2:=WO hx t (p.o-1);have b3:=WP hx t p.f;have b4:=WP hx t (p.o-1);rw[if_pos a];cases p.b with
   |true =>
   have:=WR hx st.1 ((t.getD (p.o-1) default).c+1);simp only[cond_true];omega
   |false =>
   have:=WR hx st.1 ((t.getD p.f default).c+1);simp only[cond_false];omega
  rw[if_neg a];omega
 have v:=key 5 D9;rw[Ad (by simp[Rw5.l])]at v;have:=WR hx (r.l.foldl (xu x d) (0,0)).1 0;unfold vO;omega
def Oj(x:Inst)(d:zt)(m:Mv)(r1 r2:Rw5)(hx:jk x)(f:MvDay d)(k:ZR d r1)(l:ZR d r2)(y:m.a<d.length)(hb:m.b<d.length):PP 319 [.ip (ZS x d),.agg (Yf m),.agg (yL r1),.agg (yL r2)] (I (ap x d m r1 r2)):=by
 have l1:=ia x d r1 hx f k;have l2:=ia x d r2 hx f l;have b1:=ql hx f k;have b2:=ql hx f l;obtain⟨h,g⟩:∃h,h=d.map (wH x):=⟨_,rfl⟩;have i:h.length=d.length:=by rw[g];simp
 rw[show ZS x d=WQ x d h from by rw[g]]at l1 l2 ⊢;have a4:=f.n;obtain⟨ta,a5,a6,a1,z,-,fa⟩:=df g y;obtain⟨w,a7,a8,c1,a0,-,fb⟩:=df g hb;have wa:=WI hx (ta.map (·.c));have wb:=WI hx (w.map (·.c));rw[length_map]at wa wb;have a9:=f.t ta (Ab a1);have b7:=f.t w (Ab c1);have j:ap x d m r1 r2=vO x d r1-yT x (ta.map (·.c))+(if m.a=m.b then 0 else vO x d r2-yT x (w.map (·.c))):=by unfold ap;rw[z,a0]
 rw[j];clear j;simp only[wH]at fa fb;generalize vO x d r1=k1 at *;generalize vO x d r2=k2 at *;generalize yT x (ta.map (·.c))=wl at *;generalize yT x (w.map (·.c))=wm at *;have o:4<=d.length*4-m.a*4:=D9;have p:4<=d.length*4-m.b*4:=D9;have w1:i64.wrap (k1-wl)=k1-wl:=wr _ D9 D9;have w2:i64.wrap (k2-wm)=k2-wm:=wr _ D9 D9;have w3:i64.wrap (k1-wl+(k2-wm))=k1-wl+(k2-wm):=wr _ D9 D9;have q:(yL r1).length=20:=rfl;have r:(yL r1).take 20=yL r1:=rfl;have s:(yL r2).length=20:=rfl;have u:(yL r2).take 20=yL r2:=rfl;generalize a2:yL r1=rc1 at *;generalize a3:yL r2=rc2 at *;refine c9 func319 λS nx hd=>?_;intro v0 v1 v2;refine aG (some [nx,nx+1]) Rj (zN q r fa y o (zq i w1)) ?_;refine zK (l1) (zN q r fa y o (zq i w1)) ?_;by_cases v:m.a=m.b;have e:(m.a:Int)=m.b:=D9;rw[if_pos v];refine ze (aF [] e ?_);refine zp (by simp[e]) ?_;refine zk (EJ ?_);exact zj (zm hd rfl (by simp[zr]));have e:¬(m.a:Int)=m.b:=D9;rw[if_neg v];refine ze (aF [] e ?_);refine zo (by simp[e]) ?_;refine zC (some [nx,nx+2]) R3 (zN s u fb hb p (zD i w2 w3)) ?_;refine zK (l2) (zN s u fb hb p (zD i w2 w3)) ?_;refine EJ ?_;exact zj (zm hd rfl (by simp[zr]))
def qs(x:Inst)(d:zt)(r:Rw5)(hx:jk x)(e:MvDay d)(g:ZR d r):PP 320 [.ip (ZS x d),.agg (yL r)] (B (decide (JJ d r<=x.R/\vO x d r<=x.len))):=by have h:=ia x d r hx e g;have l2:=Oi x d r e g;obtain⟨c,f⟩:∃c,c=d.map (wH x):=⟨_,rfl⟩;rw[show ZS x d=WQ x d c from by rw[f]]at h l2 ⊢;generalize vO x d r=k1 at *;generalize JJ d r=k2 at *;have a:(yL r).length=20:=rfl;have b:(yL r).take 20=yL r:=rfl;generalize i:yL r=rc at *;refine c9 func320 λS nx j=>?_;intro v0;by_cases h1:k2<=x.R;refine aG (some [nx]) Rn (zD a b h1) ?_;refine zK (l2) (zD a b h1) ?_;refine zK (h) (zD a b h1) ?_;exact zj (zm j rfl (by simp[zr,h1]));refine aG (some [nx]) Rn (zM a b h1 zz) ?_;refine zK (l2) (zM a b h1 zz) ?_;exact zj (zm j rfl (by simp[zr,h1]))
def dg{W:Nat->List α}{x:α}(a:k<n)(h:(W k)[i]?=some x):((range n).flatMap W)[((range k).flatMap W).length+i]?=some x:=by obtain⟨m,rfl⟩:∃m,n=k+(m+1):=⟨n-k-1,by omega⟩;have hi:=(Af.1 h).1;rw[Dx,Ap,Ao (De _ _),AJ,CY];simp only[Aw,AB,BJ];rw[Au hi];exact h
def dh(W:Nat->List α)(k:Nat):((range (k+1)).flatMap W).length=((range k).flatMap W).length+(W k).length:=by rw[AO,Ap,length_append];simp
def QW(d:zt)(k a b i j:Nat):Option Mv:=if vw d ⟨k,a,b,i,j⟩=true then some ⟨k,a,b,i,j⟩ else none
def YE(d:zt)(k a b i:Nat):List Mv:=(range (jy d b+1)).filterMap (QW d k a b i)
def Qe(d:zt)(k a b:Nat):List Mv:=(range (jy d a+1)).flatMap (YE d k a b)
def JK(d:zt)(k a:Nat):List Mv:=(range d.length).flatMap (Qe d k a)
def Qf(d:zt)(k:Nat):List Mv:=(range d.length).flatMap (JK d k)
def QX(d:zt):List Mv:=(range 4).flatMap (Qf d)
abbrev XF(m:Mv):List PV:=[.agg (Yf m)]
def Ol(d:zt)(k a b:Nat)(x:d.length<=1048576)(l:∀t∈d,t.length<=1000)(hk:k<=3)(z:a<d.length)(hb:b<d.length):
  cS prog 332 (λy=>[.agg [L d],.agg [I k,I a,I b,I 0,I 0],x9 y]) ((Qe d k a b).map XF) (B true):=by
 refine oF func332 EF rfl ntmps332 (congrArg Array.toList results332) EA λy V keep nx J a2 hY A0 a3=>?_;obtain⟨ta,xa,a1,-,-,a0⟩:=zH rfl d a z;obtain⟨g,xb,b1,-,-,b0⟩:=zH rfl d b hb;have a4:1<=d.length-a:=D9;have a5:1<=d.length-b:=D9;have la:jy d a=ta.length:=by unfold jy;rw[Aa,a1];rfl
 have lb:jy d b=g.length:=by unfold jy;rw[Aa,b1];rfl
 have a8:=l ta (Ab a1);have a9:=l g (Ab b1);have r:∀t∈d,t.length<=1048576:=λt ht=>AF (l t ht) EG;have m:=λi j (hi:i<=1048576) (hj:j<=1048576)=>gR d ⟨k,a,b,i,j⟩ x r hk z hb hi hj;have s:Qe d k a b=(range (ta.length+1)).flatMap (YE d k a b):=by unfold Qe;rw[la]
 have h:∀i,YE d k a b i=(range (g.length+1)).filterMap (QW d k a b i):=λi=>by unfold YE;rw[lb]
 rw[s]at hY ⊢;clear s la lb;refine EJ ?_;intro v0 v1;refine ze (EJ ?_);refine zn (xC (σ:=Nat × Int × Store) (λs'=>s'.1<=ta.length+1/\J ((range s'.1).flatMap (YE d k a b)).length s'.2.2) (λs'=>[(2,x9 y),(3,.ptr nx v0 0),(4,.ptr (nx+1) v1 0)]) (λs'=>s'.2.2)
  (λ(i,jv,_)=>[.cells v0 96 [L d],.cells v1 340 [I k,I a,I b,I i,I jv]]) (λs'=>ta.length+1-s'.1) (zY (0,0,A0) [] (by simpa using a3) EA rfl EA) ?_)
 rintro⟨i,jv,A⟩ ⟨hi,c⟩;simp only at hi c ⊢;refine ze (aG (some [nx,nx+1]) Rl (zD a0 z a4) ?_);refine zA rfl (λhc=>?_) (λhc=>?_);simp at hc;have a6:=dh (YE d k a b) i;refine zk (aA (EJ ?_));refine zn (xC (σ:=Nat × Store) (λs'=>s'.1<=g.length+1/\J (((range i).flatMap (YE d k a b)).length+((range s'.1).filterMap (QW d k a b i)).length) s'.2) (λs'=>[(2,x9 y),(3,.ptr nx v0 0),(4,.ptr (nx+1) v1 0)]) (λs'=>s'.2)
  (λ(j,_)=>[.cells v0 96 [L d],.cells v1 340 [I k,I a,I b,I i,I j]]) (λs'=>g.length+1-s'.1) (zY (0,A) [] (by simpa using c) EA rfl EA) ?_)
 clear c A jv;rintro⟨j,A⟩ ⟨hj,c⟩;simp only at hj c ⊢;refine ze (aG (some [nx,nx+1]) Rl (zD b0 hb a5) ?_);refine zA rfl (λo=>?_) (λo=>?_)
 .simp at o;have e:=m i j D9 D9;have wj:=zy j D9;refine zk (aA ?_);cases hm:vw d ⟨k,a,b,i,j⟩ with
  |true =>
  have f:QW d k a b i j=some ⟨k,a,b,i,j⟩:=by unfold QW;rw[if_pos hm]
  have p:Qc d ⟨k,a,b,i,j⟩=((yH d ⟨k,a,b,i,j⟩).1,(yH d ⟨k,a,b,i,j⟩).2,true):=by unfold Qc;rw[if_pos hm]
  rw[p]at e;have u:=oH (n:=g.length+1) D9 f;rw[<-h]at u;have v:=dg (W:=YE d k a b) (n:=ta.length+1) D9 u;have hy:(((range (ta.length+1)).flatMap (YE d k a b)).map XF)[((range i).flatMap (YE d k a b)).length+((range j).filterMap (QW d k a b i)).length]?=some (XF ⟨k,a,b,i,j⟩):=by rw[Ai,v];rfl
  have q:=oJ f;generalize (yH d ⟨k,a,b,i,j⟩).1=r1 at *;generalize (yH d ⟨k,a,b,i,j⟩).2=r2 at *;refine EJ ?_;refine zu e ?_;intro v2 v3;refine aF [(1,50)] n' ?_;refine λw=>Ww rfl rfl rfl (hY _ _ _ _ hy c) ?_;rintro _ ⟨A',a7,rfl⟩;refine⟨_,_,rfl,xQ [(1,50)] trivial w ?_⟩;refine zp rfl (zk (zg ?_));exact zv (j+1,A') [_,_] ⟨by simp;omega,by rw[q];exact a7⟩ ED EA rfl (by simp[wj];exact⟨rfl,rfl⟩)
  |false =>
  have f:QW d k a b i j=none:=by unfold QW;rw[if_neg (by simp[hm])]
  have p:Qc d ⟨k,a,b,i,j⟩=(wQ,wQ,false):=by unfold Qc;rw[if_neg (by simp[hm])]
  rw[p]at e;have q:=oI f;generalize wQ=r0 at *;refine EJ ?_;refine zu e ?_;intro v2 v3;refine aF [(1,50)] zz ?_;refine zp rfl (zk (zg ?_));exact zv (j+1,A) [_,_] ⟨by simp;omega,by rw[q];exact c⟩ ED EA rfl (by simp[wj];exact⟨rfl,rfl⟩)
 simp at o;obtain rfl:j=g.length+1:=D9;rw[<-h,<-a6]at c;refine zB ?_;have wi:=zy i D9;refine zg ?_;exact zv (i+1,((g.length+1:Nat):Int),A) [] ⟨by simp;omega,c⟩ ED EA rfl (by simp[wi]);simp at hc;obtain rfl:i=ta.length+1:=D9;refine zB (EJ ?_);exact zj (cT (a2 _ _ c) EB (by simp[zr]) (by simpa using c))
def Om(d:zt):PP 317 [.agg [L d]] (.fn (.func 330) [] [.ip [L d]]):=by refine c9 func317 λS nx a=>?_;intro v0;refine EJ ?_;refine vt 0 rfl ?_;exact EK a
def On(d:zt)(a3:d.length<=1000)(r:∀t∈d,t.length<=1000):Jv prog 330 [.ip [L d]] ((QX d).map XF):=by
 have s:=λk a b (u:k<=3) (v:a<d.length) (hb:b<d.length)=>Ol d k a b D9 r u v hb;have c:=pI;generalize da=kl at c;refine VQ func330 EF rfl ntmps330 (congrArg Array.toList results330) EA λl V keep nx J w hY A0 y=>?_;refine EJ ?_;refine zu c ?_;refine zn (xC (σ:=Nat × Store) (λs'=>s'.1<=4/\J ((range s'.1).flatMap (Qf d)).length s'.2) (λs'=>[(0,x9 l),(1,.ip [L d]),(7,I s'.1)]) (λs'=>s'.2) (λ_=>[]) (λs'=>4-s'.1) (zY (0,A0) [] (by simpa using y) EA rfl EA) ?_);rintro⟨k,A⟩ ⟨u,e⟩;simp only at u e ⊢;by_cases j:k<4;have o:(k:Int)<4:=D9;have z:=dh (Qf d) k;refine aF [] o ?_;refine ze (zo rfl (zk (aA (EJ ?_))));refine EJ ?_;refine zn (xC (σ:=Nat × Store) (λs'=>s'.1<=d.length/\J (((range k).flatMap (Qf d)).length+((range s'.1).flatMap (JK d k)).length) s'.2) (λs'=>[(0,x9 l),(1,.ip [L d]),(3,I k),(7,I k),(12,I d.length),(13,I s'.1)]) (λs'=>s'.2) (λ_=>[]) (λs'=>d.length-s'.1) (zY (0,A) [] (by simpa using e) EA rfl EA) ?_);clear e A;rintro⟨a,A⟩ ⟨v,e⟩;simp only at v e ⊢;refine EJ ?_;refine ze (zA rfl (λf=>?_) (λf=>?_));simp at f;have a0:=dh (JK d k) a;refine zk (aA (EJ ?_));refine EJ ?_;refine zn (xC (σ:=Nat × Store) (λs'=>s'.1<=d.length/\J (((range k).flatMap (Qf d)).length+((range a).flatMap (JK d k)).length+((range s'.1).flatMap (Qe d k a)).length) s'.2) (λs'=>[(0,x9 l),(1,.ip [L d]),(3,I k),(4,I a),(7,I k),(12,I d.length),(13,I a),(18,I d.length),(19,I s'.1)]) (λs'=>s'.2) (λ_=>[]) (λs'=>d.length-s'.1) (zY (0,A) [] (by simpa using e) EA rfl EA) ?_);clear e A;rintro⟨b,A⟩ ⟨hb,e⟩;simp only at hb e ⊢;refine EJ ?_;refine ze (zA rfl (λg=>?_) (λg=>?_));simp at g;have hw:=s k a b D9 f g;have a1:=dh (Qe d k a) b;have a2:∀(i:Nat) (x:List PV),((Qe d k a b).map XF)[i]?=some x->((QX d).map XF)[((range k).flatMap (Qf d)).length+((range a).flatMap (JK d k)).length+((range b).flatMap (Qe d k a)).length+i]?=some x:=by intro i x hx;rw[Ai]at hx ⊢;obtain⟨m,hm,rfl⟩:=Al.1 hx;have e1:=dg (W:=Qe d k a) (n:=d.length) g hm;have e2:=dg (W:=JK d k) (n:=d.length) f e1;have e3:=dg (W:=Qf d) (n:=4) j e2;rw[Nat.add_assoc,Nat.add_assoc];unfold QX;rw[e3];rfl
 refine zk (aA (EJ ?_));refine EJ ?_;refine λp=>((oG hw keep hY _ a2 e _).mono ?_);rintro _ _ ⟨A',rfl,q,rfl⟩;rw[length_map,Nat.add_assoc,<-a1]at q;refine⟨_,_,rfl,zS p ?_⟩;refine zp rfl (zk (zg ?_));exact zv (b+1,A') [] ⟨g,q⟩ ED (by simp[zy b D9]) rfl EA;simp at g;obtain rfl:b=d.length:=D9;refine zB ?_;have h:J (((range k).flatMap (Qf d)).length+((range (a+1)).flatMap (JK d k)).length) A:=by rw[a0,<-Nat.add_assoc];exact e
 refine zg ?_;exact zv (a+1,A) [] ⟨f,h⟩ ED (by simp[zy a D9]) rfl EA;simp at f;obtain rfl:a=d.length:=D9;refine zB ?_;have h:J ((range (k+1)).flatMap (Qf d)).length A:=by rw[z];exact e
 refine zg ?_;exact zv (k+1,A) [] ⟨j,h⟩ ED (by simp[zy k D9]) rfl EA;obtain rfl:k=4:=D9;refine EJ ?_;refine ze (zp rfl (zB (Ya (w _ _ e) rfl ?_)));rw[length_map];exact e
def XG{m:Mv}(h:vw d m=true):m.k<=3/\m.a<d.length/\m.b<d.length/\ZR d (yH d m).1/\ZR d (yH d m).2:=by unfold vw at h;rw[Ar]at h;obtain⟨h1,h2⟩:=h;have h1:=of_decide_eq_true h1;refine⟨h1.1,h1.2.1,h1.2.2,?_⟩;unfold uP at h2;unfold yH wR;have n:=NN d;have key:∀p:Pc,WM d p<->(p.f<p.o->p.t<d.length/\p.o<=jy d p.t):=λ_=>Iff.rfl;by_cases k0:m.k=0;rw[if_pos k0]at h2 ⊢;have h2:=of_decide_eq_true h2;refine⟨?_,n⟩;intro p e;simp only[Rw5.l,Am,A9,or_false]at e;obtain rfl|rfl|rfl|rfl|rfl:=e<;>refine(key _).2 ?_<;>simp only[qh]<;>omega;rw[if_neg k0]at h2 ⊢;by_cases k1:m.k=1;rw[if_pos k1]at h2 ⊢;have h2:=of_decide_eq_true h2;by_cases c:m.a=m.b;rw[if_pos c,c]at h2;rw[if_neg (by simp[c])];by_cases g:m.i<m.j;rw[if_pos g];refine⟨?_,n⟩;intro p e;simp only[Rw5.l,Am,A9,or_false]at e;obtain rfl|rfl|rfl|rfl|rfl:=e<;>refine(key _).2 ?_<;>simp only[qh]<;>(try rw[c])<;>omega;rw[if_neg g];refine⟨?_,n⟩;intro p e;simp only[Rw5.l,Am,A9,or_false]at e;obtain rfl|rfl|rfl|rfl|rfl:=e<;>refine(key _).2 ?_<;>simp only[qh]<;>(try rw[c])<;>omega;rw[if_neg c]at h2;rw[if_pos c];constructor<;>intro p e<;>simp only[Rw5.l,Am,A9,or_false]at e<;>obtain rfl|rfl|rfl|rfl|rfl:=e<;>refine(key _).2 ?_<;>simp only[qh]<;>omega;rw[if_neg k1]at h2 ⊢;by_cases q:m.k=2;rw[if_pos q]at h2 ⊢;have h2:=of_decide_eq_true h2;by_cases c:m.a=m.b;rw[if_pos c];rw[c]at h2;refine⟨?_,n⟩;intro p e;simp only[Rw5.l,Am,A9,or_false]at e;obtain rfl|rfl|rfl|rfl|rfl:=e<;>refine(key _).2 ?_<;>simp only[qh,c]<;>omega;rw[if_neg c];constructor<;>intro p e<;>simp only[Rw5.l,Am,A9,or_false]at e<;>obtain rfl|rfl|rfl|rfl|rfl:=e<;>refine(key _).2 ?_<;>simp only[qh]<;>omega;rw[if_neg q]at h2 ⊢;have h2:=of_decide_eq_true h2;constructor<;>intro p e<;>simp only[Rw5.l,Am,A9,or_false]at e<;>obtain rfl|rfl|rfl|rfl|rfl:=e<;>refine(key _).2 ?_<;>simp only[qh]<;>omega
def ic{m:Mv}:m∈QX d->vw d m=true/\m.i<=jy d m.a/\m.j<=jy d m.b:=by unfold QX Qf JK Qe YE QW;intro h;simp only[Bz,AI,Cm]at h;obtain⟨k,c,a,e,b,hb,i,hi,j,f,h⟩:=h;split at h;rename_i hm;cases h;exact⟨hm,by simp only;omega,by simp only;omega⟩;cases h
def WT:Mv:=⟨0,0,0,0,0⟩
def uu(x:Inst)(d:zt)(r:Rw5):Prop:=JJ d r<=x.R/\vO x d r<=x.len
instance (x:Inst) (d:zt) (r:Rw5):Decidable (uu x d r):=by unfold uu;infer_instance
def JL(x:Inst)(d:zt)(m:Mv):Int:=ap x d m (yH d m).1 (yH d m).2
def JM(x:Inst)(d:zt)(st:Mv × Int)(m:Mv):Mv × Int:=if JL x d m<st.2/\uu x d (yH d m).1/\uu x d (yH d m).2 then (m,JL x d m) else st
def uQ(x:Inst)(d:zt):Mv × Int:=(QX d).foldl (JM x d) (WT,0)
def Oo(x:Inst)(d:zt)(hx:jk x)(h:MvDay d):PP 293 [.agg (zE x),.agg [L d]] (.tup [.agg (Yf (uQ x d).1),I (uQ x d).2,B (decide ((uQ x d).2<0))]):=by
 have u:=h.n;have hit:=On d u h.t;have r:=Oe x d hx h;have o:∀m∈QX d,PP 318 [.agg [L d],.agg (Yf m)] (.tup [.agg (yL (yH d m).1),.agg (yL (yH d m).2),B true])/\PP 319 [.ip (ZS x d),.agg (Yf m),.agg (yL (yH d m).1),.agg (yL (yH d m).2)] (I (JL x d m)) /\
   PP 320 [.ip (ZS x d),.agg (yL (yH d m).1)] (B (decide (uu x d (yH d m).1)))/\PP 320 [.ip (ZS x d),.agg (yL (yH d m).2)] (B (decide (uu x d (yH d m).2))):=by
  intro m hm;obtain⟨h1,h2,h3⟩:=ic hm;obtain⟨hk,w,hb,r1,r2⟩:=XG h1;have hl:∀a,jy d a<=1000:=by
   intro a;unfold jy;rw[Aa];cases hq:d[a]? with
   |none=>simp
   |some l=>exact h.t l (Ab hq)
  have a0:=hl m.a;have a1:=hl m.b;have s:=gR d m D9 (λt ht=>AF (h.t t ht) EG) hk w hb D9 D9;unfold Qc at s;rw[if_pos h1]at s;exact⟨s,Oj x d m _ _ hx h r1 r2 w hb,qs x d _ hx h r1,qs x d _ hx h r2⟩
 unfold uQ;generalize QX d=xs at *;generalize ZS x d=rd at *;have v:=Om d;refine c9 func293 λS nx hd=>?_;intro v0 v1 z;refine EJ ?_;refine zu r ?_;intro v3;refine EJ ?_;intro v4 v5;refine ze (EJ ?_);refine zu v ?_;refine zn (Xp (xs:=xs.map XF) (σ:=Mv × Int) (λi st=>st=(xs.take i).foldl (JM x d) (WT,0)) [(2,.ptr nx v0 0),(3,.ptr (nx+1) v1 0),(4,.ptr (nx+2) z 0),(7,.ptr (nx+3) v3 0),(8,.ptr (nx+4) v4 0),(9,.ptr (nx+5) v5 0)] (λ_=>S)
  (λ(b,g)=>[.cells v0 25 (zE x),.cells v1 96 [L d],.cells z 340 [I 0,I 0,I 0,I 0,I 0],.cells v3 364 [.ip rd],.cells v4 340 (Yf b),.cells v5 3 [I g]]) (WT,0)
  hit rfl (by intro x hx;obtain⟨y,_,rfl⟩:=Ak.1 hx;rfl) EG EA EA rfl (by simp[WT]) (by simp[WT]) ?_ ?_)
 rintro l i ⟨b,g⟩ more y j hy;simp only at j ⊢;rw[Ai]at hy;obtain⟨m,hm,rfl⟩:=Al.1 hy;have c:=gM (f:=JM x d) (b:=(WT,0)) hm;rw[<-j]at c;obtain⟨f1,f2,f3,f4⟩:=o m (Ab hm);unfold JM at c;simp only at c;generalize (yH d m).1=r1 at *;generalize (yH d m).2=r2 at *;generalize JL x d m=by_ at *;refine zg ?_;intro v6;refine zn (EJ ?_);refine zu f1 ?_;intro v7 v8;refine EJ ?_;refine zu f2 ?_;by_cases k:by_<g;refine aF [(3,37),(8,42)] k ?_;refine yK [(3,37),(8,42)] f3 k ?_;by_cases p:uu x d r1;rw[decide_eq_true p];refine yK [(3,37),(8,42)] f4 k ?_;by_cases q:uu x d r2;rw[if_pos ⟨k,p,q⟩]at c;refine zo (by simp[q]) ?_;refine zg ?_;simp only[xB];exact vJ (m,by_) [_,_,_] c.symm rfl (by simp;exact⟨rfl,rfl,rfl⟩);rw[if_neg λe=>q e.2.2]at c;refine zp (by simp[q]) ?_;refine zk ?_;simp only[xB];exact vJ (b,g) [_,_,_] c.symm rfl (by simp;exact⟨rfl,rfl,rfl⟩);rw[decide_eq_false p];rw[if_neg λe=>p e.2.1]at c;refine zp rfl (zk ?_);simp only[xB];exact vJ (b,g) [_,_,_] c.symm rfl (by simp;exact⟨rfl,rfl,rfl⟩);rw[if_neg λe=>k e.1]at c;refine aF [(3,37),(8,42)] (zq k zz) ?_;refine zp rfl (zk ?_);simp only[xB];exact vJ (b,g) [_,_,_] c.symm rfl (by simp;exact⟨rfl,rfl,rfl⟩);rintro⟨b,g⟩ j;rw[Ad EA]at j;simp only at j ⊢;rw[<-j];refine aG (some [nx+4,nx+5]) (pures [0,1,2,3] (.alt 4 U9 .stop)) n' ?_;exact zj (zm hd EB (by simp[zr]))
def vx(d:zt)(m:Mv)(i:Nat):zT:=if i=m.a then qL d (yH d m).1 else if i=m.b then qL d (yH d m).2 else d.getD i []
def we(d:zt)(m:Mv)(i:Nat):Option zT:=if (vx d m i).length=0 then none else some (vx d m i)
def uR(d:zt)(m:Mv):zt:=(range d.length).filterMap (we d m)
def re{r:Rw5}(h:∀t∈d,t.length<=k):(qL d r).length<=5*k:=by have h1:=λp=>pK (d:=d) (p:=p) h;have f:=h1 r.a;have g:=h1 r.b;have a3:=h1 r.c;have a4:=h1 r.d;have a5:=h1 r.e;unfold qL Rw5.l;simp only[AB,Cv,length_append,Ay];omega
def Oq(x:Inst)(d:zt)(m:Mv)(a7:d.length<=1000)(g:∀t∈d,t.length<=1000)(hm:vw d m=true)(hi:m.i<=1048576)(hj:m.j<=1048576):PP 294 [.agg (zE x),.agg [L d],.agg (Yf m)] (.tup [.agg [L (uR d m)],I 0]):=by
 obtain⟨hk,ha,hb,r1,r2⟩:=XG hm;have n:=gR d m D9 (λt ht=>AF (g t ht) EG) hk ha hb hi hj;unfold Qc at n;rw[if_pos hm]at n;have g1:=pL d _ D9 g r1;have g2:=pL d _ D9 g r2;have n1:=re (r:=(yH d m).1) g;have n2:=re (r:=(yH d m).2) g;have u:∀i,vx d m i=if i=m.a then qL d (yH d m).1 else if i=m.b then qL d (yH d m).2 else d.getD i []:=λ_=>rfl;generalize qL d (yH d m).1=t1 at *;generalize qL d (yH d m).2=t2 at *;generalize (yH d m).1=c1 at *;generalize (yH d m).2=c2 at *;have o:uR d m=(range d.length).filterMap (we d m):=rfl;rw[o];clear o;refine c9 func294 λS nx hd=>?_;intro v0 v1 q v3;refine EJ ?_;refine zu n ?_;intro v4 v5;refine ze (EJ ?_);refine zp rfl (zk (EJ ?_));intro s;refine qj 6 0 99 1 rfl rfl λl=>?_;refine ze (EJ ?_);refine zn (zF (λs':Nat × Nat=>s'.1<=d.length) (λ(k,l)=>[(4,.ptr (nx+1) v1 0),(5,.ptr (nx+2) q 0),(6,.ptr (nx+3) v3 0),(8,.ptr (nx+4) v4 0),(9,.ptr (nx+5) v5 0),(11,.ptr (nx+6) s 0),(26,L d),(27,I d.length),(28,I k)])
  (λ(k,l)=>[.cells v0 25 (zE x),.cells v1 96 [L d],.cells q 340 (Yf m),.cells v3 96 [yI],.cells v4 372 (yL c1),.cells v5 372 (yL c2),.cells s 96 [.sl (nx+7) l 1 0 ((range k).filterMap (we d m)).length],.cells l 99 (((range k).filterMap (we d m)).flatMap enc)]) (λs'=>d.length-s'.1) (0,l) [] EA EA EA ?_)
 rintro⟨k,l⟩ v;simp only at v ⊢;refine EJ ?_;refine ze (zA rfl (λhc=>?_) (λhc=>?_))
 .simp at hc;obtain⟨t,tl,a1,a2,a3,e0⟩:=zH rfl d k hc;have w:1<=d.length-k:=D9;have a8:=g t (Ab a1);have p:=cR t D9;have y:d.getD k []=t:=by rw[Aa,a1];rfl
  have c:=u k;have a6:((range k).filterMap (we d m)).length<=k:=by have:=CN (we d m) (range k);simpa using this
  have f:(range (k+1)).filterMap (we d m)=(range k).filterMap (we d m)++(we d m k).toList:=by rw[AO,B7];simp only[List.filterMap_cons,List.filterMap_nil];cases we d m k<;>rfl
  have hT1:we d m k=if (vx d m k).length=0 then none else some (vx d m k):=rfl;rw[y]at c;have a9:(vx d m k).length<=5000:=by rw[c];(repeat' split)<;>omega
  have z:(((range k).filterMap (we d m)).flatMap enc:List PV).length=((range k).filterMap (we d m)).length:=qJ _;generalize (range k).filterMap (we d m)=out at *;have a0:(out.flatMap enc:List PV).take out.length=out.flatMap enc:=Ad D9;have wk:=zy k D9;refine zk (aA (aF [] (zD e0 hc w) ?_));intro v8;refine EJ ?_;refine zu p ?_;refine ze (EJ ?_);refine qg (nx:=nx) (λ_:Unit=>True) (λ_=>[(4,.ptr (nx+1) v1 0),(5,.ptr (nx+2) q 0),(6,.ptr (nx+3) v3 0),(8,.ptr (nx+4) v4 0),(9,.ptr (nx+5) v5 0),(11,.ptr (nx+6) s 0),(14,L (vx d m k)),(26,L d),(27,I d.length),(28,I k)]) (λ_=>S)
   (λ_=>[.cells v0 25 (zE x),.cells v1 96 [L d],.cells q 340 (Yf m),.cells v3 96 [yI],.cells v4 372 (yL c1),.cells v5 372 (yL c2),.cells s 96 [.sl (nx+7) l 1 0 out.length],.cells l 99 (out.flatMap enc),.cells v8 99 [L t]]) ?_ ?_
  refine zn ?_;by_cases h1:k=m.a;rw[if_pos h1]at c;have a4:(k:Int)=m.a:=D9;rw[c];refine EJ ?_;refine zo ED ?_;refine zg ?_;refine zu g1 ?_;simp only[xB];exact zY () [] n' EA rfl EA;rw[if_neg h1]at c;have a4:¬(k:Int)=m.a:=D9;refine EJ ?_;refine zp ED ?_;by_cases h2:k=m.b;rw[if_pos h2]at c;have a5:(k:Int)=m.b:=D9;rw[c];refine EJ ?_;refine zo ED ?_;refine zg ?_;refine zu g2 ?_;simp only[xB];exact zY () [] n' EA rfl EA;rw[if_neg h2]at c;have a5:¬(k:Int)=m.b:=D9;rw[c];refine EJ ?_;refine zp ED ?_;refine zk ?_;simp only[xB];exact zY () [] n' EA rfl EA;rintro⟨⟩ -;generalize vx d m k=tt at *;clear c p e0;by_cases h0:tt.length=0;have e:(we d m k).toList=[]:=by rw[hT1,if_pos h0];rfl
  have h:¬0<tt.length:=D9;refine aF [] h ?_;refine zp (by simp[h]) ?_;refine zk (zg ?_);exact zv (k+1,l) [_] ED ED (by simp[wk,f,e]) rfl (by simp[f,e];rfl);have e:(we d m k).toList=[tt]:=by rw[hT1,if_neg h0];rfl
  have h:0<tt.length:=D9;refine aF [] h ?_;refine zo (by simp[h]) ?_;refine zi [] (zq z a0) ?_;refine⟨by omega,?_⟩;refine zg ?_;exact zv (k+1,l+1) [_] ED ED (by simp[wk,f,e]) rfl (by simp[f,e];rfl)
 simp at hc;obtain rfl:k=d.length:=D9;refine zB (yc 7 rfl ?_);refine EJ ?_;exact zj (zm hd EB (by simp[zr]))
def XH(d:zt)(s:Stop)(t k:Nat):Nat:=((d.getD t []).take k).count s
def ie(d:zt)(s:Stop)(t:Nat):XH d s t 0=0:=by simp[XH]
def rf(d:zt)(s:Stop)(t:Nat):XH d s t (jy d t)=(d.getD t []).count s:=by simp[XH,jy]
def Ot(d:zt)(s:Stop)(p:Pc):p.f<=p.o->(jm d p).count s+XH d s p.t p.f=XH d s p.t p.o:=by intro h;unfold jm XH;generalize d.getD p.t []=u;by_cases hf:p.f<p.o;rw[if_pos hf,show p.o=p.f+(p.o-p.f) by omega,List.take_add,List.count_append,show p.f+(p.o-p.f)-p.f=p.o-p.f by omega];cases p.b;rw[cond_false];omega;rw[cond_true,List.count_reverse];omega;grind
def rg(d:zt)(s:Stop)(r:Rw5):(qL d r).count s=(jm d r.a).count s+(jm d r.b).count s+(jm d r.c).count s+(jm d r.d).count s+(jm d r.e).count s:=by grind[qL,Rw5.l]
def Ou{m:Mv}(h:vw d m=true)(s:Stop):(qL d (yH d m).1).count s+(if m.a=m.b then 0 else (qL d (yH d m).2).count s)=(d.getD m.a []).count s+(if m.a=m.b then 0 else (d.getD m.b []).count s):=by unfold vw at h;rw[Ar]at h;obtain⟨-,h2⟩:=h;unfold uP at h2;unfold yH wR;have c:=ie d s;have e:=ie d s m.a;have f:=ie d s m.b;have g:=rf d s m.a;have i:=rf d s m.b;have key:=Ot d s;rw[rg,rg];grind[qh]
variable {u:zT}
theorem Ov(t:zT)(h:d[i]?=some u)(s:Stop):(d.set i t).flatten.count s+u.count s=t.count s+d.flatten.count s:=by grind[List.drop_eq_getElem_cons,take_append_drop,List.set_eq_take_append_cons_drop]
def ig(t:zT)(h:d[i]?=some u)(x:Inst):yl x (d.set i t)+yT x (u.map (·.c))=yT x (t.map (·.c))+yl x d:=by grind[List.drop_eq_getElem_cons,take_append_drop,yl,List.set_eq_take_append_cons_drop]
theorem rh(d:zt)(m:Mv):(range d.length).map (vx d m)=(d.set m.b (qL d (yH d m).2)).set m.a (qL d (yH d m).1):=by refine A3 λi=>?_;grind[vx]
theorem ii(d:zt)(m:Mv):∀l:List Nat,(l.filterMap (we d m)).flatten=(l.map (vx d m)).flatten/\∀x,yl x (l.filterMap (we d m))=yl x (l.map (vx d m))
 |[]=>⟨rfl,λ_=>rfl⟩
 |i::l=>by obtain⟨h1,h2⟩:=ii d m l;have e:we d m i=if (vx d m i).length=0 then none else some (vx d m i):=rfl;rw[List.filterMap_cons,e,Aw];by_cases h:(vx d m i).length=0;rw[if_pos h,Ct.1 h];refine⟨by simpa using h1,λx=>?_⟩;have:=h2 x;unfold yl at this ⊢;simpa[yT] using this;simp_all[yl]
def Ow{m:Mv}{t:zT}(h:t∈uR d m):t≠[]/\(t=qL d (yH d m).1\/t=qL d (yH d m).2\/t∈d):=by grind[uR,we,vx]
def Ox(d:zt)(m:Mv):(uR d m).length<=d.length:=by grind[uR]
def ri{m:Mv}(h:vw d m=true):(uR d m).flatten.Perm d.flatten:=by obtain⟨-,a,hb,-,-⟩:=XG h;refine List.perm_iff_count.2 λs=>?_;have hc:=Ou h s;unfold uR;grind[ii,rh,Ov]
theorem Oy{m:Mv}(h:vw d m=true)(h0:arc x 0 0=0):yl x (uR d m)=yl x d+JL x d m:=by
 obtain⟨-,k,hb,r1,r2⟩:=XG h;unfold uR JL ap;rw[(ii d m _).2,rh,gZ r1 h0,gZ r2 h0];obtain⟨j,f⟩:∃u,d[m.a]?=some u:=⟨_,Ac k⟩;obtain⟨l,g⟩:∃u,d[m.b]?=some u:=⟨_,Ac hb⟩;have n:d.getD m.a []=j:=by rw[Aa,f];rfl
 have o:d.getD m.b []=l:=by rw[Aa,g];rfl
 rw[n,o];generalize qL d (yH d m).1=t1 at *;generalize qL d (yH d m).2=t2 at *
 by_cases c:m.a=m.b;rw[if_pos c,<-c,List.set_set];have:=ig t1 f x;omega;rw[if_neg c];have h1:=ig t2 g x;have h2:=ig (d:=d.set m.b t2) (i:=m.a) (u:=j) t1 (by rw[A6 (λe=>c e.symm)];exact f) x;omega
theorem ij(x:Inst):∀(ds:List zt) (st:zt × Int × Bool),(ds.foldl (uL x) st).2.2=true->ds.foldl (uL x) st=st\/(∃d∈ds,yx x d=0/\ds.foldl (uL x) st=(d,W (yl x d),true))
 |[],st,_=>.inl rfl
 |d::ds,st,h=>by rw[Ba]at h ⊢;obtain e|⟨a,h1,h2,h3⟩:=ij x ds _ h;rw[e];unfold uL;split;rename_i h0;split;exact .inr ⟨d,by simp,h0,rfl⟩;exact .inl rfl;exact .inl rfl;exact .inr ⟨a,by simp[h1],h2,h3⟩
def Oz{e:Int}{ds:List zt}(h:(uM x e ds).2=0):e=0/\(uM x e ds).1∈ds/\yx x (uM x e ds).1=0:=by
 unfold uM at h ⊢;by_cases a:e=0
 .rw[if_pos a]at h ⊢;cases b:(JC x ds).2.2 with
  |false=>rw[b]at h;cases h
  |true =>
  refine⟨a,?_⟩;obtain q|⟨d,h1,h2,h3⟩:=ij x ds ([],0,false) b;have:(JC x ds).2.2=false:=by unfold JC;rw[q]
  rw[this]at b;cases b;have:JC x ds=(d,W (yl x d),true):=h3;rw[this];exact⟨h1,h2⟩
 rw[if_neg a]at h;exact absurd h a
def rj(x:Inst):jk (yW x):=by refine Nv λrow c d e=>?_;simp only[yW,Ak]at c;obtain⟨a,_,rfl⟩:=c;unfold Zj at e;obtain⟨b,_,rfl⟩:=Ak.1 e;split;have:=wP (arc x a b) 0 60 D9;omega;omega
def OA(x:Inst):0<=(yW x).U:=(wP x.U 0 5 D9).1
structure SG (x:Inst) (l:List Stop) (d:zt):Prop where
 ab:∀t∈d,yd x t=0
 perm:d.flatten.Perm l
def rm(x:Inst)(t:zT):Prop:=(∀s∈t,jx x s=true)/\(t.map (·.c)).Nodup/\t.length<=1000
def ik{t:zT}(h:yd x t=0):(∀s∈t,jx x s=true)/\t≠[]:=by simp_all[WH,jH]
theorem im:∀t:zT,(∀s∈t,jx x s=true)->0<=yg t/\yg t<=2147483648*(t.length:Int)
 |[],_=>by simp[yg]
 |s::t,h=>by have h1:=im t λs hs=>h s (by simp[hs]);have h2:=h s EA;grind[jx,yg]
def aq(hx:jk x){t:zT}(h:rm x t)(hn:t≠[]):yd x t=0<->yg t<=x.R/\yT x (t.map (·.c))<=x.len:=by obtain⟨h1,h2,h3⟩:=h;have b1:=im t h1;have b2:=WI hx (t.map (·.c));grind[wr,WH,jH]
theorem SG.each{l:List Stop}(g:SG x l d):∀s∈l,jx x s=true:=by intro s hs;obtain⟨t,b,a⟩:=BA.1 (g.perm.symm.subset hs);exact(ik (g.ab t b)).1 s a
section
variable {x:Inst} {l:List Stop} (h:SOk x l)
include h
theorem SG.len(g:SG x l d):d.flatten.length<=1000/\d.length<=1000:=by have h1:=cU d λt a=>(ik (g.ab t a)).2;have h2:=g.perm.length_eq;have h3:=h.len;omega
theorem SG.tour(g:SG x l d){e:zt}(a:e.flatten.Perm l){t:zT}(b:t∈e):rm x t:=by have hs:=QQ b;have hl:=h.len;refine⟨λs q=>g.each s (a.subset (hs.subset q)),?_,?_⟩;exact((a.map _).nodup_iff.2 h.nd).sublist (hs.map _);have:=hs.length_le;have:=a.length_eq;omega
theorem SG.mv(g:SG x l d):MvDay d:=by refine⟨(g.len h).2,λt a=>(g.tour h g.perm a).2.2,λt a s hs=>?_⟩;have:=(g.tour h g.perm a).1 s hs;have hc:=h.y;grind[jx,qz]
theorem SG.ok(g:SG x l d):DayOk d:=by have h1:=g.len h;have h2:=g.mv h;exact⟨by omega,λt a=>AF (h2.t t a) EG,λt a s hs=>(h2.s t a s hs).1⟩
end
def rn{r:Rw5}(a:ZR d r)(h0:arc x 0 0=0):uu x d r<->yg (qL d r)<=x.R/\yT x ((qL d r).map (·.c))<=x.len:=by simp_all[uu,gZ,Oh]
def OB{m:Mv}(h:vw d m=true)(c:m.a=m.b):qL d (yH d m).2=[]:=by have e:qL d wQ=[]:=rfl;grind[vw,uP,yH,wR]
def OC{m:Mv}(h:vw d m=true)(hn:qL d (yH d m).1≠[]):qL d (yH d m).1∈uR d m:=by obtain⟨-,b,-⟩:=XG h;refine Cm.2 ⟨m.a,AI.2 b,?_⟩;grind[vx,we]
def OD{m:Mv}(h:vw d m=true)(c:m.a≠m.b)(hn:qL d (yH d m).2≠[]):qL d (yH d m).2∈uR d m:=by obtain⟨-,-,hb,-⟩:=XG h;refine Cm.2 ⟨m.b,AI.2 hb,?_⟩;grind[vx,we]
def OE{l:List Stop}(h:SOk x l)(h0:arc x 0 0=0)(g:SG x l d){m:Mv}(hm:vw d m=true):(uu x d (yH d m).1/\uu x d (yH d m).2)<->∀t∈uR d m,yd x t=0:=by
 obtain⟨-,n,hb,r1,r2⟩:=XG hm;have j:(uR d m).flatten.Perm l:=(ri hm).trans g.perm;rw[rn r1 h0,rn r2 h0];have q:0<=x.R/\0<=x.len:=by have e:=g.ab _ (AY n);have i:=g.tour h g.perm (AY n);have:=(aq h.aj i (ik e).2).1 e;have b1:=im _ i.1;have b2:=WI h.aj (d[m.a].map (·.c));omega
 have r:yg []=0/\yT x (([]:zT).map (·.c))=0:=⟨rfl,rfl⟩;constructor;rintro⟨o,p⟩ t e;obtain⟨hn,h3⟩:=Ow e;have i:=g.tour h j e;obtain rfl|rfl|h3:=h3;exact(aq h.aj i hn).2 o;exact(aq h.aj i hn).2 p;exact g.ab t h3;intro f;constructor;by_cases hn:qL d (yH d m).1=[];simp_all;have e:=OC hm hn;exact(aq h.aj (g.tour h j e) hn).1 (f _ e);by_cases hn:qL d (yH d m).2=[];simp_all;by_cases k:m.a=m.b;simp_all[OB];have e:=OD hm k hn;exact(aq h.aj (g.tour h j e) hn).1 (f _ e)
theorem ro(x:Inst)(d:zt):∀(ms:List Mv) (st:Mv × Int),(ms.foldl (JM x d) st=st)\/(∃m∈ms,(ms.foldl (JM x d) st)=(m,JL x d m)/\uu x d (yH d m).1/\uu x d (yH d m).2)
 |[],st=>.inl rfl
 |m::ms,st=>by rw[Ba];obtain e|⟨a,h1,h2,h3⟩:=ro x d ms (JM x d st m);rw[e];unfold JM;split;rename_i hc;exact .inr ⟨m,by simp,rfl,hc.2⟩;exact .inl rfl;grind
def Zs(x:Inst)(d:zt):Option zt:=if (uQ x d).2<0 then some (uR d (uQ x d).1) else none
def rp(hb:(uQ x d).2<0):(uQ x d).1∈QX d/\JL x d (uQ x d).1<0/\uu x d (yH d (uQ x d).1).1/\uu x d (yH d (uQ x d).1).2:=by grind[ro,uQ]
def rq{l:List Stop}(h:SOk x l)(h0:arc x 0 0=0){e:zt}(g:SG x l d)(hs:Zs x d=some e):SG x l e/\yl x e<yl x d/\e.length<=d.length:=by unfold Zs at hs;split at hs;rename_i hb;cases hs;obtain⟨h1,h2,h3⟩:=rp hb;have hm:=(ic h1).1;refine⟨⟨(OE h h0 g hm).1 h3,(ri hm).trans g.perm⟩,?_,Ox _ _⟩;grind[Oy];cases hs
def rt{l:List Stop}(h:SOk x l)(h0:arc x 0 0=0):pG x (Zs x) (SG x l):=by
 intro d g;have hv:=g.mv h;have hl:∀a,jy d a<=1000:=by
  intro a;unfold jy;rw[Aa];cases i:d[a]? with
  |none=>simp
  |some l=>exact hv.t l (Ab i)
 have f:(Zs x d).isSome=decide ((uQ x d).2<0):=by unfold Zs;split;simp_all;simp_all
 refine⟨_,_,_,_,_,_,by rw[f];exact Oo x d h.aj hv,λe c=>⟨?_,(rq h h0 g c).1⟩⟩;unfold Zs at c;split at c;rename_i hb;cases c;obtain⟨h1,-,-⟩:=rp hb;obtain⟨h1,h2,h3⟩:=ic h1;have:=hl (uQ x d).1.a;have:=hl (uQ x d).1.b;exact Oq x d _ hv.n hv.t h1 D9 D9;cases c
theorem di{l:List Stop}(h:SOk x l)(h0:arc x 0 0=0):∀(n:Nat) (d:zt),SG x l d->SG x l (ur (Zs x) n d)/\yl x (ur (Zs x) n d)<=yl x d/\(ur (Zs x) n d).length<=d.length
 |0,d,g=>⟨g,Do _,Ag _⟩
 |n+1,d,g=>by
  unfold ur;cases hs:Zs x d with
  |none=>simp_all
  |some e =>
  obtain⟨a,b,c⟩:=rq h h0 g hs;obtain⟨a',b',f⟩:=di h h0 n e a;grind
def rv(x:Inst):arc (yW x) 0 0=0:=by simp[yW,Zj,arc]
def rz{l:List Stop}(h:vK x l=0):∀s∈l,yd x [s]=0:=by grind[vK]
def OF{l:List Stop}(h:SOk x l)(hf:vK x l=0):∀t∈uo x l,yd x t=0:=by
 have key:∀(ps:List Pr) (st:zt × Int),(∀t∈st.1,t.length<=1\/yd x t=0)->∀t∈(ps.foldl (j6 x) st).1,t.length<=1\/yd x t=0:=by
  intro ps;induction ps with
  |nil=>intro st h;exact h
  |cons p ps g =>
  intro st e;rw[Ba];refine g _ λt d=>?_;unfold j6 V8 at d;generalize Yd st.1 p.a=i at d;generalize Yd st.1 p.b=k at d;generalize st.1.getD i []=a at d;generalize st.1.getD k []=b at d;cases hc:jl x st.2 p i k a b with
  |false=>rw[hc]at d;exact e t d
  |true =>
  rw[hc]at d;simp only[cond_true]at d;unfold jl at hc;simp only[Ar,decide_eq_true_eq]at hc;obtain d|d:=Bo d;rcases Bo d with d|d
  exact e t d;rw[d];exact .inr hc.2;rw[d];exact .inl EA
 intro t d;obtain⟨-,j,-,f⟩:=h.join;have hs:=QQ d;have h1:=key (jW x (l.map λs:Stop=>s.c)) (l.map λs=>[s],(l.length:Int)) (λt d=>by obtain⟨s,_,rfl⟩:=Ak.1 d;simp) t (Bu.1 d).1;obtain h1|h1:=h1
 .have:=f t d
  match t,h1,this with
  |[s],_,_=>exact rz hf s (j.subset (hs.subset EA))
 omega
def rA{l:List Stop}(h:SOk x l)(hf:vK x l=0):∀d∈JH x l,SG x l d:=by
 intro d b;unfold JH at b;simp only[cons_append,AK,Am]at b;obtain rfl|rfl|b:=b;exact⟨OF h hf,h.join.2.1⟩;refine⟨λt c=>?_,by rw[h.apart.2.1]⟩;obtain⟨s,hs,rfl⟩:=Ak.1 c;exact rz hf s hs;cases a:(xp x l).2 with
 |false=>simp_all
 |true =>
 rw[a]at b;simp at b;subst b;obtain⟨r,e⟩:=h.regret;exact⟨((uO x _).1 r.ab).1,e a⟩
def uv(x:Inst)(b:Int)(d:zt):zt:=ur (Zs x) b.toNat d
def ZT(x:Inst)(b:Int)(l:List Stop):zt × Int:=uM x (vK x l) (Qd x (uv x b) l)
def OG{l:List Stop}(h:SOk x l)(h0:arc x 0 0=0)(hf:vK x l=0){b:Int}(hb:b<=9223372036854775807):pT x b (uv x b) (JH x l):=by intro d c;have g:=rA h hf d c;obtain⟨a,-,-⟩:=di h h0 b.toNat d g;have o:=g.ok h;refine⟨⟨_,pH x d b (Zs x) (SG x l) hb o.n o.t (λ_=>g) (rt h h0)⟩,a.ok h,?_⟩;have:=(a.len h).1;show (ur (Zs x) b.toNat d).flatten.length<=1048576;omega
def OH{l:List Stop}(h:SOk x l)(h0:arc x 0 0=0){b:Int}(hb:b<=9223372036854775807):PP 261 [.agg (zE x),L l,I b] (.tup [.agg [L (ZT x b l).1],I (ZT x b l).2]) :=
 NX x l b _ h λhf=>OG h h0 hf hb
def OI{l:List Stop}(h:SOk x l)(h0:arc x 0 0=0)(hf:vK x l=0)(b:Int):∀d∈Qd x (uv x b) l,SG x l d:=by
 have hb:=rA h hf;have hi:=λd g=>(di h h0 b.toNat d g).1;intro d c;unfold Qd at c;unfold JH at hb;simp only[cons_append,AK,Am]at c hb;obtain rfl|rfl|rfl|c:=c;simp_all;exact hi _ (hb _ (.inl rfl));exact hi _ (hb _ (.inr (.inl rfl)));cases a:(xp x l).2 with
 |false=>simp_all
 |true =>
 rw[a]at c;simp at c;subst c;exact hi _ (hb _ (.inr (.inr (by rw[a];simp))))
theorem rB(x:Inst):∀(ds:List zt) (st:zt × Int × Bool),(st.2.2=true->(ds.foldl (uL x) st).2.2=true/\(ds.foldl (uL x) st).2.1<=st.2.1)/\∀d∈ds,yx x d=0->(ds.foldl (uL x) st).2.2=true/\(ds.foldl (uL x) st).2.1<=W (yl x d)
 |[],st=>⟨λe=>⟨e,Do _⟩,by simp⟩
 |d::ds,st=>by rw[Ba];obtain⟨h1,h2⟩:=rB x ds (uL x st d);grind[uL]
def OJ{e:Int}{ds:List zt}(c:e=0)(a:d∈ds)(b:yx x d=0):(uM x e ds).2=0/\W (yl x (uM x e ds).1)<=W (yl x d):=by obtain⟨h1,h2⟩:=(rB x ds ([],0,false)).2 d a b;grind[JC,uM,ij]
def OL(x:Inst)(a:zt->zt)(l:List Stop):jI l∈Qd x a l:=by simp[Qd]
section
variable {x:Inst} {l:List Stop} (h:SOk x l) (h0:arc x 0 0=0) (b:Int)
include h h0
def OM(a:(ZT x b l).2=0):vK x l=0/\yx x (ZT x b l).1=0/\(ZT x b l).1.flatten.Perm l/\(yx x (jI l)=0->W (yl x (ZT x b l).1)<=W (yl x (jI l))):=by obtain⟨hf,hm,c⟩:=Oz a;have g:=OI h h0 hf b _ hm;exact⟨hf,c,g.perm,λq=>(OJ hf (OL x _ l) q).2⟩
omit h0 in
end
structure Visit where
 d:Int
 q:Int
 deriving DecidableEq
instance:Inhabited Visit:=⟨⟨0,0⟩⟩
instance:Enc Visit:=⟨λs=>[I s.d,I s.q],2,λ_=>rfl,λ_=>rfl⟩
@[simp] theorem ZCP(s:Visit):enc s=[I s.d,I s.q]:=rfl
@[simp high] theorem ZCQ(l:List Visit):(l.flatMap enc).length=l.length*2:=ju l
@[simp high] theorem ZCR(l:List Visit):(l.flatMap enc).take (l.length*2)=l.flatMap enc:=Yt l
def told:Nat->List zt->List (Stop × Nat)
 |_,[]=>[]
 |i,d::ds=>d.flatten.map (·,i)++told (i+1) ds
def XI(x:Stop × Nat):List PV:=[.agg [I x.1.c,I x.1.q,I x.2]]
def rC(p:zG):PP 66 [.agg [L p]] (.fn (.func 107) [] [.ip [L p]]):=by refine c9 func66 λS nx a=>?_;intro v0;refine EJ ?_;refine vt 0 rfl ?_;exact EK a
def rD(p:zG)(hp:p.length<=1048576)(r:∀d∈p,d.length<=1048576)(u:∀d∈p,∀t∈d,t.length<=1048576):Jv prog 107 [.ip [L p]] ((told 0 p).map XI):=by
 have i:∀(pre rest:List (Stop × Nat)) (x:Stop × Nat),told 0 p=pre++x::rest->((told 0 p).map XI)[pre.length]?=some (XI x):=by intro pre rest x e;rw[e];simp
 refine VQ func107 EF rfl ntmps107 (congrArg Array.toList results107) EA λl V keep nx J n v A0 o=>?_;refine EJ ?_;refine zn (xC (σ:=Nat × Store × List (Stop × Nat)) (λs=>s.1<=p.length/\J s.2.2.length s.2.1/\told 0 p=s.2.2++told s.1 (p.drop s.1)) (λs=>[(0,x9 l),(10,L p),(11,I p.length),(12,I s.1)]) (λs=>s.2.1) (λs=>[]) (λs=>p.length-s.1) (zY (0,A0,[]) [] (by simp[o]) EA rfl EA) ?_);rintro⟨a,A,pre⟩ ⟨w,h,c⟩;simp only at w h c ⊢;refine EJ ?_;refine ze (zA rfl (λhc=>?_) (λhc=>?_));simp at hc;obtain⟨d,tl,y,z,a3,e0⟩:=zH rfl p a hc;have k:=Ab y;have a0:=r d k;rw[z]at c;simp only[told]at c;refine zk (aA (aF [] (zq e0 hc) ?_));intro v0;refine EJ ?_;refine zn (xC (σ:=Nat × Store × List (Stop × Nat)) (λs=>s.1<=d.length/\J s.2.2.length s.2.1/\told 0 p=s.2.2++((d.drop s.1).flatten.map (·,a)++told (a+1) (p.drop (a+1)))) (λs=>[(0,x9 l),(3,I a),(10,L p),(11,I p.length),(12,I a),(18,L d),(19,I d.length),(20,I s.1)]) (λs=>s.2.1) (λs=>[]) (λs=>d.length-s.1) (zY (0,A,pre) [_] (by simp[h,c]) EA rfl rfl) ?_);rintro⟨b,A,pre⟩ ⟨hb,h,c⟩;simp only at hb h c ⊢;refine EJ ?_;refine ze (zA rfl (λf=>?_) (λf=>?_));simp at f;obtain⟨t,a4,b1,b2,b3,e2⟩:=zH rfl d b f;have a5:=u d k t (Ab b1);rw[b2]at c;simp only[BB,map_append,append_assoc]at c;refine zk (aA (aF [] (zq e2 f) ?_));intro v1;refine EJ ?_;refine zn (xC (σ:=Nat × Store × List (Stop × Nat)) (λs=>s.1<=t.length/\J s.2.2.length s.2.1/\told 0 p=s.2.2++((t.drop s.1).map (·,a)++((d.drop (b+1)).flatten.map (·,a)++told (a+1) (p.drop (a+1))))) (λs=>[(0,x9 l),(3,I a),(10,L p),(11,I p.length),(12,I a),(18,L d),(19,I d.length),(20,I b),(25,L t),(26,I t.length),(27,I s.1)]) (λs=>s.2.1) (λs=>[]) (λs=>t.length-s.1) (zY (0,A,pre) [_] (by simp[h,c]) EA rfl rfl) ?_);rintro⟨j,A,pre⟩ ⟨hj,h,c⟩;simp only at hj h c ⊢;refine EJ ?_;refine ze (zA rfl (λg=>?_) (λg=>?_));simp at g;obtain⟨s,a6,c1,c2,c3,_,e3⟩:=el 2 rfl t j g;rw[c2]at c;simp only[Aw,cons_append]at c;refine zk (aA (aF [] (zq e3 g) ?_));intro v2;refine EJ ?_;refine λm=>Ww rfl rfl rfl (v _ _ _ _ (i pre _ (s,a) c) h) ?_;rintro _ ⟨A',q,rfl⟩;refine⟨_,_,rfl,zS m ?_⟩;refine zp rfl (zk (zg ?_));exact zv (j+1,A',pre++[(s,a)]) [_] ⟨g,by simpa using q,by simp[c]⟩ ED (by simp[zy j D9]) rfl rfl;simp at g;have:j=t.length:=D9;subst this;simp only[Bh,Bf,AK]at c;refine zB (zg ?_);exact zv (b+1,A,pre) [] ⟨f,h,c⟩ ED (by simp[zy b D9]) rfl EA;simp at f;have:b=d.length:=D9;subst this;simp only[Bh,DO,Bf,AK]at c;refine zB (zg ?_);exact zv (a+1,A,pre) [] ⟨hc,h,c⟩ ED (by simp[zy a D9]) rfl EA;simp at hc;have:a=p.length:=D9;subst this;simp only[Bh,told,Ay]at c;refine zB (Ya (n _ _ h) rfl ?_);simpa[c] using h
def yJ(c:Int)(l:List (Stop × Nat)):List Visit:=(l.filter λx=>decide (x.1.c=c)).map λx=>⟨x.2,x.1.q⟩
def WU(c:Int)(l m:List (Stop × Nat)):yJ c (l++m)=yJ c l++yJ c m:=by simp[yJ]
def WV(c:Int)(x:Stop × Nat):yJ c [x]=if x.1.c=c then [⟨x.2,x.1.q⟩] else []:=by by_cases h:x.1.c=c<;>simp[yJ,h]
def io(c:Int)(l:List (Stop × Nat)):(yJ c l).length<=l.length:=by simp only[yJ,length_map];exact BO _ _
structure PlanOk (p:zG):Prop where
 n:p.length<=1048576
 d:∀d∈p,d.length<=1048576
 t:∀d∈p,∀t∈d,t.length<=1048576
 ak:(told 0 p).length<=1048576
def iq(p:zG)(c:Int)(e:PlanOk p):PP 130 [.agg [L p],I c] (L (yJ c (told 0 p))):=by
 have k:=e.ak;refine c9 func130 λS nx u=>?_;intro v0 v1;refine EJ ?_;intro m;refine ze (EJ ?_);refine zu (rC p) ?_;refine qj 2 0 197 2 rfl rfl λv3=>?_;refine zn (Xp (xs:=(told 0 p).map XI) (σ:=List Visit × Nat) (λi s=>s.1=yJ c ((told 0 p).take i)/\s.1.length<=i/\i<=(told 0 p).length) [(3,.ptr (nx+1) v1 0),(5,.ptr (nx+2) m 0)] (λ_=>S)
  (λ(out,v3)=>[.cells v0 31 [L p],.cells v1 3 [I c],.cells m 144 [.sl (nx+3) v3 2 0 out.length],.cells v3 197 (out.flatMap enc)]) ([],v3)
  (rD p e.n e.d e.t) rfl (by intro x hx;obtain⟨y,_,rfl⟩:=Ak.1 hx;rfl) EG EA ⟨by simp[yJ],by simp,by simp⟩ rfl EA EA ?_ ?_)
 rintro l i ⟨out,v3⟩ more x ⟨ho,hl,hi⟩ hx;simp only at ho hl hi ⊢;rw[Ai]at hx;obtain⟨y,v,rfl⟩:=Al.1 hx;obtain⟨s,d⟩:=y;obtain⟨f,g⟩:=Af.1 v;have a:(told 0 p).take (i+1)=(told 0 p).take i++[(s,d)]:=by rw[AT f,g]
 refine x8 [] EF EF λK Gc Gh o h j X b r=>?_;simp -implicitDefEqProofs [b,r,XI];try clear b r X
 intro v4;refine o _ _ _ ?_;clear o h j;clear K Gc Gh;refine zn (EJ ?_);refine zA rfl (λhc=>?_) (λhc=>?_);simp at hc;refine zg ?_;refine⟨by omega,?_⟩;simp only[xB];exact vJ (out++[⟨d,s.q⟩],v3+1) [_] ⟨by rw[a,WU,WV,if_pos hc,ho],by simp;omega,by omega⟩ rfl EB;simp at hc;refine zk ?_;simp only[xB];exact vJ (out,v3) [_] ⟨by rw[a,WU,WV,if_neg hc,ho,Ay],Bq hl,by omega⟩ rfl EB;rintro⟨out,v3⟩ ⟨ho,hl,-⟩;simp only[length_map,Ah]at ho hl ⊢;refine EJ ?_;refine yc 3 rfl ?_;exact zj (zm u EB (by rw[ho];rfl))
def ON(p:zG)(c:Int)(e:PlanOk p):PP 159 [.agg [L p],I c] (L ((yJ c (told 0 p)).map (·.d))):=by
 have b:=AF (io c (told 0 p)) e.ak;have a:=iq p c e;generalize yJ c (told 0 p)=vs at b a ⊢;refine c9 func159 λS nx f=>?_;intro v0;refine EJ ?_;refine ze (qa 5 3 1 rfl λv1=>?_);refine EJ ?_;refine zu a ?_;refine zn (zF (λs:Nat × List Int × Nat=>s.1<=vs.length/\s.2.1=(vs.take s.1).map (·.d)) (λ(k,out,v1)=>[(5,.sl (nx+1) v1 1 0 out.length),(10,L vs),(11,I vs.length),(12,I k)]) (λ(k,out,v1)=>[.cells v0 31 [L p],.cells v1 3 (out.flatMap enc)]) (λs=>vs.length-s.1) (0,[],v1) [] EA EA EA ?_);rintro⟨k,out,v1⟩ ⟨g,ho⟩;simp only at g ho ⊢;have h:out.length=k:=by rw[ho];simp;omega
 refine EJ ?_;refine ze (zA rfl (λhc=>?_) (λhc=>?_));simp at hc;obtain⟨s,tl,j,l,a3,_,i⟩:=el 2 rfl vs k hc;refine zk (aA (aF [] (zq i hc) ?_));intro m;refine zg ?_;refine⟨by omega,?_⟩;refine zg ?_;exact zv (k+1,out++[s.d],v1+1) [_] ⟨hc,by rw[a3,ho];simp⟩ ED (by simp[zy k D9]) rfl EB;simp at hc;have:k=vs.length:=D9;subst this;rw[Ah]at ho;refine zB (EJ ?_);refine yc 1 rfl ?_;exact zj (zm f EB (by simp[ho,zr]))
def jz(n:Nat)(d:Int):Nat:=if 0<=d/\d<64 then n ||| 2^d.toNat else n
def dq(n:Nat)(d:Int)(hn:n<2^64):jz n d<2^64:=by unfold jz;split;exact Nat.or_lt_two_pow hn (CC EG D9);exact hn
def ux(l:List Int):Nat:=l.foldl jz 0
def rE(l:List Int):ux l<2^64:=by
 have:∀(l:List Int) (n:Nat),n<2^64->l.foldl jz n<2^64:=by
  intro l;induction l with
  |nil=>intro n h;exact h
  |cons d l a=>intro n h;exact a _ (dq n d h)
 exact this l 0 EG
def ir(d:Int):PP 241 [I d] (B (decide (0<=d/\d<64))):=by refine c9 func241 λS nx a=>?_;by_cases h1:0<=d;refine aF [(2,5)] h1 ?_;exact zj (zm a EB (by simp[h1,zr]));refine aF [(2,5)] (zq h1 zz) ?_;exact zj (zm a EB (by simp[h1,zr]))
def rF(d:Nat)(h:d<64):IntKind.u64.wrap (2^d)=((2^d:Nat):Int):=by
 have h2:(2:Nat)^d<2^64:=CC EG h;have h3:((2^d:Nat):Int)<2^64:=by exact_mod_cast h2
 have a:(2:Int)^d=((2^d:Nat):Int):=EA;rw[a];generalize (2^d:Nat)=m at h3 ⊢;simp only[IntKind.wrap,IntKind.bits,IntKind.signed];simp;omega
def rG(n:Nat)(d:Int)(hn:n<2^64):PP 198 [U n,I d] (U (jz n d)):=by
 refine c9 func198 λS nx e=>?_;refine ze (EJ ?_);refine zu (ir d) ?_;by_cases h:0<=d/\d<64;refine zp (by simp[h]) ?_;refine zk ?_;have h1:¬d<0:=D9;have h2:min d.toNat 64=d.toNat:=D9;have h3:=rF d.toNat D9;have i:bits BinOp.or IntKind.u64 (n:Int) (2^d.toNat)=((n ||| 2^d.toNat:Nat):Int):=by have:=bits_or_u64_nat n (2^d.toNat) D9 (by have:(2:Nat)^d.toNat<2^64:=CC EG D9;omega);simpa using this
 refine ze (x8 [] EF EF λK Gc Gh f b c X a g=>?_);simp -implicitDefEqProofs [a,g,h1,h2,IntKind.bits,h3,i];try clear a g X
 refine f _ _ _ ?_;clear f b c;clear K Gc Gh;exact zj (zm e EB (by simp[jz,h,zr]));refine zo ED ?_;refine EJ ?_;exact zj (zm e EB (by simp[jz,h,zr]))
def OO(l:List Int)(hl:l.length<=1048576):PP 158 [L l] (U (ux l)):=by refine c9 func158 λS nx a=>?_;refine EJ ?_;refine ze (EJ ?_);refine zn (zF (λs:Nat × Nat=>s.1<=l.length/\s.2=ux (l.take s.1)) (λ(k,n)=>[(3,U n),(6,L l),(7,I l.length),(8,I k)]) (λ_=>[]) (λs=>l.length-s.1) (0,0) [] (by simp[ux]) EA EA ?_);rintro⟨k,n⟩ ⟨b,ho⟩;simp only at b ho ⊢;refine EJ ?_;refine ze (zA rfl (λhc=>?_) (λhc=>?_));simp at hc;obtain⟨d,tl,e,f,a3,c⟩:=zH rfl l k hc;refine zk (aA (aF [] (zq c hc) ?_));refine zg ?_;refine zu (rG n d (by rw[ho];exact rE _)) ?_;refine zg ?_;exact zv (k+1,jz n d) [] ⟨hc,by rw[a3,ho];simp[ux,BI]⟩ ED (by simp[zy k D9]) rfl EA;simp at hc;have:k=l.length:=D9;subst this;rw[Ah]at ho;refine zB (EJ ?_);exact zj (zm a EB (by simp[ho,zr]))
def au(l:List Nat)(v:Nat):Int:=if v∈l then (l.findIdx (·=v):Nat) else -1
def OP(l:List Nat)(v:Nat)(hl:l.length<=1048576):PP 214 [L l,U v] (I (au l v)):=by
 refine c9 func214 λS nx b=>?_;refine ze (EJ ?_);refine zn (zF (λs:Nat=>s<=l.length/\v ∉ l.take s) (λk=>[(0,L l),(1,U v),(6,L l),(7,I l.length),(8,I k)]) (λ_=>[]) (λs=>l.length-s) 0 [] EA EA EA ?_);rintro k ⟨i,ho⟩;refine EJ ?_;refine ze (zA rfl (λhc=>?_) (λhc=>?_));simp at hc;obtain⟨d,tl,c,m,a3,f⟩:=zH rfl l k hc;refine zk (aA (EJ ?_));refine aF [] (zq hc f) ?_;refine zA rfl (λh=>?_) (λh=>?_);obtain rfl:v=d:=by simp at h;omega
 have a:au l v=k:=by
  have hm:=Ab c;have:l.findIdx (·=v)=k:=by rw[List.findIdx_eq D9];obtain⟨n,g⟩:=Af.1 c;refine⟨by simp[g],λj o=>?_⟩;simp only[decide_eq_false_iff_not];intro e;apply ho;rw[List.mem_take_iff_getElem];exact⟨j,by omega,e⟩
  simp[au,hm,this]
 refine EJ ?_;exact zj (zm b EB (by simp[a,zr]));simp at h;refine zk (zg ?_);exact zv (k+1) [] ⟨hc,by rw[a3];simp;exact⟨ho,λe=>h D9⟩⟩ D9 (by simp[zy k D9]) rfl EA;simp at hc;have:k=l.length:=D9;subst this;rw[Ah]at ho;refine zB (EJ ?_);exact zj (zm b EB (by simp[au,ho,zr]))
def OQ(l:List Nat)(v:Nat)(hl:l.length<=1048576):PP 160 [L l,U v] (B (decide (v∈l))):=by refine c9 func160 λS nx a=>?_;refine EJ ?_;refine zu (OP l v hl) ?_;exact zj (zm a EB (by by_cases h:v∈l<;>simp[au,h,zr]))
structure CustFits (c:Cust):Prop where
 H:0<=c.H/\c.H<=2147483648
 size:0<=c.size/\c.size<=2147483648
 Q:0<=c.Q/\c.Q<=2147483648
def vy(q:Int):Bool:=decide (q<0\/2147483648<q)
def qV(size rate:Int):Int->List Int->Option (List Int)
 |_,[]=>some []
 |there,q::l=>if size<there+q\/there+q<rate then none else (qV size rate (there+q-rate) l).map ((there+q-rate)::·)
def qc(c:Cust)(q:List Int):List Int × Int :=
 if q.any vy then ([],1) else match qV c.size c.H c.Q q with
 |none=>([],8)
 |some l=>(l,0)
def rH(c:Cust)(a:yh nx S):SP 128 [.agg (yf c)] S (λp S'=>∃v,p=.fn (.func 162) [] [.ptr (nx+1) v 0,.ip (yf c)]/\S'=S.set (nx+1) (.cells v 3 [I c.Q])):=by refine ZI a func128 ntmps128 results128 ?_;refine EJ ?_;intro v0;refine EJ ?_;intro v1;refine EJ ?_;refine vt 0 rfl ?_;refine zj ⟨_,_,rfl,⟨v1,by simp[zr],rfl⟩,Xo (j:=1) a EA⟩
def rI(c:Cust)(q there:Int){id v:Nat}(hid:S id=.cells v 3 [I there])(h1:-4611686018427387904<=there+q/\there+q<=4611686018427387904)(h2:-4611686018427387904<=there+q-c.H/\there+q-c.H<=4611686018427387904):
  SP 162 [I q,.ptr id v 0,.ip (yf c)] S (λp S'=>p=.tup [I (there+q),I (there+q-c.H)]/\S'=S.set id (.cells v 3 [I (there+q-c.H)])):=by
 refine i' func162 λnx f=>?_;have a:id<nx:=by obtain h|h:=Bc id nx;exact h;rw[f id h]at hid;cases hid
 have b:¬nx<=id:=D9;have g:∀obs,ext S nx obs id=.cells v 3 [I there]:=λobs=>(zL a).trans hid;have d:∀obs x,ext (S.set id x) nx obs id=x:=λobs x=>(zL a).trans (q11 _ _ _);have e:∀x,yh nx (S.set id x):=λx i hi=>by rw[q10 _ _ _ _ D9];exact f i hi
 have j:i64.wrap (there+q)=there+q:=wr _ D9 D9;have w2:i64.wrap (there+q-c.H)=there+q-c.H:=wr _ D9 D9;refine EJ ?_;refine aF [] (zq g j) ?_;refine aF [] (zD g b w2) ?_;refine aG none U5 d ?_;refine zj ⟨_,_,rfl,⟨rfl,rfl⟩,ye (e _)⟩
def rJ{size rate there q:Int}{l:List Int}{out:List Int}{r:Option (List Int)}(h:r=(qV size rate there (q::l)).map (out++·))(hs:¬size<there+q)(a:¬there+q<rate):
  r=(qV size rate (there+q-rate) l).map ((out++[there+q-rate])++·):=by
 rw[h];simp only[qV,hs,a,or_self,if_false,CE];congr 1;funext x;simp
def iu(c:Cust)(q:List Int)(hc:CustFits c)(w:q.length<=1048576):PP 80 [.agg (yf c),L q] (.tup [L (qc c q).1,I (qc c q).2]):=by
 obtain⟨x,u,g⟩:=hc;refine c9 func80 λS nx e=>?_;intro v0;refine ze (EJ ?_);refine qg (nx:=nx) (σ:=Nat) (λv0=>q.any vy=false) (λv0=>[(1,L q),(2,.ptr nx v0 0)]) (λ_=>S) (λv0=>[.cells v0 59 (yf c)]) ?_ ?_;refine zn (zF (λs:Nat=>s<=q.length/\(q.take s).any vy=false) (λk=>[(1,L q),(2,.ptr nx v0 0),(14,L q),(15,I q.length),(16,I k)]) (λ_=>[.cells v0 59 (yf c)]) (λs=>q.length-s) 0 [] EA EA EA ?_);rintro k ⟨o,ho⟩;refine EJ ?_;refine ze (zA rfl (λhc=>?_) (λhc=>?_));simp at hc;obtain⟨z,tl,i,r,a3,j⟩:=zH rfl q k hc;have bad:vy z=true->qc c q=([],1):=λh=>by
  have:q.any vy=true:=by rw[BX];exact⟨z,Ab i,h⟩
  simp[qc,this]
 refine zk (aA (aF [] (zq j hc) ?_));by_cases h1:z<0;refine aF [(2,22)] (zq h1 zz) ?_;refine zo rfl (EJ ?_);refine Zh 4 rfl ?_;exact zj (zm e EB (by rw[bad (by simp[vy,h1])];rfl));by_cases h2:(2147483648:Int)<z;refine aF [(2,22)] (zq h1 h2) ?_;refine zo rfl (EJ ?_);refine Zh 4 rfl ?_;exact zj (zm e EB (by rw[bad (by simp[vy,h2])];rfl));refine aF [(2,22)] (zq h1 h2) ?_;refine zp rfl (zk (zg ?_));exact zv (k+1) [] ⟨hc,by rw[a3,Dp,ho];simp[vy];omega⟩ D9 (by simp[zy k D9]) rfl EA;simp at hc;obtain rfl:k=q.length:=D9;rw[Ah]at ho;exact zB (zY v0 [] ho EA rfl EA);intro v0 hb;have m:∀z∈q,0<=z/\z<=2147483648:=by intro z t;rw[CA]at hb;have:=hb z t;simp[vy]at this;omega
 have b:qc c q=match qV c.size c.H c.Q q with|none=>([],8)|some l=>(l,0):=by simp[qc,hb]
 refine EJ ?_;refine λa=>((rH c xP).mono ?_).v;rintro p T ⟨v1,rfl,rfl⟩;refine⟨_,_,Wv _,zS a ?_⟩;refine EJ ?_;refine⟨by omega,λd=>?_⟩;refine HL 3 0 rfl ?_;simp only[C8,AM,AR,List.append_eq,cons_append,AK,Ae,Aj];refine ze (EJ ?_);refine zn (zF (λs:Nat × Int × List Int × Nat=>s.1<=q.length/\s.2.2.1.length=s.1/\(0<=s.2.1/\s.2.1<=2147483648)/\qV c.size c.H c.Q q=(qV c.size c.H s.2.1 (q.drop s.1)).map (s.2.2.1++·))
  (λ(k,there,out,d)=>[(2,.ptr nx v0 0),(8,.fn (.func 162) [] [.ptr (nx+2) v1 0,.ip (yf c)]),(9,.sl (nx+3) d 1 0 out.length),(32,L q),(33,I q.length),(34,I k)])
  (λ(k,there,out,d)=>[.cells v0 59 (yf c),.dead,.cells v1 3 [I there],.cells d 3 (out.flatMap enc)]) (λs=>q.length-s.1) (0,c.Q,[],d) [] ?_ EA EA ?_)
 refine⟨by simp,by simp,g,?_⟩;simp;rintro⟨k,there,out,d⟩ ⟨o,f,n,ho⟩;simp only at o f n ho ⊢;refine EJ ?_;refine ze (zA rfl (λhc=>?_) (λhc=>?_));simp at hc;obtain⟨z,tl,i,r,a3,j⟩:=zH rfl q k hc;have t:=m z (Ab i);rw[r]at ho;refine zk (aA (aF [] (zq j hc) ?_));refine EJ ?_;refine λa=>((rI c z there (id:=nx+2) (v:=v1) EA D9 D9).mono ?_).v;rintro p T ⟨rfl,rfl⟩;refine⟨_,_,yu _ D9 EA,zS a ?_⟩;have bad:(c.size<there+z\/there+z<c.H)->qc c q=([],8):=λh=>by rw[b,ho];simp only[qV,if_pos h,Dq]
 by_cases h1:c.size<there+z;refine ze (aF [(4,48)] (zq h1 zz) ?_);refine zo rfl (EJ ?_);refine Zh 4 rfl ?_;exact zj (zm e EB (by rw[bad (.inl h1)];rfl));by_cases h2:there+z<c.H;refine ze (aF [(4,48)] (zq h1 h2) ?_);refine zo rfl (EJ ?_);refine Zh 4 rfl ?_;exact zj (zm e EB (by rw[bad (.inr h2)];rfl));refine ze (aF [(4,48)] (zq h1 h2) ?_);refine zp rfl (zk (zg ?_));refine⟨by omega,?_⟩;refine zg ?_;exact zv (k+1,there+z-c.H,out++[there+z-c.H],d+1) [] ⟨hc,by simp[f],by dsimp only;omega,rJ ho h1 h2⟩ ED (by simp[zy k D9]) rfl EA;simp at hc;obtain rfl:k=q.length:=D9;rw[Bh]at ho;simp only[qV,AU,Ay]at ho;refine zB (EJ ?_);refine yc 3 rfl ?_;exact zj (zm e EB (by rw[b,ho];simp[zr]))
def Yg(rate size:Int):List Int->List Int->Bool
 |z::q,n::l=>decide (0<z/\n+rate≠size)||Yg rate size q l
 |_,_=>false
def uy(c:Cust)(q:List Int):Int :=
 if (qc c q).2≠0 then (qc c q).2 else if c.X≠1 then 0 else if Yg c.H c.size q (qc c q).1 then 9 else 0
def uS(c:Cust)(ns:List Int):Int:=W (c.Y*W ns.sum)
def WX(l:List Int)(x:Int):(l++[x]).sum=l.sum+x:=EA
def iv(c:Cust)(ns:List Int)(hn:ns.length<=1048576):PP 82 [.agg (yf c),L ns] (I (uS c ns)):=by
 refine c9 func82 λS nx a=>?_;intro v0;refine EJ ?_;refine ze (EJ ?_);refine zn (zF (λs:Nat=>s<=ns.length) (λk=>[(2,.ptr nx v0 0),(5,I (W (ns.take k).sum)),(8,L ns),(9,I ns.length),(10,I k)]) (λ_=>[.cells v0 59 (yf c)]) (λs=>ns.length-s) 0 [] EA EA EA ?_);rintro k e;refine EJ ?_;refine ze (zA rfl (λhc=>?_) (λhc=>?_));simp at hc;obtain⟨z,tl,f,g,a3,b⟩:=zH rfl ns k hc;refine zk (aA (aF [] (zq b hc) ?_));refine zg ?_;refine zg ?_;have d:W (W (ns.take k).sum+z)=W (ns.take (k+1)).sum:=by rw[a3,WX,uk]
 exact zv (k+1) [] hc D9 (by simp[zy k D9];exact d) rfl EA;simp at hc;obtain rfl:k=ns.length:=D9;rw[Ah];refine zB (EJ ?_);exact EK a
def rK(c:Cust)(q:List Int)(hc:CustFits c)(x:q.length<=1048576):PP 161 [.agg (yf c),L q] (I (uy c q)):=by
 have n:=iu c q hc x;obtain⟨hr,y,o⟩:=hc;refine c9 func161 λS nx m=>?_;intro v0;refine ze (EJ ?_);refine zu n ?_;by_cases d:(qc c q).2=0;case neg =>
  refine aF [] d ?_;refine zo (by simp[d]) ?_;refine EJ ?_;exact zj (zm m EB (by simp[uy,d,zr]))
 refine aF [] d ?_;refine zp (by simp[d]) ?_;refine zk ?_;by_cases b:c.X=1;case neg =>
  refine ze (aF [] b ?_);refine zo (by simp[b]) ?_;refine EJ ?_;exact zj (zm m EB (by simp[uy,d,b,zr]))
 refine ze (aF [] b ?_);refine zp (by simp[b]) ?_;refine zk ?_;have e:uy c q=if Yg c.H c.size q (qc c q).1 then 9 else 0:=by simp[uy,d,b]
 obtain⟨l,hl,h⟩:∃l,qV c.size c.H c.Q q=some l/\(qc c q).1=l/\∀z∈q,0<=z/\z<=2147483648:=by
  unfold qc at d ⊢;split at d;simp at d;rename_i hb;cases a:qV c.size c.H c.Q q with
  |none=>simp[a]at d
  |some l =>
  refine⟨l,rfl,by simp[hb],λz w=>?_⟩;simp only[Bool.not_eq_true,CA]at hb;have:=hb z w;simp[vy]at this;omega
 obtain⟨r,h⟩:=h;rw[r]at e;refine EJ ?_;refine λf=>((rH c xP).mono ?_).v;rintro p T ⟨v1,rfl,rfl⟩;refine⟨_,_,Wv _,zS f ?_⟩;refine ze (EJ ?_);refine zn (zF (λs:Nat × Int=>s.1<=q.length/\(0<=s.2/\s.2<=2147483648)/\qV c.size c.H s.2 (q.drop s.1)=some (l.drop s.1)/\Yg c.H c.size q l=Yg c.H c.size (q.drop s.1) (l.drop s.1))
  (λ(k,there)=>[(2,.ptr nx v0 0),(7,.fn (.func 162) [] [.ptr (nx+2) v1 0,.ip (yf c)]),(26,L q),(27,I q.length),(28,I k)])
  (λ(k,there)=>[.cells v0 59 (yf c),.dead,.cells v1 3 [I there]]) (λs=>q.length-s.1) (0,c.Q) [] ⟨by simp,o,by simpa using hl,by simp⟩ EA EA ?_)
 rintro⟨k,there⟩ ⟨hk,t,a,ho⟩;simp only at hk t a ho ⊢;refine EJ ?_;refine ze (zA rfl (λhc=>?_) (λhc=>?_));simp at hc;obtain⟨z,tl,a1,a2,a3,e0⟩:=zH rfl q k hc;have w:=h z (Ab a1);rw[a2]at a ho;simp only[qV]at a;split at a;cases a;rename_i a0;obtain⟨l2,i,j⟩:=Al.1 a;rw[<-j]at ho;simp only[Yg]at ho;have g:l.drop (k+1)=l2:=by rw[<-List.drop_drop,<-j];rfl
 have u:there+z-c.H+c.H=there+z:=D9;rw[u]at ho;refine zk (aA (aF [] (zq e0 hc) ?_));refine EJ ?_;refine λf=>((rI c z there (id:=nx+2) (v:=v1) EA D9 D9).mono ?_).v;rintro p T ⟨rfl,rfl⟩;refine⟨_,_,yu _ D9 EA,zS f ?_⟩;by_cases h1:0<z;by_cases h2:there+z=c.size;refine aF [(2,40)] (zq h1 h2) ?_;refine zp (by simp[h2]) ?_;refine zk (zg ?_);exact zv (k+1,there+z-c.H) [] ⟨hc,by dsimp only;omega,by rw[g];exact i,by rw[ho,g,decide_eq_false D9,DK]⟩ ED (by simp[zy k D9]) rfl (by simp[h2]);refine aF [(2,40)] (zq h1 h2) ?_;refine zo (by simp[h2]) ?_;refine EJ ?_;exact zj (zm m EB (by rw[e,ho];simp[h1,h2,zr]));refine aF [(2,40)] (zq h1 zz) ?_;refine zp rfl (zk (zg ?_));exact zv (k+1,there+z-c.H) [] ⟨hc,by dsimp only;omega,by rw[g];exact i,by rw[ho,g,decide_eq_false D9,DK]⟩ ED (by simp[zy k D9]) rfl EA;simp at hc;obtain rfl:k=q.length:=D9;rw[Bh]at ho;simp only[Yg]at ho;refine zB (EJ ?_);exact zj (zm m EB (by rw[e,ho];rfl))
def vQ(a b:Int):Int:=if a+b < -9223372036854775808 then -9223372036854775808 else if 9223372036854775807<a+b then 9223372036854775807 else a+b
def OR(a b:Int)(e:zU a)(hb:zU b):PP 176 [I a,I b] (if -9223372036854775808<=a+b/\a+b<=9223372036854775807 then .tup [I (a+b),B true] else .tup [I 0,B false]):=by
 unfold zU at e hb;refine c9 func176 λS nx d=>?_;by_cases h:-9223372036854775808<=a+b/\a+b<=9223372036854775807;have c:i64.wrap (a+b)=a+b:=wr _ h.1 h.2;refine aF [] c ?_;by_cases h1:b<0;have h2:a+b<a:=D9;refine ze (aF [] (zq h1 h2) ?_);refine aC (EJ ?_);exact zj (zm d EB (by simp[h,zr]));have h2:¬a+b<a:=D9;refine ze (aF [] (zq h1 h2) ?_);refine aC (EJ ?_);exact zj (zm d EB (by simp[h,zr]));by_cases h0:a+b < -9223372036854775808;have c:i64.wrap (a+b)=a+b+18446744073709551616:=by rw[AD];omega
 have h1:b<0:=D9;have h2:¬a+b+18446744073709551616<a:=D9;refine aF [] c ?_;refine ze (aF [] (zq h1 h2) ?_);refine aD ?_;refine EJ ?_;exact zj (zm d EB (by simp only[h,if_false];rfl));have c:i64.wrap (a+b)=a+b-18446744073709551616:=by rw[AD];omega
 have h1:¬b<0:=D9;have h2:a+b-18446744073709551616<a:=D9;refine aF [] c ?_;refine ze (aF [] (zq h1 h2) ?_);refine aD ?_;refine EJ ?_;exact zj (zm d EB (by simp only[h,if_false];rfl))
def dr(a b:Int)(e:zU a)(hb:zU b):PP 142 [I a,I b] (I (vQ a b)):=by have c:=OR a b e hb;unfold zU at e hb;refine c9 func142 λS nx d=>?_;by_cases h:-9223372036854775808<=a+b/\a+b<=9223372036854775807;rw[if_pos h]at c;refine EJ ?_;refine zu c ?_;refine aA (EJ ?_);refine zo rfl (EJ ?_);exact zj (zm d EB (by simp only[vQ,zr];rw[if_neg D9,if_neg D9]));rw[if_neg h]at c;refine EJ ?_;refine zu c ?_;refine aA (EJ ?_);refine zp rfl (EJ ?_);refine zA rfl (λh1=>?_) (λh1=>?_);simp at h1;refine EJ ?_;exact zj (zm d EB (by simp only[vQ,zr];rw[if_pos D9]));simp at h1;refine zk (EJ ?_);exact zj (zm d EB (by simp only[vQ,zr];rw[if_neg D9,if_pos D9]))
def WY(a lo hi:Int):PP 60 [I a,I lo,I hi] (I (min (max a lo) hi)):=by
 have h1:xk (jU a lo) hi=min (max a lo) hi:=by unfold xk jU;split<;>split<;>omega
 refine c9 func60 λS nx b=>?_;refine aF [] h1 ?_;exact EK b
def yN(v:List Visit)(n:Int):List Int:=(range (min (max n 0) 64).toNat).map λ(d:Nat)=>((v.filter λs=>decide (s.d=(d:Int))).map (·.q)).sum
def aw(v:List Visit)(n:Int):(yN v n).length=(min (max n 0) 64).toNat:=by simp[yN]
def OS(n:Int):yN [] n=List.replicate (min (max n 0) 64).toNat 0:=by apply A8;simp[yN];intro i h1 h2;simp[yN]
def OT(v:List Visit)(n:Int)(s:Visit)(h:¬(0<=s.d/\s.d<((min (max n 0) 64).toNat:Int))):yN (v++[s]) n=yN v n:=by unfold yN;apply AQ;intro d a;have b:=AI.1 a;have:¬s.d=(d:Int):=D9;simp[this]
def OU(v:List Visit)(n:Int)(s:Visit)(d:Nat)(hs:s.d=(d:Int))(b:Int)(hb:(yN v n)[d]?=some b):yN (v++[s]) n=(yN v n).set d (b+s.q):=by
 obtain⟨c,a⟩:=Af.1 hb;apply A8;simp[yN];intro i h1 h2;rw[CJ];have e:i<(yN v n).length:=by simpa using h2
 by_cases q:d=i;subst q;rw[if_pos rfl,<-a];simp[yN,hs];rw[if_neg q];have:¬s.d=(i:Int):=D9;simp[yN,this]
structure VisOk (v:List Visit):Prop where
 n:v.length<=1048576
 q:∀s∈v,0<=s.q/\s.q<=2147483648
 d:∀s∈v,zU s.d
def rL(v:List Visit)(p:Visit->Bool)(h:∀s∈v,0<=s.q/\s.q<=2147483648):0<=((v.filter p).map (·.q)).sum/\((v.filter p).map (·.q)).sum<=2147483648*v.length:=by
 induction v with
 |nil=>simp
 |cons s v a =>
 have h1:=a λx hx=>h x (by simp[hx]);have h2:=h s EA;rw[Ck];split;simp only[Aw,BE,Ae];omega;simp only[Ae];omega
def OV{v:List Visit}(hv:∀s∈v,0<=s.q/\s.q<=2147483648)(n:Int):∀b∈yN v n,0<=b/\b<=2147483648*v.length:=by intro b hb;simp only[yN,Ak]at hb;obtain⟨d,_,rfl⟩:=hb;exact rL v _ hv
def rM(v:List Visit)(n:Int)(hv:VisOk v):PP 129 [L v,I n] (L (yN v n)):=by
 have t:=hv.n;have hm:min (max n 0) 64=(((min (max n 0) 64).toNat:Nat):Int):=D9;have f:(min (max n 0) 64).toNat<=64:=D9;refine c9 func129 λS nx g=>?_;refine EJ ?_;refine zu (WY n 0 64) ?_;refine⟨by omega,λv1=>?_⟩;generalize c:(min (max n 0) 64).toNat=m at hm f;have r:=OS n;rw[c]at r;refine ze (EJ ?_);refine zn (zF (λs:Nat=>s<=v.length) (λk=>[(5,.sl nx v1 1 0 m),(11,L v),(12,I v.length),(13,I k)]) (λk=>[.cells v1 3 ((yN (v.take k) n).flatMap enc)]) (λs=>v.length-s) 0 [] EA (by simp[c]) (by simp[r,c,fM]) ?_);rintro k hk;have a:=aw (v.take k) n;rw[c]at a;refine EJ ?_;refine ze (zA rfl (λhc=>?_) (λhc=>?_));simp at hc;obtain⟨s,tl,u,a2,a3,_,w⟩:=el 2 rfl v k hc;have j:=Ab u;have y:=hv.q s j;have e:=OT (v.take k) n s;rw[c]at e;refine zk (aA (aF [] (zq w hc) ?_));intro v2;by_cases h1:0<=s.d;by_cases h2:s.d<(m:Int);obtain⟨d,g⟩:=Az h1;have h:d<m:=D9;obtain⟨b,z,b1,b2,b3,e2⟩:=zH rfl (yN (v.take k) n) d D9;have a0:=OV (λx hx=>hv.q x (Bn hx)) n b (Ab b1);have a4:(v.take k).length<=1048576:=ED;have l:=OU (v.take k) n s d g b b1;have o:=cC (yN (v.take k) n) d (b+s.q) D9;have i:vQ b s.q=b+s.q:=by unfold vQ;rw[if_neg D9,if_neg D9]
 have p:((yN (v.take k) n).flatMap enc).length=m:=by rw[jV,a]
 refine aF [(3,20)] (zq h1 h2) ?_;refine zo rfl (zC (some [nx+1]) (pures [0,1,2,3,4,5,6,8,9] (.alt 7 RV .stop)) (zM g h e2 a) ?_);refine zK (dr b s.q (by unfold zU;omega) (by unfold zU;omega)) (yp i o a h g) ?_;refine⟨by omega,?_⟩;refine zg ?_;exact zv (k+1) [_] hc D9 (by simp[zy k D9]) rfl (by rw[a3,l];rfl);refine aF [(3,20)] (zq h1 h2) ?_;refine zp rfl (zk (zg ?_));exact zv (k+1) [_] hc D9 (by simp[zy k D9]) rfl (by rw[a3,e D9];rfl);refine aF [(3,20)] (zq h1 zz) ?_;refine zp rfl (zk (zg ?_));exact zv (k+1) [_] hc D9 (by simp[zy k D9]) rfl (by rw[a3,e D9];rfl);simp at hc;obtain rfl:k=v.length:=D9;rw[Ah]at a ⊢;refine zB (EJ ?_);refine yc 0 rfl ?_;exact zj (zm g EB (by simp[a,zr]))
def yU(n:Nat):List Int:=if h:n=0 then [] else ((n%65536:Nat):Int)::yU (n/65536)
termination_by n
decreasing_by omega
def JN:yU 0=[]:=by rw[yU];simp
def JO(h:n≠0):yU n=((n%65536:Nat):Int)::yU (n/65536):=by rw[yU];simp[h]
def yE:List Int->Int
 |[]=>0
 |d::l=>d+65536*yE l
def vR(l:List Int):Prop:=∀d∈l,0<=d/\d<65536
def XJ:List Int->Prop
 |[]=>True
 |[d]=>d≠0
 |_::e::l=>XJ (e::l)
def JP:∀n:Nat,vR (yU n)/\yE (yU n)=n/\XJ (yU n)/\(n<65536^4->(yU n).length<=4):=by
 intro n;induction n using Nat.strongRecOn with
 |_ n f =>
 by_cases h:n=0;subst h;rw[JN];exact⟨λd a=>(nomatch a),rfl,trivial,by simp⟩;obtain⟨h1,h2,h3,_⟩:=f (n/65536) D9;rw[JO h];refine⟨?_,?_,?_,?_⟩;intro d a;obtain rfl|a:=Am.1 a;omega;exact h1 d a;simp only[yE,h2];omega
 .cases hl:yU (n/65536) with
  |nil =>
  rw[hl]at h2;simp only[yE]at h2;simp only[XJ];omega
  |cons e l=>rw[hl]at h3;exact h3
 intro b;have:∀m:Nat,∀k:Nat,m<65536^k->(yU m).length<=k:=by
  intro m k;induction k generalizing m with
  |zero=>intro hm;simp at hm;subst hm;rw[JN];simp
  |succ k c =>
  intro hm;by_cases h0:m=0;subst h0;rw[JN];simp;rw[JO h0];have:=c (m/65536) (by rw[DY]at hm;exact Nat.div_lt_of_lt_mul (by rw[D7];exact hm));simp;exact this
 have:=this n 4 b;rw[JO h]at this;exact this
def iw{l:List Int}(h:vR l):0<=yE l:=by
 induction l with
 |nil=>simp[yE]
 |cons d l a =>
 have h1:=h d EA;have h2:=a λx hx=>h x (by simp[hx]);simp only[yE];omega
def du(a b:List Int):yE (a++b)=yE a+65536^a.length*yE b:=by
 induction a with
 |nil=>simp[yE]
 |cons d a c=>simp only[cons_append,yE,c,Ae,D8];rw[DL,Int.mul_comm (65536^a.length) 65536,Int.mul_assoc];omega
def OW:∀{l:List Int},vR l->XJ l->l=yU (yE l).toNat:=by
 intro l;induction l with
 |nil=>intro _ _;simp only[yE];exact JN.symm
 |cons d l f =>
 intro h b;have h1:=h d EA;have hl:vR l:=λx hx=>h x (by simp[hx]);have h2:=iw hl;cases l with
 |nil =>
 simp only[XJ]at b;simp only[yE];rw[JO D9];have a:(d+65536*0).toNat/65536=0:=D9;rw[a,JN];congr 1;omega
 |cons e l =>
 have:=f hl b;have c:yE (e::l)≠0:=by intro h0;rw[h0]at this;rw[show (0:Int).toNat=0 from rfl,JN]at this;cases this
 have ev:yE (d::e::l)=d+65536*yE (e::l):=rfl;rw[ev,JO D9];have a:(d+65536*yE (e::l)).toNat/65536=(yE (e::l)).toNat:=D9;rw[a,<-this];congr 1;omega
def dv(n:Int)(hn:zU n):PP 166 [I n] (.agg [L (yU n.natAbs),B (decide (n<0))]):=by
 unfold zU at hn;have c:=(JP n.natAbs).2.2.2 (by rw[show (65536:Nat)^4=18446744073709551616 from by decide];omega);refine c9 func166 λS nx i=>?_;intro v0;refine EJ ?_;intro v1;refine EJ ?_;refine ze (qj 1 0 3 1 rfl rfl λb=>?_);refine zn (zF (λs:Int × List Int × Nat=>yU n.natAbs=s.2.1++yU s.1.natAbs/\(-9223372036854775808<=s.1/\s.1<=9223372036854775807)) (λ(m,out,b)=>[(0,I m),(2,.ptr nx v0 0),(3,.ptr (nx+1) v1 0)])
  (λ(m,out,b)=>[.cells v0 236 [.sc (.slice none 0 0),B false],.cells v1 236 [.sl (nx+2) b 1 0 out.length,B (decide (n<0))],.cells b 3 (out.flatMap enc)]) (λs=>s.1.natAbs) (n,[],b) [] (by simp;exact hn) EA EA ?_)
 rintro⟨m,out,b⟩ ⟨ho,hm⟩;simp only at ho hm ⊢;by_cases h0:m=0;subst h0;rw[show (0:Int).natAbs=0 from rfl,JN,Ay]at ho;refine ze (EJ ?_);refine zp rfl (zB (EJ ?_));refine yc 2 rfl ?_;exact zj (zm i EB (by rw[ho];simp[zr]));refine ze (aF [] h0 ?_);refine zo (by simp[h0]) ?_;refine zk (zn ?_);have f:yU m.natAbs=((m.natAbs%65536:Nat):Int)::yU (m.tdiv 65536).natAbs:=by rw[JO D9];congr 2;rw[Int.natAbs_tdiv];rfl
 rw[f]at ho;have j:out.length<=4:=by rw[ho]at c;simp at c;omega
 have k:(m.tdiv 65536).natAbs=m.natAbs/65536:=by rw[Int.natAbs_tdiv];rfl
 have a:-9223372036854775808<=m.tdiv 65536/\m.tdiv 65536<=9223372036854775807:=D9;have h:i64.wrap (m.tdiv 65536)=m.tdiv 65536:=wr _ a.1 a.2;refine EJ ?_;refine ze (EJ ?_);by_cases d:m.tmod 65536<0;have g:-(m.tmod 65536)=((m.natAbs%65536:Nat):Int):=by have:=Int.natAbs_tmod m 65536;have e:(65536:Int).natAbs=65536:=rfl;rw[e]at this;omega
 have w2:i64.wrap (-(m.tmod 65536))=((m.natAbs%65536:Nat):Int):=by rw[wr _ D9 D9];exact g
 refine zo (by simp[d]) ?_;refine zi [] w2 ?_;refine EJ ?_;refine⟨by omega,?_⟩;refine zi [] h ?_;exact zv (m.tdiv 65536,out++[((m.natAbs%65536:Nat):Int)],b+1) [] ⟨by rw[ho];simp,a⟩ (by dsimp only;omega) EA rfl EA;have g:m.tmod 65536=((m.natAbs%65536:Nat):Int):=by have:=Int.natAbs_tmod m 65536;have e:(65536:Int).natAbs=65536:=rfl;rw[e]at this;omega
 refine zp ED ?_;refine zk (aF [] g ?_);refine⟨by omega,?_⟩;refine zi [] h ?_;exact zv (m.tdiv 65536,out++[((m.natAbs%65536:Nat):Int)],b+1) [] ⟨by rw[ho];simp,a⟩ (by dsimp only;omega) EA rfl EA
def jX:List Int->List Int->Int->List Int
 |[],[],c=>if 0<c then [c] else []
 |a::u,[],c=>(a+c)%65536::jX u [] ((a+c)/65536)
 |[],b::bs,c=>(b+c)%65536::jX [] bs ((b+c)/65536)
 |a::u,b::bs,c=>(a+b+c)%65536::jX u bs ((a+b+c)/65536)
def OX:∀(a b:List Int) (c:Int),vR a->vR b->0<=c->c<=1->vR (jX a b c)/\yE (jX a b c)=yE a+yE b+c/\(jX a b c).length<=max a.length b.length+1:=by
 intro a;induction a with
 |nil =>
  intro b;induction b with
  |nil =>
  intro c _ _ h0 h1;simp only[jX];split;refine⟨?_,by simp[yE],by simp⟩;intro d e;simp at e;omega;refine⟨by intro d e;simp at e,by simp[yE];omega,by simp⟩
  |cons b bs m =>
  intro c g hb h0 h1;have k:=hb b EA;obtain⟨h,f,i⟩:=m ((b+c)/65536) g (λx hx=>hb x (by simp[hx])) D9 D9;simp only[jX];refine⟨?_,by simp only[yE]at f ⊢;rw[f];omega,by simp at i ⊢;omega⟩;intro d e;obtain rfl|e:=Am.1 e;omega;exact h d e
 |cons a u j =>
 intro b;cases b with
 |nil =>
 intro c g hb h0 h1;have l:=g a EA;obtain⟨h,f,i⟩:=j [] ((a+c)/65536) (λx hx=>g x (by simp[hx])) hb D9 D9;simp only[jX];refine⟨?_,by simp only[yE]at f ⊢;rw[f];omega,by simp at i ⊢;omega⟩;intro d e;obtain rfl|e:=Am.1 e;omega;exact h d e
 |cons b bs =>
 intro c g hb h0 h1;have l:=g a EA;have k:=hb b EA;obtain⟨h,f,i⟩:=j bs ((a+b+c)/65536) (λx hx=>g x (by simp[hx])) (λx hx=>hb x (by simp[hx])) D9 D9;simp only[jX];refine⟨?_,by simp only[yE]at f ⊢;rw[f];omega,by simp at i ⊢;omega⟩;intro d e;obtain rfl|e:=Am.1 e;omega;exact h d e
def OY(a b:List Int)(c:Int)(h:a≠[]\/b≠[]\/0<c):jX a b c=(a.headD 0+b.headD 0+c)%65536::jX a.tail b.tail ((a.headD 0+b.headD 0+c)/65536)\/(a=[]/\b=[]/\jX a b c=[c]):=by
 cases a with
 |nil =>
  cases b with
  |nil=>right;simp at h;simp[jX,h]
  |cons b bs=>left;simp[jX]
 |cons a u =>
 cases b with
 |nil=>left;simp[jX]
 |cons b bs=>left;simp[jX]
def dx(l:List Int)(k:Nat):(l.drop k).headD 0=l.getD k 0:=by simp[List.headD_eq_head?_getD,List.head?_drop,Aa]
def OZ(a b:List Int)(ha:vR a)(hb:vR b)(a6:a.length<=1000)(a7:b.length<=1000):PP 218 [L a,L b] (L (jX a b 0)):=by
 refine c9 func218 λS nx hd=>?_;refine EJ ?_;refine ze (qa 5 3 1 rfl λv1=>?_);refine zg ?_;refine ze (EJ ?_);refine zn (zF (λs:Nat × Int × List Int × Nat=>s.1<=max a.length b.length+1/\(0<=s.2.1/\s.2.1<=1)/\s.2.2.1.length=s.1/\jX a b 0=s.2.2.1++jX (a.drop s.1) (b.drop s.1) s.2.1/\(s.1=max a.length b.length+1->s.2.1=0)) (λ(k,c,out,v1)=>[(0,L a),(1,L b),(5,.sl nx v1 1 0 out.length),(6,I c),(7,I k)])
  (λ(k,c,out,v1)=>[.cells v1 3 (out.flatMap enc)]) (λs=>max a.length b.length+1-s.1) (0,0,[],v1) [] EA EA EA ?_)
 rintro⟨k,c,out,v1⟩ ⟨hk,hc,g,ho,j⟩;simp only at hk hc g ho j ⊢;by_cases l:k<a.length\/k<b.length\/0<c;have a8:k<max a.length b.length+1:=by obtain h|h:=Bc k (max a.length b.length+1);exact h;have:=j D9;omega
 have hx:0<=a.getD k 0/\a.getD k 0<65536:=by
  rw[Aa];cases h:a[k]? with
  |none=>simp
  |some x=>exact ha x (Ab h)
 have hy:0<=b.getD k 0/\b.getD k 0<65536:=by
  rw[Aa];cases h:b[k]? with
  |none=>simp
  |some x=>exact hb x (Ab h)
 generalize i:a.getD k 0=x at hx;generalize f:b.getD k 0=y at hy;have m:∀s,s=c+x+y->jX a b 0=(out++[s%65536])++jX (a.drop (k+1)) (b.drop (k+1)) (s/65536)/\(k+1=max a.length b.length+1->s/65536=0):=by
  rintro s rfl;have u:a.drop k≠[]\/b.drop k≠[]\/0<c:=by obtain h|h|h:=l;left;intro e;have:=CD.1 e;omega;right;left;intro e;have:=CD.1 e;omega;exact .inr (.inr h)
  have r:(a.drop k).headD 0+(b.drop k).headD 0+c=c+x+y:=by rw[dx,dx,i,f];omega
  have h0:k+1=max a.length b.length+1->c+x+y=c:=by
   intro q;have v:x=0:=by rw[<-i,Aa,An D9];rfl
   have e2:y=0:=by rw[<-f,Aa,An D9];rfl
   omega
  refine⟨?_,λq=>by have:=h0 q;omega⟩;obtain e|⟨v,e2,e3⟩:=OY (a.drop k) (b.drop k) c u;rw[ho,e,r];simp[List.tail_drop];have a9:x=0:=by rw[<-i,<-dx,v];rfl
  have b7:y=0:=by rw[<-f,<-dx,e2];rfl
  have d1:a.drop (k+1)=[]:=by rw[<-List.drop_drop,v];rfl
  have d2:b.drop (k+1)=[]:=by rw[<-List.drop_drop,e2];rfl
  have z1:(c+x+y)%65536=c:=D9;have z2:(c+x+y)/65536=0:=D9;rw[ho,e3,d1,d2,z1,z2];simp[jX]
 have w:∀s:Int,s=c+x+y->s.tmod 65536=s%65536/\i64.wrap (s.tdiv 65536)=s/65536:=by intro s hs;refine⟨Be D9,?_⟩;rw[BQ D9,wr _ D9 D9]
 obtain⟨o,p⟩:=w _ rfl;obtain⟨g1,n⟩:=m _ rfl;have wa:i64.wrap (c+x)=c+x:=wr _ D9 D9;have wb:i64.wrap (c+x+y)=c+x+y:=wr _ D9 D9;by_cases h1:k<a.length;obtain⟨t,tl,a1,a2,a3,e0⟩:=zH rfl a k h1;obtain rfl:t=x:=by rw[<-i,Aa,a1];rfl
 refine ze (aF [(4,12),(10,18)] (zq h1 zz) ?_);refine aD ?_;refine zk (aA ?_);refine ze (EJ ?_);refine zo (by simp[h1]) ?_;refine zi [] (zD e0 h1 wa) ?_;by_cases h2:k<b.length;obtain⟨d,z,b1,b2,b3,e2⟩:=zH rfl b k h2;obtain rfl:d=y:=by rw[<-f,Aa,b1];rfl
 refine ze (EJ ?_);refine zo (by simp[h2]) ?_;refine zi [] (zD e2 h2 wb) ?_;refine aF [] o ?_;refine⟨by omega,?_⟩;refine zi [] p ?_;refine zg ?_;exact zv (k+1,(c+t+d)/65536,out++[(c+t+d)%65536],v1+1) [] ⟨by omega,by dsimp only;omega,by simp[g],g1,n⟩ ED (by simp[zy k D9]) rfl EA;obtain rfl:y=0:=by rw[<-f,Aa,An D9];rfl
 rw[Dv]at o p g1 n;refine ze (EJ ?_);refine zp ED ?_;refine zk (aF [] o ?_);refine⟨by omega,?_⟩;refine zi [] p ?_;refine zg ?_;exact zv (k+1,(c+t)/65536,out++[(c+t)%65536],v1+1) [] ⟨by omega,by dsimp only;omega,by simp[g],g1,n⟩ ED (by simp[zy k D9]) rfl EA;obtain rfl:x=0:=by rw[<-i,Aa,An D9];rfl
 by_cases h2:k<b.length;obtain⟨d,z,b1,b2,b3,e2⟩:=zH rfl b k h2;obtain rfl:d=y:=by rw[<-f,Aa,b1];rfl
 have a0:(c+d).tmod 65536=(c+d)%65536:=by rw[show c+d=c+0+d by omega];exact o
 have a4:i64.wrap ((c+d).tdiv 65536)=(c+d)/65536:=by rw[show c+d=c+0+d by omega];exact p
 have a5:i64.wrap (c+d)=c+d:=wr _ D9 D9;rw[show c+0+d=c+d by omega]at g1 n;refine ze (aF [(4,12),(10,18)] (zD h1 h2 zz) ?_);refine aD ?_;refine zk (aA ?_);refine ze (EJ ?_);refine zp ED ?_;refine zk ?_;refine ze (EJ ?_);refine zo (by simp[h2]) ?_;refine zi [] (zD e2 h2 a5) ?_;refine aF [] a0 ?_;refine⟨by omega,?_⟩;refine zi [] a4 ?_;refine zg ?_;exact zv (k+1,(c+d)/65536,out++[(c+d)%65536],v1+1) [] ⟨by omega,by dsimp only;omega,by simp[g],g1,n⟩ ED (by simp[zy k D9]) rfl EA;obtain rfl:y=0:=by rw[<-f,Aa,An D9];rfl
 have h3:0<c:=D9;obtain rfl:c=1:=D9;rw[show (1:Int)+0+0=1 by rfl]at o p g1 n;refine ze (aF [(4,12),(10,18)] (zq h1 h2) ?_);refine aD ?_;refine zk (aA ?_);refine ze (EJ ?_);refine zp ED ?_;refine zk ?_;refine ze (EJ ?_);refine zp ED ?_;refine zk (aF [] o ?_);refine⟨by omega,?_⟩;refine zi [] p ?_;refine zg ?_;exact zv (k+1,(1:Int)/65536,out++[(1:Int)%65536],v1+1) [] ⟨by omega,by dsimp only;omega,by simp[g],g1,n⟩ ED (by simp[zy k D9]) rfl EA;have h1:¬k<a.length:=D9;have h2:¬k<b.length:=D9;have h3:¬0<c:=D9;rw[AS D9,AS D9]at ho;simp only[jX,h3,if_false,Ay]at ho;refine ze (aF [(4,12),(10,18)] (zD h1 h2 h3) ?_);refine aE ?_;refine zB (EJ ?_);refine yc 0 rfl ?_;exact zj (zm hd EB (by rw[ho];simp[zr]))
def Pa{l:List Int}(h:l=[]\/∃m x,l=m++[x]/\x≠0):XJ l:=by
 obtain rfl|⟨m,x,rfl,hx⟩:=h;trivial;induction m with
 |nil=>exact hx
 |cons a m c =>
 cases m with
 |nil=>exact hx
 |cons b m=>exact c
def Pb(l:List Int)(k:Nat)(h:∀d∈l.drop k,d=0):yE l=yE (l.take k):=by
 have b:∀m:List Int,(∀d∈m,d=0)->yE m=0:=by
  intro m;induction m with
  |nil=>intro _;rfl
  |cons a m c=>intro h;simp only[yE];rw[c λd e=>h d (by simp[e]),h a EA];rfl
 conv=>lhs;rw[<-take_append_drop k l]
 rw[du,b _ h];simp
def Pd(l:List Int)(neg:Bool)(hl:vR l)(hn:l.length<=1000):PP 217 [.agg [L l,B neg]] (.agg [L (yU (yE l).toNat),B (if yU (yE l).toNat=[] then false else neg)]):=by
 refine c9 func217 λS nx n=>?_;intro v0 v1;have u:∀k,k<=l.length->((l.flatMap enc).take k)=((l.take k).flatMap enc):=λk _=>by have:=Js (α:=Int) enc 1 (λ_=>rfl) l k;rw[BK]at this;exact this
 refine ze (qg (nx:=nx) (σ:=Unit) (λ_=>True) (λ_=>[(1,.ptr nx v0 0),(2,.ptr (nx+1) v1 0)]) (λ_=>S) (λ_=>[.cells v0 236 [L (yU (yE l).toNat),B neg],.cells v1 236 [.sc (.slice none 0 0),B false]]) ?_ ?_)
 .refine zn (zF (λs:Nat=>s<=l.length/\(∀d∈l.drop s,d=0)) (λk=>[(1,.ptr nx v0 0),(2,.ptr (nx+1) v1 0)]) (λk=>[.cells v0 236 [L (l.take k),B neg],.cells v1 236 [.sc (.slice none 0 0),B false]]) (λs=>s) l.length [] EA EA EA ?_);rintro k ⟨o,ho⟩;have c:(l.take k).length=k:=ED;have stop:XJ (l.take k)->L (l.take k)=L (yU (yE l).toNat):=by intro h;rw[Pb l k ho,<-OW (λd n=>hl d (Bn n)) h]
  match k,o with
  |0,_ =>
  refine ze (aF [(4,7)] zz ?_);refine zp rfl (zB (zY () [] n' EA rfl ?_));have:=stop trivial;simp only[C8]at this;simp[this]
  |j+1,o =>
  obtain⟨d,tl,x,w,a3,y⟩:=zH rfl l j D9;have p:i64.wrap ((j:Int)+1-1)=(j:Int):=by rw[wr _ D9 D9];omega
  have f:i64.wrap (j:Int)=(j:Int):=wr _ D9 D9;have b:((l.take (j+1)).flatMap enc).drop j=[I d]:=by rw[a3,Ap,BW (by rw[jV];simp;omega),AS (by rw[jV];simp;omega)];rfl
  have g:(j:Int)<(j:Int)+1:=D9;by_cases h0:d=0;refine ze (aF [(4,7)] (zN c p f b g h0) ?_);refine aD ?_;refine zk (zn ?_);have i:((l.take (j+1)).flatMap enc).take j=(l.take j).flatMap enc:=by rw[<-u (j+1) o,Dy,u _ D9];congr 2;omega
  have r:(l.take j).length=j:=ED;refine zi [] (zM c p f i) ?_;exact zv j [] ⟨by omega,λe v=>by rw[w]at v;obtain q|q:=Am.1 v;exact q.trans h0;exact ho e q⟩ D9 EA rfl (by simp[r,i]);refine ze (aF [(4,7)] (zN c p f b g h0) ?_);refine aE ?_;have:=stop (Pa (.inr ⟨l.take j,d,a3,h0⟩));refine zB (zY () [] n' EA rfl (by rw[this];rfl))
 intro _ _;have t:=JP (yE l).toNat;generalize yU (yE l).toNat=m at t ⊢;cases m with
 |nil =>
 refine ze (EJ ?_);refine aD ?_;refine zg ?_;refine EJ ?_;exact EK n
 |cons a m =>
 have h1:¬((m.length:Int)+1=0):=D9;refine ze (aF [] h1 ?_);refine aC (EJ ?_);exact EK n
def Qg:List Int->List Int->Int
 |x::a,y::b=>if x<y then -1 else if y<x then 1 else Qg a b
 |_,_=>0
def JQ(a b:List Int):Int:=if a.length<b.length then -1 else if b.length<a.length then 1 else Qg a.reverse b.reverse
def Pe(a b:List Int)(l:a.length<=1000)(hb:b.length<=1000):PP 216 [L a,L b] (I (JQ a b)):=by
 refine c9 func216 λS nx d=>?_;by_cases h1:a.length=b.length;case neg =>
  have c:¬((a.length:Int)=b.length):=D9;refine ze (aF [] c ?_);refine zo (by simp[c]) ?_;by_cases h2:a.length<b.length;refine ze (EJ ?_);refine zo (by simp[h2]) ?_;refine EJ ?_;exact zj (zm d EB (by simp[JQ,h2,zr]));refine ze (EJ ?_);refine zp ED ?_;refine zk (EJ ?_);exact zj (zm d EB (by simp[JQ,h2,show b.length<a.length by omega,zr]))
 have e:JQ a b=Qg a.reverse b.reverse:=by simp[JQ,h1]
 rw[e];have c:((a.length:Int)=b.length):=D9;refine ze (aF [] c ?_);refine zp (by simp[c]) ?_;refine zk ?_;refine ze (EJ ?_);have w0:i64.wrap ((a.length:Int)-1)=(a.length:Int)-1:=wr _ D9 D9;refine zn (zF (λm:Nat=>m<=a.length/\Qg a.reverse b.reverse=Qg (a.take m).reverse (b.take m).reverse) (λm=>[(0,L a),(1,L b),(5,I ((m:Int)-1))]) (λ_=>[]) (λm=>m) a.length [] ⟨Ag _,by rw[Ah,Ad D9]⟩ (by simp[w0]) EA ?_);rintro m ⟨hm,ho⟩
 match m,hm with
 |0,_ =>
 refine ze (EJ ?_);refine aE ?_;refine zB (EJ ?_);exact zj (zm d EB (by rw[ho];simp[Qg,zr]))
 |j+1,hm =>
 have s1:((j+1:Nat):Int)-1=(j:Int):=D9;obtain⟨x,tl,n,o,a3,g⟩:=zH rfl a j D9;obtain⟨y,i,b1,b2,b3,e2⟩:=zH rfl b j D9;rw[a3,b3]at ho;simp only[Dn,CB,DP,AK,cons_append,Qg]at ho;have g1:j<a.length:=D9;have h:j<b.length:=D9;have s2:(j:Int)+1-1=(j:Int):=D9;refine ze (aF [] (zq s1 s2) ?_);refine aD ?_;refine zk (aA ?_);refine ze (aG none Re (zN s1 s2 g1 h g e2) ?_);by_cases h3:x<y;refine zo (by simp[h3]) ?_;refine EJ ?_;exact zj (zm d EB (by rw[ho,if_pos h3];rfl));refine zp ED ?_;refine zk (aG none Re (zN s1 s2 g1 h g e2) ?_);by_cases f:y<x;refine zo (by simp[f]) ?_;refine EJ ?_;exact zj (zm d EB (by rw[ho,if_neg h3,if_pos f];rfl));refine zp ED ?_;refine zk ?_;have k:i64.wrap ((j:Int)-1)=(j:Int)-1:=wr _ D9 D9;refine zi [] (zD s1 s2 k) ?_;exact zv j [] ⟨by omega,by rw[ho,if_neg h3,if_neg f]⟩ D9 EA rfl EA
def ix(l:List Int)(h:vR l)(k:Nat):0<=yE (l.take k)/\yE (l.take k)<65536^k:=by
 have b:vR (l.take k):=λd b=>h d (Bn b);refine⟨iw b,?_⟩;have a:∀(k:Nat) (m:List Int),vR m->m.length<=k->yE m<65536^k:=by
  intro k;induction k with
  |zero=>intro m _ hm;simp at hm;subst hm;simp[yE]
  |succ k c =>
  intro m hm hl;cases m with
  |nil=>simp only[yE];exact Int.pow_pos EG
  |cons d m =>
  have h1:=hm d EA;have h2:=c m (λx hx=>hm x (by simp[hx])) (by simpa using hl);simp only[yE,D8];omega
 exact a k _ b ED
def Pf:∀(m:Nat) (a b:List Int),vR a->vR b->a.length=m->b.length=m->yE a<=yE b->Qg a.reverse b.reverse<=0:=by
 intro m;induction m with
 |zero=>intro a b _ _ k hb _;rw[As k];simp[Qg]
 |succ m q =>
 intro a b k hb i j hv;have c:a≠[]:=by intro e;subst e;cases i
 have f:b≠[]:=by intro e;subst e;cases j
 obtain⟨a',x,rfl⟩:∃a' x,a=a'++[x]:=⟨a.dropLast,a.getLast c,(Dj c).symm⟩;obtain⟨b',y,rfl⟩:∃b' y,b=b'++[y]:=⟨b.dropLast,b.getLast f,(Dj f).symm⟩;have g:a'.length=m:=by simpa using i
 have h:b'.length=m:=by simpa using j
 have l:vR a':=λd n=>k d (by simp[n]);have o:vR b':=λd n=>hb d (by simp[n]);have r:=ix (b'++[y]) hb m;have s:=ix (a'++[x]) k m;rw[BF D9,Ad D9]at r s;rw[du,du,g,h]at hv;simp only[yE,Int.mul_zero,Dv]at hv;simp only[Dn,CB,DP,AK,cons_append,Qg];by_cases h1:x<y;rw[if_pos h1];omega;rw[if_neg h1];by_cases h2:y<x;exfalso;have:(65536:Int)^m*x>=65536^m*(y+1):=Int.mul_le_mul_of_nonneg_left D9 D9;rw[DL]at this;omega;rw[if_neg h2];have p:x=y:=D9;subst p;exact q a' b' l o g h D9
def Pg{a b:Nat}(h:a<=b):(yU a).length<=(yU b).length:=by
 induction b using Nat.strongRecOn generalizing a with
 |_ b c =>
 by_cases h0:a=0;subst h0;rw[JN];simp;rw[JO h0,JO (show b≠0 by omega)];have:=c (b/65536) D9 (a:=a/65536) (Nat.div_le_div_right h);simpa using this
def Ph{a b:Nat}(h:a<=b):JQ (yU a) (yU b)<=0:=by have hl:=Pg h;unfold JQ;split;omega;rw[if_neg D9];have h1:=JP a;have h2:=JP b;exact Pf _ _ _ h1.1 h2.1 rfl D9 (by rw[h1.2.1,h2.2.1];omega)
def dA(h:n<=18446744073709551615):(yU n).length<=4:=(JP n).2.2.2 (by rw[show (65536:Nat)^4=18446744073709551616 from by decide];omega)
def Pi(a b:Nat)(h:a<=9223372036854775807)(hb:b<=9223372036854775807):PP 165 [.agg [L (yU a),B false],.agg [L (yU b),B false]] (.agg [L (yU (a+b)),B false]):=by
 have h1:=JP a;have h2:=JP b;have i:=dA (n:=a) D9;have l2:=dA (n:=b) D9;obtain⟨e,f,j⟩:=OX (yU a) (yU b) 0 h1.1 h2.1 D9 D9;have hv:(yE (jX (yU a) (yU b) 0)).toNat=a+b:=by rw[f,h1.2.1,h2.2.1];omega
 have d:=OZ (yU a) (yU b) h1.1 h2.1 D9 D9;have c:=Pd (jX (yU a) (yU b) 0) false e D9;rw[hv,ite_self]at c;generalize yU a=x at *;generalize yU b=y at *;generalize jX x y 0=z at *;refine c9 func165 λS nx g=>?_;intro v0 v1 k;refine ze (EJ ?_);refine aD ?_;refine aG (some [nx,nx+1]) (pures [0,1,2,3,4,5,6,7,8] (.alt 9 (.done) .stop)) n' ?_;refine zK (d) n' ?_;refine zK (c) n' ?_;exact EK g
def Pj(n:Nat)(hn:n<=9223372036854775807):PP 164 [.agg [L (yU n),B false]] (.tup [I n,B true]):=by
 have h1:=JP n;have z:=dA (n:=n) D9;have k:=Ph (a:=n) (b:=9223372036854775807) hn;have hs:=Pe (yU n) (yU 9223372036854775807) D9 (by have:=dA (n:=9223372036854775807) D9;omega);have g:=dv 9223372036854775807 (by unfold zU;omega);have h:=dv (-9223372036854775808) (by unfold zU;omega);rw[show ((9223372036854775807:Int)).natAbs=9223372036854775807 from rfl,show decide ((9223372036854775807:Int)<0)=false from rfl]at g;rw[show decide ((-9223372036854775808:Int)<0)=true from rfl]at h;generalize yU (-9223372036854775808:Int).natAbs=lo at *;generalize yU 9223372036854775807=hi at *;generalize o:yU n=l at *;have p:¬0<JQ l hi:=D9;refine c9 func164 λS nx c=>?_;intro v0;refine EJ ?_;refine zu g ?_;intro v1;refine EJ ?_;refine zu h ?_;intro v2;refine ze (aF [(3,13)] n' ?_);refine yK [(3,13)] hs p ?_;refine aC ?_;refine ze (aF [(2,23)] zz ?_);refine aC (EJ ?_);have w0:i64.wrap ((l.length:Int)-1)=(l.length:Int)-1:=wr _ D9 D9;refine ze (aF [] w0 ?_);refine zn (zF (λm:Nat=>m<=l.length) (λm=>[(1,.ptr nx v0 0),(6,I (yE (l.drop m))),(7,I ((m:Int)-1))]) (λ_=>[.cells v0 236 [L l,B false]]) (λm=>m) l.length [_,_] (Ag _) (by simp[yE]) rfl ?_);rintro m hm
 match m,hm with
 |0,_ =>
 refine ze (EJ ?_);refine aE ?_;refine zB (EJ ?_);exact zj (zm c EB (by simp[h1.2.1,zr]))
 |j+1,hm =>
 have s1:((j+1:Nat):Int)-1=(j:Int):=D9;have s2:(j:Int)+1-1=(j:Int):=D9;obtain⟨x,tl,q,r,a3,s⟩:=zH rfl l j D9;have g1:j<l.length:=D9;have hx:=h1.1 x (Ab q);have t:0<=yE (l.drop (j+1)):=iw λd c=>h1.1 d (By c);have u:yE (l.drop j)=x+65536*yE (l.drop (j+1)):=by rw[r];rfl
 have i:yE (l.drop j)<=n:=by
  have e:=du (l.take j) (l.drop j);rw[take_append_drop,h1.2.1]at e;have t0:=(ix l h1.1 j).1;have v:(1:Int)<=65536^(l.take j).length:=by have:=Int.pow_pos (n:=65536) (m:=(l.take j).length) EG;omega
  have f:0<=yE (l.drop j):=D9;have:=Int.mul_le_mul_of_nonneg_right v f;rw[Int.one_mul]at this;omega
 have w:i64.wrap (yE (l.drop (j+1))*65536)=yE (l.drop (j+1))*65536:=wr _ D9 D9;have w2:i64.wrap (yE (l.drop (j+1))*65536+x)=yE (l.drop j):=by rw[wr _ D9 D9];omega
 have y:i64.wrap ((j:Int)-1)=(j:Int)-1:=wr _ D9 D9;refine ze (aF [] (zq s1 s2) ?_);refine aD ?_;refine zk (aA (aF [] w ?_));refine EJ ?_;refine aE ?_;refine zi [] (yp s1 s2 g1 s w2) ?_;refine zi [] (zD s1 s2 y) ?_;exact zv j [] D9 D9 EA rfl EA
def Pl(a b:Int)(f:0<=a)(hb:0<=b)(g:a+b<=9223372036854775807):PP 132 [I a,I b] (I (a+b)):=by obtain⟨x,rfl⟩:=Az f;obtain⟨y,rfl⟩:=Az hb;have c:=dv (x:Int) (by unfold zU;omega);have d:=dv (y:Int) (by unfold zU;omega);rw[Int.natAbs_natCast,decide_eq_false D9]at c d;have h3:=Pi x y D9 D9;have e:=Pj (x+y) D9;rw[show ((x+y:Nat):Int)=(x:Int)+(y:Int) by omega]at e;refine c9 func132 λS nx h=>?_;refine EJ ?_;refine zu c ?_;refine zu d ?_;refine zu h3 ?_;refine zu e ?_;refine ze (EJ ?_);refine aD ?_;refine EJ ?_;exact EK h
end Go.Proofs.YtdjbbndbalhekaaGreatDoor.Pv
