/- Part of a proof, packed. -/
import Derived.Test.YtcocagkbfpgmiaaGreatDoorE4
open Go.Proofs.Tryz
set_option maxRecDepth 100000
set_option maxHeartbeats 3200000
namespace Go.Proofs.YtcocagkbfpgmiaaGreatDoor.Pv
open Go
def jz:List Int->Int
 | []=>0
 | e :: l=>if e≠0 then e else jz l
theorem Zat{l:List Int}(h:∀e∈l,e=0):jz l=0:=by
 induction l with
 | nil=>rfl
 | cons e l ih=>simp only[jz,h e DI,ne_eq,not_true,if_false];exact ih λx hx=>h x (by simp[hx])
theorem ZcP{l:List Int}{k:Nat}{e:Int}(h:∀e∈l.take k,e=0)(hk:l[k]?=some e)(he:e≠0):jz l=e:=by
 induction l generalizing k with
 | nil=>cases hk
 | cons a l ih =>
  cases k with
  | zero=>simp at hk;subst hk;simp[jz,he]
  | succ k =>
   simp only[jz,h a DI,ne_eq,not_true,if_false];exact ih (k:=k) (λx hx=>h x (by rw[CY];simp[hx])) (by simpa using hk)
theorem Zql(l:List Int):jz l=0<->∀e∈l,e=0:=by
 refine⟨λh=>?_,Zat⟩
 induction l with
 | nil=>intro e he;cases he
 | cons a l ih =>
  simp only[jz]at h;split at h
  ·rename_i hne;exact absurd h hne
  ·rename_i hne;intro e he;rcases As.1 he with rfl | he
   ·simpa using hne
   ·exact ih h e he
def QE(x:Inst)(p:zA):Int :=
 if jo x=false then 3 else if (p.length:Int)≠x.days then 1 else if jz (p.map (yr x))≠0 then jz (p.map (yr x)) else jz ((List.range x.cust.length).map (YM x p))
structure PlanSz (p:zA):Prop where
 ok:PlanOk p
 f:∀d∈p,d.flatten.length<=1048576
theorem ZcQ:∀(p:zA) (i:Nat) (x:Stop × Nat),x∈told i p->∃d∈p,x.1∈d.flatten
 | [],_,_,h=>by cases h
 | d :: p,i,x,h=>by
  simp only[told,AB,Al]at h;rcases h with ⟨s,hs,rfl⟩ | h
  ·exact⟨d,by simp,hs⟩
  ·obtain⟨d',h1,h2⟩:=ZcQ p (i+1) x h;exact⟨d',by simp[h1],h2⟩
theorem Zau{x:Inst}{d:zk}(h:yr x d=0):∀s∈d.flatten,jh x s=true:=by
 intro s hs;obtain⟨t,ht,hst⟩:=Bs.1 hs;have hm:zT x t=0:=by
  unfold yr at h;split at h
  ·rename_i u hu;have:=List.find?_some hu;simp[h]at this
  ·rename_i hn;rw[List.find?_eq_none]at hn;simpa using hn t ht
 have:qZ x t=true:=by
  by_cases q:qZ x t=true
  ·exact q
  ·simp[zT,q]at hm
 unfold qZ at this;simp only[Aw,Ay]at this;exact this.1 s hst
theorem Zqm{x:Inst}{p:zA}(hp:PlanSz p)(hx:InstOk x)(hm:jo x=true)(hd:(p.length:Int)=x.days)(h0:∀d∈p,yr x d=0):Serves x p:=by
 have hdays:1<=x.days/\x.days<=64:=by
  unfold jo at hm;simp only[Aw]at hm;have:=hm.1.1.1.1.1.1;simpa[yu] using this
 refine⟨hp.ok,λs hs=>?_,by omega⟩;obtain⟨d,hd,hsd⟩:=ZcQ p 0 s hs;have:=Zau (h0 d hd) s.1 hsd;simp[jh]at this;omega
theorem Zqn{x:Inst}(hx:InstOk x)(hm:jo x=true):CustsOk x:=by
 unfold jo at hm;simp only[Aw,decide_eq_true_eq,Ay]at hm;obtain⟨⟨⟨⟨⟨⟨_,h1⟩,_⟩,_⟩,_⟩,h2⟩,_⟩:=hm;have hk:∀c∈x.cust,c.kind=1\/c.kind=2:=λc hc=>by
  have:=h2 c hc
  by_cases k1:c.kind=1
  ·exact .inl k1
  ·by_cases k2:c.kind=2
   ·exact .inr k2
   ·rw[Zqg c _ k1 k2]at this;cases this
 refine⟨by omega,hk,λc hc=>?_,λc hc=>?_,λc hc=>(hx.cust c hc).pats⟩
 ·have hb:=h2 c hc;rcases hk c hc with k | k
  ·rw[Zhd c _ k]at hb;simp only[Aw,u7,decide_eq_true_eq]at hb;obtain⟨_,a,b,c,_⟩:=hb;exact⟨by omega,by omega,by omega⟩
  ·rw[Zhe c _ k]at hb;simp only[Aw,yu,decide_eq_true_eq]at hb;obtain⟨⟨⟨⟨⟨a,b⟩,c⟩,_⟩,_⟩,_⟩:=hb;exact⟨by omega,by omega,by omega⟩
 ·have hb:=h2 c hc;rcases hk c hc with k | k
  ·rw[Zhd c _ k]at hb;simp only[Aw,Zv,yu,decide_eq_true_eq]at hb;omega
  ·rw[Zhe c _ k]at hb;simp only[Aw,YL,decide_eq_true_eq]at hb;omega
theorem Zqo(x:Inst)(p:zA)(hx:InstOk x)(hp:PlanSz p):Pure prog 67 [.agg (zy x),.agg [L p]] (I (QE x p)):=by
 have hpn:=hp.ok.n;refine zt func67 ntmps67 results67 λS nx hd=>?_
 refine DQ ?_;intro v0 v1
 repeat apply za
 refine zb ?_;refine zr (Zhb x hx) ?_;cases hm:jo x with
 | false =>
  refine zn DI ?_;refine DQ ?_;exact zg (zi hd DJ (by simp[QE,hm,zp]))
 | true =>
  have hcs:=Zqn hx hm;have hcn:=hcs.n;refine zm DI ?_;refine zh ?_
  by_cases hpd:(p.length:Int)=x.days
  case neg =>
   repeat apply za
   refine ze [] hpd ?_;refine zn (by simp[hpd]) ?_;refine DQ ?_;exact zg (zi hd DJ (by simp[QE,hm,hpd,zp]))
  have hres:QE x p=if jz (p.map (yr x))≠0 then jz (p.map (yr x)) else jz ((List.range x.cust.length).map (YM x p)):=by simp[QE,hm,hpd]
  repeat apply za
  refine ze [] hpd ?_;refine zm (by simp[hpd]) ?_;refine zh ?_
  repeat apply za
  refine zb ?_;refine qS (nx:=nx) (σ:=Unit) (λ_=>∀d∈p,yr x d=0) (λ_=>[(2,.ptr nx v0 0),(3,.ptr (nx+1) v1 0)]) (λ_=>S) (λ_=>[.cells v0 25 (zy x),.cells v1 30 [L p]]) ?_ ?_
  ·refine zj (zD (λs:Nat=>s<=p.length/\∀d∈p.take s,yr x d=0) (λk=>[(2,.ptr nx v0 0),(3,.ptr (nx+1) v1 0),(20,L p),(21,I p.length),(22,I k)]) (λ_=>[.cells v0 25 (zy x),.cells v1 30 [L p]]) (λs=>p.length-s) 0 [] DI (by simp[hpd]) DI ?_);rintro k ⟨hk,ho⟩;refine DQ ?_;refine za (zv rfl (λhc=>?_) (λhc=>?_))
   ·simp at hc;obtain⟨d,tl,a1,a2,a3,e0⟩:=zJ rfl p k hc;have hdm:=Ab a1;refine zh (za (zj (za (ze [] (zo hc e0) ?_))));intro v2;refine DQ ?_;refine zr (ZbP x d hcn (hp.ok.d d hdm) (hp.ok.t d hdm) (hp.f d hdm)) ?_
    by_cases h0:yr x d=0
    ·refine za (ze [] h0 ?_);refine zm (by simp[h0]) ?_;refine zh (zb ?_);exact zq (k+1) [_] ⟨hc,λe he=>by rw[a3]at he;rcases AB.1 he with he | he;exact ho e he;rw[A3.1 he];exact h0⟩ DH (by simp[zu k (by omega)]) rfl rfl
    ·have hf:jz (p.map (yr x))=yr x d:=ZcP (k:=k) (λe he=>by rw[<-List.map_take]at he;obtain⟨u,hu,rfl⟩:=Al.1 he;exact ho u hu) (by rw[Ai,a1];rfl) h0;refine za (ze [] h0 ?_);refine zn (by simp[h0]) ?_;refine DQ ?_;exact zg (zi hd DJ (by rw[hres,hf];simp[h0,zp]))
   ·simp at hc;obtain rfl:k=p.length:=DH
    rw[Ak]at ho;exact zx (z8 () [] ho DI rfl DI)
  intro _ hall;have hsv:=Zqm hp hx hm hpd hall;have hf0:jz (p.map (yr x))=0:=Zat λe he=>by obtain⟨u,hu,rfl⟩:=Al.1 he;exact hall u hu
  rw[hf0]at hres;simp only[ne_eq,not_true,if_false]at hres;rw[hres]
  repeat apply za
  refine zb ?_;refine zj (zD (λs:Nat=>s<=x.cust.length/\∀i<s,YM x p i=0) (λk=>[(2,.ptr nx v0 0),(3,.ptr (nx+1) v1 0),(35,I x.cust.length),(36,I k)]) (λ_=>[.cells v0 25 (zy x),.cells v1 30 [L p]]) (λs=>x.cust.length-s) 0 [] DI DI DI ?_);rintro k ⟨hk,ho⟩;refine DQ ?_;refine za (zv rfl (λhc=>?_) (λhc=>?_))
  ·simp at hc;refine zh (za (zj (DQ ?_)));refine DQ ?_;refine zr (Zqj x p k hsv hcs hc) ?_
   by_cases h0:YM x p k=0
   ·refine za (ze [] h0 ?_);refine zm (by simp[h0]) ?_;refine zh (zb ?_);exact zq (k+1) [] ⟨hc,λi hi=>by by_cases q:i=k;rw[q];exact h0;exact ho i DH⟩ DH (by simp[zu k (by omega)]) rfl DI
   ·have hf:jz ((List.range x.cust.length).map (YM x p))=YM x p k:=ZcP (k:=k) (λe he=>by rw[<-List.map_take]at he;obtain⟨u,hu,rfl⟩:=Al.1 he;rw[List.take_range]at hu;have:=AP.1 hu;exact ho u DH) (by rw[Ai,Bk hc];rfl) h0;refine za (ze [] h0 ?_);refine zn (by simp[h0]) ?_;refine DQ ?_;exact zg (zi hd DJ (by rw[hf];rfl))
  ·simp at hc;obtain rfl:k=x.cust.length:=DH
   refine zx (DQ ?_);exact zg (zi hd DJ (by rw[Zat λe he=>by obtain⟨u,hu,rfl⟩:=Al.1 he;exact ho u (AP.1 hu)];rfl))
open Go Go.Proofs Hp
def Jv(l:List Visit)(day:Int)(i k:Nat):List Stop:=((l.take k).filter (λw=>w.d=day)).map λw=>⟨i,w.q⟩
def YN(v:List (List Visit))(day:Int)(i:Nat):List Stop:=((v.getD i []).filter (λw=>w.d=day)).map λw=>⟨i,w.q⟩
def xh(v:List (List Visit))(day:Int)(n:Nat):List Stop:=(List.range n).flatMap (YN v day)
theorem Zhj(v:List (List Visit))(day:Int)(n:Nat):xh v day (n+1)=xh v day n++YN v day n:=by simp[xh,AL]
theorem Zqp(l:List Visit)(day:Int)(i:Nat):Jv l day i 0=[]:=rfl
theorem Zqq(v:List (List Visit))(day:Int)(i:Nat)(l:List Visit)(h:v[i]?=some l):Jv l day i l.length=YN v day i:=by simp_all[Jv,YN]
theorem Zhk{l:List Visit}{k:Nat}{w:Visit}(h:l[k]?=some w)(day:Int)(i:Nat):Jv l day i (k+1)=Jv l day i k++(if w.d=day then [⟨i,w.q⟩] else []):=by grind[Jv,List.take_add_one]
structure VsOk (m n:Nat) (v:List (List Visit)):Prop where
 len:v.length=m
 ok:∀l∈v,∀w∈l,(0<=w.d/\w.d<n)/\1<=w.q/\w.q<=2147483648
 nd:∀l∈v,(l.map (·.d)).Nodup
 few:∀l∈v,l.length<=1000
theorem VsOk.at{m n:Nat}{v:List (List Visit)}(h:VsOk m n v)(i:Nat):(∀w∈v.getD i [],(0<=w.d/\w.d<n)/\1<=w.q/\w.q<=2147483648)/\((v.getD i []).map (·.d)).Nodup:=by
 rw[Aa];cases e:v[i]? with
 | none=>simp
 | some l=>exact⟨h.ok l (Ab e),h.nd l (Ab e)⟩
theorem Zqr{l:List Visit}(h:(l.map (·.d)).Nodup)(day:Int):(l.filter (λw=>w.d=day)).length<=1:=by
 have h1:=(List.filter_sublist (p:=λw:Visit=>decide (w.d=day)) (l:=l)).map (·.d);have h2:=h.sublist h1;have h3:∀w∈l.filter (λw=>w.d=day),w.d=day:=λw hw=>by simp_all
 generalize l.filter (λw=>decide (w.d=day))=m at h2 h3
 match m,h2,h3 with
 | [],_,_=>simp
 | [_],_,_=>simp
 | a :: b :: m,h2,h3 =>
  simp_all
theorem Zqs{m n:Nat}{v:List (List Visit)}(h:VsOk m n v)(day:Int)(i:Nat):(YN v day i).length<=1:=by
 unfold YN;rw[List.length_map];exact Zqr (h.at i).2 day
theorem Zqt{m n:Nat}{v:List (List Visit)}(h:VsOk m n v){day:Int}{i:Nat}{s:Stop}(hs:s∈YN v day i):s.c=i/\1<=s.q/\s.q<=2147483648:=by
 obtain⟨w,hw,rfl⟩:=Al.1 hs;exact⟨rfl,((h.at i).1 w (Bl.1 hw).1).2⟩
theorem ZcR{m n:Nat}{v:List (List Visit)}(h:VsOk m n v)(day:Int):∀k:Nat,(xh v day k).length<=k/\(∀s∈xh v day k,(0<=s.c/\s.c<k)/\1<=s.q/\s.q<=2147483648)/\((xh v day k).map (·.c)).Nodup
 | 0=>⟨by simp[xh],by simp[xh],by simp[xh]⟩
 | k+1=>by
  obtain⟨h1,h2,h3⟩:=ZcR h day k;have h4:=Zqs h day k;have h5:∀s∈YN v day k,s.c=k/\1<=s.q/\s.q<=2147483648:=λs hs=>Zqt h hs
  rw[Zhj];refine⟨by grind,λs hs=>?_,?_⟩
  ·grind
  ·rw[List.map_append];generalize YN v day k=e at h4 h5
   match e,h4,h5 with
   | [],_,_=>simpa using h3
   | [s],_,h5 =>
    grind
   | _ :: _ :: _,h4,_=>simp at h4
structure InstH (x:Inst):Prop where
 cust:x.cust.length<=1000
 diag:arc x 0 0=0
 arc:qt x
 veh:0<=x.veh
theorem Zhl{x:Inst}(hx:InstH x){n:Nat}{v:List (List Visit)}(h:VsOk x.cust.length n v)(day:Int):SOk x (xh v day x.cust.length):=by
 obtain⟨h1,h2,h3⟩:=ZcR h day x.cust.length;have:=hx.cust;exact⟨by omega,hx.arc,hx.veh,by omega,λs hs=>by grind[qb],h3⟩
def XA(x:Inst)(v:List (List Visit))(b:Int)(n:Nat):List (zk × Int):=(List.range n).map λd:Nat=>uF x b (xh v d x.cust.length)
def xV(x:Inst)(v:List (List Visit))(b:Int)(n:Nat):zA:=(XA x v b n).map (·.1)
def jp(x:Inst)(v:List (List Visit))(b:Int)(n:Nat):List Int:=(XA x v b n).map (·.2)
theorem ZcS(x:Inst)(v:List (List Visit))(b:Int)(n:Nat):(xV x v b n).length=n:=by simp[xV,XA]
theorem Zhm(x:Inst)(v:List (List Visit))(b:Int)(n:Nat):(jp x v b n).length=n:=by simp[jp,XA]
theorem Zqu(x:Inst)(v:List (List Visit))(b:Int)(n:Nat):xV x v b (n+1)=xV x v b n++[(uF x b (xh v n x.cust.length)).1]:=by simp[xV,XA,AL]
theorem Zqv(x:Inst)(v:List (List Visit))(b:Int)(n:Nat):jp x v b (n+1)=jp x v b n++[(uF x b (xh v n x.cust.length)).2]:=by simp[jp,XA,AL]
open Go Go.Proofs Hp
theorem Zqw(x:Inst)(v:List (List Visit))(day:Int)(n:Nat)(hx:x.cust.length<=1000)(hv:VsOk x.cust.length n v):Pure prog 250 [.agg (zy x),L v,I day] (L (xh v day x.cust.length)):=by
 have hvl:=hv.len;have hso:=λk=>(ZcR hv day k).1
 have hmi:je (x.cust.length:Int) (x.cust.length:Int)=x.cust.length:=by unfold je;simp
 refine zt func250 ntmps250 results250 λS nx hd=>?_
 refine DQ ?_;intro v0;refine DQ ?_;refine za (jg 7 100 2 rfl λv1=>?_);refine DQ ?_;refine zj (zD (λs:Nat × List Stop × Nat=>s.1<=x.cust.length/\s.2.1=xh v day s.1) (λ(i,out,w)=>[(1,L v),(2,I day),(7,.sl (nx+1) w 2 0 out.length),(16,I x.cust.length),(17,I i)]) (λ(i,out,w)=>[.cells v0 25 (zy x),.cells w 100 (out.flatMap Enc.enc)]) (λs=>x.cust.length-s.1) (0,[],v1) [] (by simp[xh]) (by simp[hvl,hmi]) DI ?_);rintro⟨i,out,w⟩ ⟨hi,ho⟩;simp only at hi ho ⊢;refine DQ ?_;refine za (zv rfl (λhc=>?_) (λhc=>?_))
 ·simp at hc;have hiv:i<v.length:=DH
  obtain⟨l,tl,a1,a2,a3,e0⟩:=zJ rfl v i hiv;have hll:=hv.few l (Ab a1);have hoi:=hso i;refine zh (za (zj (DQ ?_)));refine za (ze [] (zo e0 hiv) ?_);refine zj (zD (λs:Nat × List Stop × Nat=>s.1<=l.length/\s.2.1=xh v day i++Jv l day i s.1/\s.2.1.length<=i+s.1) (λ(k,out,w)=>[(1,L v),(2,I day),(7,.sl (nx+1) w 2 0 out.length),(8,I i),(16,I x.cust.length),(17,I i),(23,L l),(24,I l.length),(25,I k)]) (λ(k,out,w)=>[.cells v0 25 (zy x),.cells w 100 (out.flatMap Enc.enc)]) (λs=>l.length-s.1) (0,out,w) [] ⟨by simp,by simp[Zqp,ho],by simp[ho];omega⟩ DI DI ?_);clear ho;rintro⟨k,out,w⟩ ⟨hk,ho,hol⟩;simp only at hk ho hol ⊢;refine DQ ?_;refine za (zv rfl (λhc2=>?_) (λhc2=>?_))
  ·simp at hc2;obtain⟨s,tl2,b1,b2,b3,e1,e2⟩:=el 2 rfl l k hc2;refine zh (za (zj (za (ze [] (zF e1 e2 hc2) ?_))));intro v2;refine DQ ?_
   by_cases hd:s.d=day
   ·repeat apply za
    refine zn (by simp[hd]) ?_;refine zb ?_;refine⟨by omega,?_⟩;refine zb ?_;exact zq (k+1,out++[⟨i,s.q⟩],w+1) [_] ⟨hc2,by rw[Zhk b1,if_pos hd,ho];simp,by simp;omega⟩ DL (by simp[zu k (by omega)]) rfl DJ
   ·repeat apply za
    refine zm (by simp[hd]) ?_;refine zh (zb ?_);exact zq (k+1,out,w) [_] ⟨hc2,by rw[Zhk b1,if_neg hd,ho];simp,by dsimp only;omega⟩ DL (by simp[zu k (by omega)]) rfl DJ
  ·simp at hc2;obtain rfl:k=l.length:=DH
   rw[Zqq v day i l a1,<-Zhj]at ho;refine zx (zb ?_);exact zq (i+1,out,w) [] ⟨hc,ho⟩ DL (by simp[zu i (by omega)]) rfl DI
 ·simp at hc;obtain rfl:i=x.cust.length:=DH
  refine zx (yb 1 rfl ?_);refine DQ ?_;exact zg (zi hd DJ (by simp[zp,ho]))
open Go
section
variable {P:Program} {r:Rd} {n N:Nat} {Q:Exit->(Nat->PV)->Store->Prop} {F:Nat->PV} {c:Code}
theorem Zqx{S1 T:Store}{G:Nat->PV}{id ver e:Nat}{cs:List PV}(hid:S1 id=.cells ver e cs)(hT:T id=.dead)(hat:∀o,T o=.dead\/T o=S1 o\/T o=xH id ver cs (S1 o))
  (hG:∀i,G i=F i\/G i=qf id ver cs (F i)) (h:PW P r n N c Q G T):PW P r n N c Q F S1:=by
 refine Yw (F':=G) (S':=T) (λC w a st=>?_) h;have hver:∀o v,(T o).ver=some v->(S1 o).ver=some v:=by
  intro o v hv;rcases hat o with q | q | q
  ·rw[q]at hv;cases hv
  ·simp_all
  ·grind[Zez]
 have hne:∀o,T o≠.dead->S1 o≠.dead:=by
  intro o ho hd;rcases hat o with q | q | q
  ·exact ho q
  ·simp_all
  ·simp_all
 have hM:∀b,C.M T b->C.M S1 b:=λb ⟨o,k,ho,hl⟩=>⟨o,k,hne o ho,hl⟩
 have hstep:Step C S1 w C T w:=⟨rfl,⟨rfl,Ag _⟩,rfl,Ag _,Ag _,Ag _,λb _ hb=>⟨rfl,λh=>hb (hM b h)⟩,λo v1 hv=>.inr ⟨v1,hver o v1 hv,Ag _,λ_=>rfl⟩⟩;have hrel:∀{p u},Rel C S1 w p u->Rel C T w (qf id ver cs p) u:=λh=>Wj st.sim hid hT hne hstep h
 refine⟨C,⟨⟨λo ho=>st.sim.lt o (hne o ho),λo v hv=>st.sim.clk o v (hver o v hv),λo o' b k k' ho ho'=>st.sim.dist o o' b k k' (hne o ho) (hne o' ho'),?_,?_⟩,st.size,λi=>?_,r.keep hstep st.v⟩,hstep⟩
 ·intro o v e' ds ho;rcases hat o with q | q | q
  ·simp_all
  ·rw[q]at ho;rcases st.sim.cells o v e' ds ho with hn | ⟨b,k,c,h1,h2,h3,h4,h5,h6⟩
   ·exact .inl hn
   ·exact .inr ⟨b,k,c,h1,h2,h3,h4,h5,λi p u hp hu=>(h6 i p u hp hu).mono hstep⟩
  ·rw[q]at ho;cases hs:S1 o with
   | dead=>simp_all
   | map v es=>simp_all
   | cells v2 e2 ds2 =>
    rw[hs]at ho;cases ho;rcases st.sim.cells o _ _ ds2 hs with ⟨h1,h2⟩ | ⟨b,k,c,h1,h2,h3,h4,h5,h6⟩<;>grind
 ·intro o v es ho;have hs:S1 o=.map v es:=by
   rcases hat o with q | q | q
   ·simp_all
   ·simp_all
   ·rw[q]at ho;cases hs:S1 o with
    | dead=>simp_all
    | map v es=>simp_all
    | cells v2 e2 ds2=>simp_all
  obtain⟨b,k,ms,cl,h1,h2,h3,h4⟩:=st.sim.maps o v es hs;exact⟨b,k,ms,cl,h1,h2,h3,λi x m hx hm=>⟨(h4 i x m hx hm).1,(h4 i x m hx hm).2.mono hstep⟩⟩
 ·rcases hG i with q | q
  ·rw[q];exact(st.fr i).mono hstep
  ·rw[q];exact hrel (st.fr i)
def vI{α:Type}(base sz:Nat)(ws:Nat->Nat)(rows:List (List α)):List PV:=(List.range rows.length).map λi=>.sl (base+i) (ws i) sz 0 (rows.getD i []).length
theorem ZcT{α:Type}(base sz:Nat)(ws:Nat->Nat)(rows:List (List α)):(vI base sz ws rows).length=rows.length:=by simp[vI]
theorem Zhn{α:Type}(base sz:Nat)(ws:Nat->Nat)(rows:List (List α))(i:Nat)(h:i<rows.length):(vI base sz ws rows)[i]?=some (.sl (base+i) (ws i) sz 0 (rows.getD i []).length):=by
 simp[vI,h]
theorem ZcU{α:Type}(base sz:Nat)(ws:Nat->Nat)(rows:List (List α))(i:Nat)(h:i<rows.length):∃tl,(vI base sz ws rows).drop i=.sl (base+i) (ws i) sz 0 (rows.getD i []).length :: tl:=by
 refine⟨(vI base sz ws rows).drop (i+1),?_⟩
 grind[vI,List.drop_eq_getElem_cons]
structure RowsAt {α:Type} [Enc α] (T:Store) (A va tA base e sz:Nat) (ws:Nat->Nat) (rows:List (List α)):Prop where
 arr:T A=.cells va tA (vI base sz ws rows)
 row:∀i,i<rows.length->T (base+i)=.cells (ws i) e ((rows.getD i []).flatMap Enc.enc)
 out:A<base
theorem RowsAt.other{α:Type}[Enc α]{T T':Store}{A va tA base e sz:Nat}{ws:Nat->Nat}{rows:List (List α)}(h:RowsAt T A va tA base e sz ws rows)(hT:∀o,o=A\/(base<=o/\o<base+rows.length)->T' o=T o):RowsAt T' A va tA base e sz ws rows :=
 ⟨(hT A (.inl rfl)).trans h.arr,λi hi=>(hT _ (.inr ⟨by omega,by omega⟩)).trans (h.row i hi),h.out⟩
theorem RowsAt.turn{α:Type}[Enc α]{T T':Store}{A va tA base e sz:Nat}{ws:Nat->Nat}{rows:List (List α)}(h:RowsAt T A va tA base e sz ws rows){i:Nat}(hi:i<rows.length)(w:Nat)(l:List α)
  (hA:T' A=.cells va tA ((vI base sz ws rows).set i (.sl (base+i) w sz 0 l.length))) (hB:T' (base+i)=.cells w e (l.flatMap Enc.enc)) (hT:∀o,o≠A->o≠base+i->T' o=T o):RowsAt T' A va tA base e sz (λk=>if k=i then w else ws k) (rows.set i l):=by
 have hout:=h.out;refine⟨?_,λk hk=>?_,h.out⟩
 ·rw[hA];congr 1;apply A5
  grind[ZcT,Zhn]
 ·rw[BE]at hk
  by_cases hki:k=i
  ·simp_all
  ·rw[hT _ DH DH,h.row k hk,if_neg hki]
   grind
theorem Zqy{α:Type}(base sz:Nat)(ws:Nat->Nat)(m:Nat):vI (α:=α) base sz ws (List.replicate m [])=(List.range m).map λi=>.sl (base+i) (ws i) sz 0 0:=by simp_all[vI]
theorem Zho{α:Type}[Enc α](A va tA base e sz m:Nat)(hAb:A<base):∀(j k:Nat) (T:Store) (ws:Nat->Nat),k+j=m->T A=.cells va tA ((List.range k).map (λi=>.sl (base+i) (ws i) sz 0 0)++List.replicate j (.sc (.slice none 0 0))) ->
  (∀i,i<k->T (base+i)=.cells (ws i) e [])->zW (base+k) T ->
  (∀(T':Store) (ws':Nat->Nat),RowsAt T' A va tA base e sz ws' (List.replicate m ([]:List α))->(∀o,o≠A->o<base->T' o=T o)->zW (base+m) T'->PW P r n N c Q F T')->PW P r n N c Q F T
 | 0,k,T,ws,hk,hA,hrow,hd,h=>by
  obtain rfl:k=m:=DH
  refine h T ws ⟨by rw[hA,Zqy];simp,λi hi=>?_,hAb⟩ (λ_ _ _=>rfl) hd
  simp_all
 | j+1,k,T,ws,hk,hA,hrow,hd,h=>by
  have hget:((List.range k).map (λi=>PV.sl (base+i) (ws i) sz 0 0)++List.replicate (j+1) (.sc (.slice none 0 0)))[k]?=some (.sc (.slice none 0 0)):=by
   rw[Aj DI];simp
  refine Zbs (o:=A) k e sz hA hget (ZN (X:=λid v=>PW P r n N c Q F ((T.set id (.cells v e [])).set A (.cells va tA (((List.range k).map (λi=>PV.sl (base+i) (ws i) sz 0 0)++List.replicate (j+1) (PV.sc (.slice none 0 0))).set k (.sl id v sz 0 0))))) (base+k) (hd _ (Ag _)) λv=>?_);refine Zho A va tA base e sz m hAb j (k+1) _ (λi=>if i=k then v else ws i) DH ?_ ?_ ?_ λT' ws' hR hT' hd'=>h T' ws' hR (λo ho hob=>?_) hd'
  ·rw[q11];congr 1;rw[BB _ _ DI,AL,List.map_append];simp only[List.length_map,List.length_range,Bp,BA,A4,AA,Bo,if_true];rw[List.append_assoc];congr 1;refine AO λi hi=>?_
   have:=AP.1 hi;rw[if_neg DH]
  ·intro i hi;rw[q10 _ _ _ _ DH]
   by_cases hik:i=k
   ·subst hik;rw[q11,if_pos rfl]
   ·rw[q10 _ _ _ _ DH,if_neg hik];exact hrow i DH
  ·intro i hi;rw[q10 _ _ _ _ DH,q10 _ _ _ _ DH];exact hd i DH
  grind[q10]
theorem Zqz{α:Type}[Enc α](A va tA base e sz m:Nat){T:Store}(hA:T A=.cells va tA (List.replicate m (.sc (.slice none 0 0))))(hd:zW base T)
  (h:∀(T':Store) (ws:Nat->Nat),RowsAt T' A va tA base e sz ws (List.replicate m ([]:List α))->(∀o,o≠A->o<base->T' o=T o)->zW (base+m) T'->PW P r n N c Q F T'):PW P r n N c Q F T:=by
 have hAb:A<base:=by
  rcases Bh A base with q | q
  ·exact q
  ·rw[hd A q]at hA;cases hA
 exact Zho A va tA base e sz m hAb m 0 T (λ_=>0) DH (by simpa using hA) (λi hi=>by omega) DH h
theorem Zhp{nx:Nat}{S:Store}{obs:List Ob}{id ver e0:Nat}{cs:List PV}(i e sz:Nat)(hlt:id<nx)(hs:S id=.cells ver e0 cs)(hi:cs[i]?=some (.sc (.slice none 0 0)))
  (h:∀v,PW P r n N c Q F (ext (S.set id (.cells ver e0 (cs.set i (.sl (nx+obs.length) v sz 0 0)))) nx (obs++[.cells v e []]))):PW P r n N c Q F (ext S nx obs) :=
 Zbs (o:=id) i e sz (by simp_all[zB]) hi (ZN (X:=λid' v=>PW P r n N c Q F (((ext S nx obs).set id' (.cells v e [])).set id (.cells ver e0 (cs.set i (.sl id' v sz 0 0))))) _ uU λv=>by
  rw[qG,yZ _ hlt];exact h v)
end
open Go Go.Proofs
instance:Enc Mv:=⟨λm=>u5 m,5,λ_=>rfl,λ_=>rfl⟩
@[simp] theorem ZyO(m:Mv):Enc.enc m=u5 m:=rfl
@[simp high] theorem ZyP(l:List Mv):(l.flatMap Enc.enc).length=l.length*5:=j4 l
@[simp high] theorem ZyQ(l:List Mv):(l.flatMap Enc.enc).take (l.length*5)=l.flatMap Enc.enc:=YB l
open Go Go.Proofs Hp
abbrev xy(x:Inst)(v:PV)(b:Int)(p f pr:PV):List PV:=[I x.days,I x.veh,I x.cap,I x.len,L x.cust,L x.dist,v,I b,p,f,pr]
theorem ZqA{S:Store}{id ver idF vF:Nat}(x:Inst)(v p pr:PV)(b:Int)(fs:List Int)(hS:S id=.cells ver 235 (xy x v b p (.sl idF vF 1 0 fs.length) pr))(hF:S idF=.cells vF 47 (fs.flatMap Enc.enc))(hl:fs.length<=1000):
  Spec prog 212 [.ptr id ver 0] S (λq S'=>q=I (jz fs)/\S'=S):=by
 refine yi func212 ntmps212 results212 λnx hd=>?_
 have hlt:id<nx:=yU hd hS DI;have hltF:idF<nx:=yU hd hF DI;have xw:=λobs=>zB (S:=S) (obs:=obs) hlt
 have xf:=λobs=>zB (S:=S) (obs:=obs) hltF
 refine DQ ?_
 repeat apply za
 refine ze [] (zo xw hS) ?_;refine zj (zD (λk:Nat=>k<=fs.length/\∀e∈fs.take k,e=0) (λk=>[(8,.sl idF vF 1 0 fs.length),(9,I fs.length),(10,I k)]) (λ_=>[]) (λk=>fs.length-k) 0 [] DI DI DI ?_);rintro k ⟨hk,h0⟩;refine DQ ?_;refine za (zv rfl (λhc=>?_) (λhc=>?_))
 ·simp at hc;obtain⟨e,tl,a1,a2,a3,e0⟩:=zJ rfl fs k hc;refine zh (za (zj (za (ze [] (zV xf hF e0 hc) ?_))));refine DQ ?_
  by_cases he:e=0
  ·repeat apply za
   refine zm (by simp[he]) ?_;refine zh (zb ?_);exact zq (k+1) [] ⟨hc,λy hy=>by rw[a3]at hy;rcases AB.1 hy with h | h;exact h0 y h;rw[A3.1 h];exact he⟩ DH (by simp[zu k (by omega)]) rfl DI
  ·repeat apply za
   refine zn (by simp[he]) ?_;refine DQ ?_;exact zg ⟨_,S,rfl,⟨by simp[zp,ZcP h0 a1 he],rfl⟩,zR hd⟩
 ·simp at hc;obtain rfl:k=fs.length:=DH
  rw[Ak]at h0;refine zx (DQ ?_);exact zg ⟨_,S,rfl,⟨by simp[zp,Zat h0],rfl⟩,zR hd⟩
theorem ZqB{S:Store}{id ver idD vD idF vF:Nat}{x:Inst}{v:List (List Visit)}{b:Int}{pr:PV}{ds:zA}{fs:List Int}{n:Nat}(k:Nat)(hS:S id=.cells ver 235 (xy x (L v) b (.sl idD vD 1 0 ds.length) (.sl idF vF 1 0 fs.length) pr))
  (hD:S idD=.cells vD 39 (ds.flatMap Enc.enc)) (hF:S idF=.cells vF 47 (fs.flatMap Enc.enc)) (d1:id≠idD) (d2:id≠idF) (d3:idD≠idF) (hx:InstH x) (hv:VsOk x.cust.length n v) (hb:b<=9223372036854775807) (hdl:ds.length<=1000) (hfl:fs.length<=1000) :
  Spec prog 211 [.ptr id ver 0,I k] S (λ_ S'=>S'=((S.set id (.cells ver 235 (xy x (L v) b (.sl idD (vD+1) 1 0 (ds.length+1)) (.sl idF (vF+1) 1 0 (fs.length+1)) pr))).set idD (.cells (vD+1) 39 ((ds++[(uF x b (xh v k x.cust.length)).1]).flatMap Enc.enc))).set idF
   (.cells (vF+1) 47 ((fs++[(uF x b (xh v k x.cust.length)).2]).flatMap Enc.enc))):=by
 have hst:=Zqw x v k n hx.cust hv;have hso:=ZpG (Zhl hx hv k) hx.diag hb;generalize xh v k x.cust.length=st at hst hso ⊢;generalize uF x b st=r at hso ⊢;obtain⟨d,e⟩:=r;simp only at hso ⊢;refine yi func211 ntmps211 results211 λnx hd=>?_
 have hlt:id<nx:=yU hd hS DI;have hltD:idD<nx:=yU hd hD DI;have hltF:idF<nx:=yU hd hF DI;have xw:=λobs=>(zB (S:=S) (obs:=obs) hlt).trans hS
 have xd:=λobs=>(zB (S:=S) (obs:=obs) hltD).trans hD
 have xf:=λobs=>(zB (S:=S) (obs:=obs) hltF).trans hF
 have g1:¬nx<=id:=DH
 have g2:¬nx<=idD:=DH
 have g3:¬nx<=idF:=DH
 have yw:=λ(o:Ob) obs=>(zB (S:=S.set idD o) (obs:=obs) hlt).trans ((q10 _ _ _ _ d1).trans hS)
 have zw:=λ(o o':Ob) obs=>(zB (S:=(S.set idD o).set id o') (obs:=obs) hlt).trans (q11 _ _ _)
 have zf:=λ(o o':Ob) obs=>(zB (S:=(S.set idD o).set id o') (obs:=obs) hltF).trans ((q10 _ _ _ _ d2.symm).trans ((q10 _ _ _ _ d3.symm).trans hF))
 have uw:=λ(o o' o'':Ob) obs=>(zB (S:=((S.set idD o).set id o').set idF o'') (obs:=obs) hlt).trans ((q10 _ _ _ _ d2).trans (q11 _ _ _))
 refine za (zz (some [id]) (Row.pures [0,1,2,3,4,5,6,7,8,9,10,11,12,13,14,15,16,17,18,19,20,21] (.alt 22 (.alt 23 (Row.pures [24] .done) .stop) .stop)) mixed xw ?_);refine zK (hst) xw ?_;refine zK (hso) xw ?_;intro v2;refine za (zz (some [nx]) (Row.pures [0,1,2,3,4,6,7] (.alt 5 (.alt 8 (Row.pures [9,10,11] (.alt 12 (.done) .stop)) .stop) .stop)) mixed (yE xw xd yw g1 g2) ?_);refine⟨by omega,?_⟩;refine ze [] (yE zw zf uw g1 g3) ?_;refine⟨by omega,?_⟩;have e1:∀(a b c d:Ob),(((S.set idD a).set id b).set idF c).set id d=((S.set id d).set idD a).set idF c:=by
  intro a b c d;funext i;simp only[Store.set]
  by_cases h1:i=id
  ·subst h1;simp[d1,d2]
  ·simp only[h1,if_false]
 have hdd:∀(a b c:Ob),zW nx (((S.set id a).set idD b).set idF c):=by
  intro a b c i hi;rw[q10 _ _ _ _ DH,q10 _ _ _ _ DH,q10 _ _ _ _ DH];exact hd i hi
 rw[e1];exact⟨_,_,rfl,by simp,zR (hdd _ _ _)⟩
theorem ZqC{S:Store}{id ver:Nat}(x:Inst)(v p f pr:PV)(b:Int)(fn:FuncId)(fs:List PV)(n:Nat)(hn:x.days=n)(hn2:n<=1000)(hS:S id=.cells ver 235 (xy x v b p f pr))(St:Nat->Store)(h0:St 0=S)
  (hSt:∀nx,zW nx S->∀k,k<=n->zW nx (St k)) (hstep:∀k,k<n->Spec prog fn (fs++[I k]) (St k) (λ_ S'=>S'=St (k+1))) :
  Spec prog 173 [.ptr id ver 0,.fn (.func fn) fs []] S (λ_ S'=>S'=St n):=by
 refine yi func173 ntmps173 results173 λnx hd=>?_
 have hlt:id<nx:=yU hd hS DI;have xw:=λobs=>(zB (S:=S) (obs:=obs) hlt).trans hS
 have hSt:=hSt nx hd;refine za (ze [] (zo xw hn) ?_);refine zj (jt (σ:=Nat) (λk=>k<=n) (λk=>[(1,.fn (.func fn) fs []),(9,I n),(10,I k)]) (λk=>St k) (λ_=>[]) (λk=>n-k) (z8 0 [] DI DI h0 DI) ?_);rintro k hk;refine DQ ?_;refine za (zv rfl (λhc=>?_) (λhc=>?_))
 ·simp at hc;refine zh (za (zj (DQ ?_)));refine zb ?_;refine λhsuf=>(Spec.mono (by rw[qB (hSt k hk)];simpa using hstep k hc) ?_).v
  rintro _ _ rfl;refine⟨St (k+1),[],(qB (hSt (k+1) hc)).symm,zG hsuf ?_⟩;refine zb ?_;exact zq (k+1) [] hc DH (by simp[zu k (by omega)]) rfl DI
 ·simp at hc;obtain rfl:k=n:=DH
  refine zx ?_;exact⟨_,_,rfl,rfl,zR (hSt k (Ag _))⟩
theorem ZqD{S:Store}{nx id ver:Nat}(hd:zW nx S){x:Inst}{v:List (List Visit)}{v0 p0 f0 pr:PV}{b:Int}{n:Nat}(hS:S id=.cells ver 235 (xy x v0 b p0 f0 pr))(hx:InstH x)(hn:x.days=n)(hn2:n<=1000)(hv:VsOk x.cust.length n v)(hb:b<=9223372036854775807):
  Spec prog 176 [.ptr id ver 0,L v] S (λq S'=>q=I (jz (jp x v b n))/\∃vD vF,S'=ext (S.set id (.cells ver 235 (xy x (L v) b (.sl nx vD 1 0 (xV x v b n).length) (.sl (nx+1) vF 1 0 (jp x v b n).length) pr))) nx
   [.cells vD 39 ((xV x v b n).flatMap Enc.enc),.cells vF 47 ((jp x v b n).flatMap Enc.enc)]):=by
 have hpl:=ZcS x v b;have hfl:=Zhm x v b;refine ut hd func176 ntmps176 results176 ?_;have hlt:id<nx:=yU hd hS DI;have g1:¬nx<=id:=DH
 have xw:=λobs=>(zB (S:=S) (obs:=obs) hlt).trans hS
 have yw:=λ(o:Ob) obs=>(zB (S:=S.set id o) (obs:=obs) hlt).trans (q11 _ _ _)
 refine DQ ?_;refine za (ze [] (zV xw yw g1 Store.set_set) ?_);refine Zhp (id:=id) 8 39 1 hlt (q11 _ _ _) rfl λvD=>?_
 rw[Store.set_set];refine Zhp (id:=id) 9 47 1 hlt (q11 _ _ _) rfl λvF=>?_
 rw[Store.set_set];simp only[AV,A4,Ad,Ah,List.cons_append,AT,Bx,AS];generalize hSt:(λk:Nat=>ext (S.set id (.cells ver 235 (xy x (L v) b (.sl nx (vD+k) 1 0 (xV x v b k).length) (.sl (nx+1) (vF+k) 1 0 (jp x v b k).length) pr))) nx
   [.cells (vD+k) 39 ((xV x v b k).flatMap Enc.enc),.cells (vF+k) 47 ((jp x v b k).flatMap Enc.enc)])=St
 have hSk:∀k,St k=ext (S.set id (.cells ver 235 (xy x (L v) b (.sl nx (vD+k) 1 0 (xV x v b k).length) (.sl (nx+1) (vF+k) 1 0 (jp x v b k).length) pr))) nx
   [.cells (vD+k) 39 ((xV x v b k).flatMap Enc.enc),.cells (vF+k) 47 ((jp x v b k).flatMap Enc.enc)]:=λk=>by rw[<-hSt]
 have h0:St 0=ext (S.set id (.cells ver 235 (xy x (L v) b (.sl nx vD 1 0 0) (.sl (nx+1) vF 1 0 0) pr))) nx [.cells vD 39 [],.cells vF 47 []]:=hSk 0;have hid:∀k,St k id=.cells ver 235 (xy x (L v) b (.sl nx (vD+k) 1 0 (xV x v b k).length) (.sl (nx+1) (vF+k) 1 0 (jp x v b k).length) pr):=λk=>by rw[hSk k,zB hlt,q11]
 have hstep:∀k,k<n->Spec prog 211 ([.ptr id ver 0]++[I k]) (St k) (λ_ S'=>S'=St (k+1)):=by
  intro k hk;have h1:=hpl k;have h2:=hfl k;refine(ZqB (idD:=nx) (idF:=nx+1) (n:=n) k (hid k) (by rw[hSk k];simp) (by rw[hSk k];simp) DH DH DH hx hv hb DH DH).mono ?_;rintro _ _ rfl;rw[hSk k,hSk (k+1),yZ _ hlt,Store.set_set,yc _ DH DI,yc _ DH DI,Zqu,Zqv];simp[Nat.add_assoc]
 have hdead:∀m,zW m (St 0)->∀k,k<=n->zW m (St k):=by
  intro m hm k _ i hi;have hge:nx+1<m:=by
   rcases Bh (nx+1) m with q | q
   ·exact q
   ·have:=hm (nx+1) q;rw[hSk 0]at this;simp at this
  rw[hSk k];simp only[ext];rw[if_neg DH,Aa,An DL];rfl
 rw[<-h0];have hn0:=hid 0;have hnx2:nx+2=nx+[Ob.cells (vD+0) 39 ((xV x v b 0).flatMap Enc.enc),.cells (vF+0) 47 ((jp x v b 0).flatMap Enc.enc)].length:=rfl;have hb0:∀k,St k=ext (St k) (nx+2) []:=λk=>by
  refine(qB ?_).symm;rw[hSk k];exact jF (obs:=[_,_])
 rw[hb0 0];refine DQ ?_;refine λhsuf=>((ZqC x (L v) _ _ pr b _ _ n hn hn2 (by rw[<-hb0 0];exact hn0) St (hb0 0) (λm hm k hk=>hdead m (by rw[hb0 0];exact hm) k hk) hstep).mono ?_).v
 rintro _ _ rfl;refine⟨_,_,hb0 n,zG hsuf ?_⟩;refine DQ ?_;refine λhsuf=>((ZqA (idF:=nx+1) x _ _ _ _ (jp x v b n) (by rw[<-hb0 n];exact hid n) (by rw[<-hb0 n,hSk n];simp) (by rw[hfl];exact hn2)).mono ?_).v
 rintro _ _ ⟨rfl,rfl⟩;refine⟨_,_,rfl,zG hsuf ?_⟩;refine zg ⟨_,St n,rfl,⟨by simp[zp],vD+n,vF+n,hSk n⟩,λo=>.inl ?_⟩;rw[<-hb0 n]
open Go Go.Proofs Hp
theorem ZqE(n:Nat):yS n (.slice none 0 0)=List.replicate n (.sc (.slice none 0 0)):=by
 induction n with
 | zero=>simp
 | succ n ih=>rw[Qg,ih];rfl
open Go
abbrev T(s:ByteArray):PV:=.sc (.string s)
instance:Enc ByteArray:=⟨λx=>[T x],1,λ_=>rfl,λ_=>rfl⟩
@[simp] theorem ZyR(x:ByteArray):Enc.enc x=[T x]:=rfl
@[simp high] theorem Zav(l:List ByteArray):(l.flatMap Enc.enc).length=l.length:=(j4 l).trans (BS _)
abbrev bs(l:List UInt8):ByteArray:=⟨l.toArray⟩
theorem ZqF(a b:List UInt8):bs a++bs b=bs (a++b):=by
 apply ByteArray.ext;simp
theorem wZ(l:List UInt8):(bs l).size=l.length:=by simp[ByteArray.size]
def zH(n:Nat):List UInt8:=if h:n<10 then [UInt8.ofNat (48+n)] else zH (n / 10)++[UInt8.ofNat (48+n % 10)]
termination_by n
decreasing_by omega
theorem QF{n:Nat}(h:n<10):zH n=[UInt8.ofNat (48+n)]:=by simp_all[zH]
theorem Jw{n:Nat}(h:¬n<10):zH n=zH (n / 10)++[UInt8.ofNat (48+n % 10)]:=by rw[zH,dif_neg h]
def YO(l:List UInt8):Nat:=l.foldl (λa c=>10*a+(c.toNat-48)) 0
theorem Zhq(l:List UInt8)(c:UInt8):YO (l++[c])=10*YO l+(c.toNat-48):=by simp[YO]
theorem Ya{k:Nat}(h:k<10):(UInt8.ofNat (48+k)).toNat=48+k:=by grind[UInt8.toNat_ofNat']
theorem ZqG(n:Nat):YO (zH n)=n:=by
 induction n using Nat.strongRecOn with
 | _ n ih =>
  by_cases h:n<10
  ·rw[QF h];simp only[YO,AY,List.foldl_nil,Ya h];omega
  grind[Jw,Zhq,Ya]
theorem Zhr(n:Nat):∀c∈zH n,48<=c.toNat/\c.toNat<=57:=by
 induction n using Nat.strongRecOn with
 | _ n ih =>
  intro c hc
  by_cases h:n<10
  ·grind[QF,Ya]
  ·rw[Jw h,AB,A3]at hc
   grind[Ya]
theorem Zaw(n:Nat):zH n≠[]:=by by_cases h:n<10<;>simp_all[QF,Jw]
theorem ZqH(n:Nat)(h:1<(zH n).length):∃c l,zH n=c :: l/\c.toNat≠48:=by
 induction n using Nat.strongRecOn with
 | _ n ih =>
  by_cases h0:n<10
  ·rw[QF h0]at h;simp at h
  grind[Jw,QF,Ya]
theorem Zax(n:Nat):∀k,n<10 ^ (k+1)->(zH n).length<=k+1:=by
 induction n using Nat.strongRecOn with
 | _ n ih =>
  intro k hk
  by_cases h:n<10
  ·simp_all[QF]
  ·rw[Jw h,Aq,Bm];cases k with
   | zero=>omega
   | succ k =>
    have:=ih (n / 10) DH k DH;omega
def Zy(w:List UInt8):Prop:=w≠[]/\∀c∈w,33<=c.toNat/\c.toNat<=126
theorem QG(n:Nat):Zy (zH n):=⟨Zaw n,λc hc=>by grind[Zhr]⟩
def zO:List (List UInt8)->List UInt8
 | []=>[]
 | [w]=>w
 | w :: v :: ws=>w++32 :: zO (v :: ws)
theorem XB(w v:List UInt8)(ws:List (List UInt8)):zO (w :: v :: ws)=w++32 :: zO (v :: ws):=rfl
theorem Zhs(ws:List (List UInt8))(w v:List UInt8):zO (v :: ws++[w])=zO (v :: ws)++32 :: w:=by
 induction ws generalizing v with
 | nil=>rfl
 | cons u us ih =>
  simp_all[XB]
def yd(ls:List (List (List UInt8))):List UInt8:=ls.flatMap λws=>zO ws++[10]
theorem Yb(ws:List (List UInt8))(ls:List (List (List UInt8))):yd (ws :: ls)=zO ws++10 :: yd ls:=by simp[yd]
theorem Zht(ls:List (List (List UInt8)))(ws:List (List UInt8)):yd (ls++[ws])=yd ls++(zO ws++[10]):=by simp[yd]
theorem ZqI{ws:List (List UInt8)}{c:UInt8}(h:c∈zO ws):c=32\/∃w∈ws,c∈w:=by
 induction ws with
 | nil=>simp[zO]at h
 | cons w ws ih =>
  cases ws with
  | nil=>exact .inr ⟨w,by simp,h⟩
  | cons v ws =>
   grind[XB]
theorem ZqJ{ws:List (List UInt8)}(hw:∀w∈ws,Zy w):(10:UInt8) ∉ zO ws:=by
 intro h;rcases ZqI h with h | ⟨w,hm,hc⟩
 ·cases h
 ·have:=(hw w hm).2 10 hc;simp at this
open Go Go.Proofs
def xz(c:UInt8):List UInt8->Option (List UInt8 × List UInt8)
 | []=>none
 | x :: xs=>if x=c then some ([],xs) else (xz c xs).map λp=>(x :: p.1,p.2)
theorem XC{c:UInt8}{l a b:List UInt8}(h:xz c l=some (a,b)):l=a++c :: b/\c ∉ a:=by induction l generalizing a b<;>grind[xz,Option.map_eq_some_iff]
theorem ZcV{c:UInt8}{l:List UInt8}(h:xz c l=none):c ∉ l:=by induction l<;>grind[xz,Option.map_eq_none_iff]
theorem ZqK{c:UInt8}{a:List UInt8}(b:List UInt8)(h:c ∉ a):xz c (a++c :: b)=some (a,b):=by induction a<;>grind[xz]
theorem Zhu{c:UInt8}{l a b:List UInt8}(h:xz c l=some (a,b)):b.length<l.length:=by
 rw[(XC h).1];simp;omega
def yX(c:UInt8):List UInt8->List (List UInt8)
 | []=>[[]]
 | x :: xs=>if x=c then [] :: yX c xs else match yX c xs with
  | []=>[[x]]
  | h :: t=>(x :: h) :: t
theorem Zhv(c x:UInt8)(xs:List UInt8):yX c (x :: xs)=if x=c then [] :: yX c xs else match yX c xs with
  | []=>[[x]]
  | h :: t=>(x :: h) :: t:=rfl
theorem ZcW(c:UInt8)(l:List UInt8):yX c l≠[]:=by cases l<;>grind[yX]
theorem Zhw{c:UInt8}{a:List UInt8}(h:c ∉ a):yX c a=[a]:=by
 induction a with
 | nil=>rfl
 | cons x a ih =>
  grind[Zhv]
theorem Zhx{c:UInt8}{a:List UInt8}(b:List UInt8)(h:c ∉ a):yX c (a++c :: b)=a :: yX c b:=by induction a<;>grind[Zhv]
theorem ZqL(c:UInt8)(l:List UInt8):yX c l=match xz c l with
  | none=>[l]
  | some (a,b)=>a :: yX c b:=by
 cases h:xz c l with
 | none=>simp_all[Zhw,ZcV]
 | some p=>obtain⟨a,b⟩:=p;obtain⟨h1,h2⟩:=XC h;simp_all[Zhx]
theorem ZqM(c:UInt8)(l:List UInt8):(yX c l).length<=l.length+1:=by induction l<;>grind[yX]
theorem ZqN(c:UInt8)(l:List UInt8):∀w∈yX c l,w.length<=l.length:=by induction l<;>grind[yX]
theorem ZqO{ws:List (List UInt8)}(hne:ws≠[])(hw:∀w∈ws,(32:UInt8) ∉ w):yX 32 (zO ws)=ws:=by
 induction ws with
 | nil=>simp_all
 | cons w ws ih =>
  cases ws with
  | nil=>exact Zhw (hw w DI)
  | cons v ws =>
   simp_all[XB,Zhx]
def Zz(w:List UInt8):Bool:=decide (w≠[]) && w.all λc=>decide (33<=c.toNat/\c.toNat<=126)
theorem Zay(w:List UInt8):Zz w=true<->Zy w:=by simp[Zz,Zy]
theorem Zhy{w:List UInt8}{k:Nat}{c:UInt8}(h:w[k]?=some c)(hc:¬(33<=c.toNat/\c.toNat<=126)):Zz w=false:=by grind[Zz]
def xW(t:List UInt8):Option (List (List (List UInt8))) :=
 if t=[] then some [] else
  match h:xz 10 t with
  | none=>none
  | some (a,b)=>if (yX 32 a).all Zz=true then (xW b).map (yX 32 a :: ·) else none
termination_by t.length
decreasing_by exact Zhu h
theorem Zaz:xW []=some []:=by rw[xW,if_pos rfl]
theorem Zhz{t:List UInt8}(h0:t≠[])(h:xz 10 t=none):xW t=none:=by grind[xW]
theorem ZaA{t a b:List UInt8}(h:xz 10 t=some (a,b)):xW t=if (yX 32 a).all Zz=true then (xW b).map (yX 32 a :: ·) else none:=by
 rw[xW,if_neg (by rintro rfl;cases h)]
 grind
theorem ZqP{t a b:List UInt8}(h:xz 10 t=some (a,b)){k:Nat}{w:List UInt8}(hw:(yX 32 a)[k]?=some w)(hb:Zz w=false):xW t=none:=by
 rw[ZaA h,if_neg]
 grind
theorem ZqQ{w:List UInt8}(h:Zy w):(32:UInt8) ∉ w/\(10:UInt8) ∉ w :=
 ⟨λhc=>by have:=(h.2 32 hc).1;simp at this,λhc=>by have:=(h.2 10 hc).1;simp at this⟩
theorem ZqR{ls:List (List (List UInt8))}(h0:∀l∈ls,l≠[])(h:∀l∈ls,∀w∈l,Zy w):xW (yd ls)=some ls:=by
 induction ls with
 | nil=>exact Zaz
 | cons l ls ih =>
  have hl:=h l DI;have hc:xz 10 (yd (l :: ls))=some (zO l,yd ls):=by
   rw[Yb];exact ZqK _ (ZqJ hl)
  grind[ZqO,ZqQ,ZaA,Zay]
theorem ZqS(l:List UInt8):zO (yX 32 l)=l:=by
 induction l with
 | nil=>rfl
 | cons x xs ih =>
  unfold yX;split
  ·rename_i e;cases h:yX 32 xs<;>simp_all[ZcW,XB]
  ·cases h:yX 32 xs with
   | nil=>simp_all[ZcW]
   | cons v vs =>
    rw[h]at ih;cases vs<;>simp_all[zO]
theorem ZqT(n:Nat):∀{t:List UInt8} {ls:List (List (List UInt8))},t.length<=n->xW t=some ls->yd ls=t/\(∀l∈ls,l≠[])/\(∀l∈ls,∀w∈l,Zy w):=by
 induction n with
 | zero =>
  intro t ls hn h;obtain rfl:=Au (Nat.le_zero.1 hn);rw[Zaz]at h;cases h;exact⟨rfl,by simp,by simp⟩
 | succ n ih =>
  intro t ls hn h
  by_cases h0:t=[]
  ·grind
  ·cases hc:xz 10 t with
   | none=>simp_all[Zhz]
   | some p =>
    obtain⟨a,b⟩:=p;rw[ZaA hc]at h;split at h
    ·rename_i hw;obtain⟨ms,hm,rfl⟩:=Ao.1 h;have:=Zhu hc
     grind[XC,Yb,ZqS,ZcW,Zay]
    ·cases h
theorem ZhA{α:Type}{p:List α->Prop}(h0:p [])(h1:∀l a,p l->p (l++[a]))(l:List α):p l:=by
 have:∀m:List α,p m.reverse:=by
  intro m
  induction m with
  | nil=>exact h0
  | cons a m ih=>rw[Dj];exact h1 _ _ ih
 have:=this l.reverse
 simp_all
def wF(l:List UInt8):Nat:=l.foldl (λn c=>if 100000000000000000<=n then 1000000000000000000 else 10*n+(c.toNat-48)) 0
theorem ZcX(l:List UInt8)(c:UInt8):wF (l++[c])=if 100000000000000000<=wF l then 1000000000000000000 else 10*wF l+(c.toNat-48):=by grind[wF]
def YP(w:List UInt8):Bool:=w.all λc=>decide (48<=c.toNat/\c.toNat<=57)
theorem ZhB{w:List UInt8}{k:Nat}{c:UInt8}(h:w[k]?=some c)(hc:¬(48<=c.toNat/\c.toNat<=57)):YP w=false:=by grind[YP]
def Jx(w:List UInt8):Bool:=match w with
 | []=>true
 | c :: l=>decide (c.toNat=48) && decide (l≠[])
def jV(w:List UInt8):Option Nat:=if Jx w=true then none else if YP w=true then some (wF w) else none
theorem ZhC(l:List UInt8)(h:∀c∈l,c.toNat<=57):wF l<=1000000000000000000:=by
 revert h;refine ZhA (p:=λl:List UInt8=>(∀c∈l,c.toNat<=57)->wF l<=1000000000000000000) (λ_=>by decide) (λl c ih h=>?_) l
 grind[ZcX]
theorem ZqU(w:List UInt8)(h:YO w<100000000000000000):wF w=YO w:=by
 revert h;refine ZhA (p:=λw:List UInt8=>YO w<100000000000000000->wF w=YO w) (λ_=>rfl) (λl c ih h=>?_) w
 grind[Zhq,ZcX]
theorem ZhD(n:Nat)(hn:n<100000000000000000):jV (zH n)=some n:=by
 have h1:Jx (zH n)=false:=by
  rcases Bh 1 (zH n).length with h | h
  ·obtain⟨c,l,e,hc⟩:=ZqH n h;rw[e];simp[Jx,hc]
  ·rcases hd:zH n with _ | ⟨c,_ | ⟨d,l⟩⟩
   ·exact absurd hd (Zaw n)
   ·simp[Jx]
   ·rw[hd]at h;simp at h
 have h2:YP (zH n)=true:=by unfold YP;rw[Ay];intro c hc;simpa using Zhr n c hc
 simp_all[jV,ZqU,ZqG]
theorem ZqV{w:List UInt8}{n:Nat}(h:jV w=some n):n<=1000000000000000000:=by grind[jV,ZhC,YP]
open Go
def Qs(q:List Int):Prop:=∀z∈q,0<=z/\z<=2147483648
structure GoodV (n:Nat) (v:List Visit):Prop where
 len:v.length<=64
 ok:∀s∈v,(0<=s.d/\s.d<n)/\1<=s.q/\s.q<=2147483648
 nd:(v.map (·.d)).Nodup
def yY:Nat->List Int->List Visit
 | _,[]=>[]
 | i,z :: l=>if 0<z then ⟨i,z⟩ :: yY (i+1) l else yY (i+1) l
theorem ZaB:∀(l:List Int) (i:Nat),(yY i l).length<=l.length
 | [],_=>by simp[yY]
 | z :: l,i=>by
  have:=ZaB l (i+1);simp only[yY];split<;>simp<;>omega
theorem ZaC:∀(l:List Int) (i:Nat),Qs l->∀s∈yY i l,((i:Int)<=s.d/\s.d<(i+l.length:Nat))/\1<=s.q/\s.q<=2147483648
 | [],_,_=>by intro s hs;cases hs
 | z :: l,i,h=>by
  have ih:=ZaC l (i+1) λx hx=>h x (by simp[hx])
  have hz:=h z DI;intro s hs;simp only[yY]at hs;split at hs
  ·rcases As.1 hs with rfl | hs
   ·simp only[Ad];omega
   ·have:=ih s hs;simp only[Ad];omega
  ·have:=ih s hs;simp only[Ad];omega
theorem ZhE:∀(l:List Int) (i:Nat),∀s∈yY i l,(i:Int)<=s.d
 | [],_=>by intro s hs;cases hs
 | z :: l,i=>by
  have ih:=ZhE l (i+1);intro s hs;simp only[yY]at hs;split at hs
  ·rcases As.1 hs with rfl | hs
   ·exact CZ _
   ·have:=ih s hs;omega
  ·have:=ih s hs;omega
theorem ZhF:∀(l:List Int) (i:Nat),((yY i l).map (·.d)).Nodup
 | [],_=>by simp[yY]
 | z :: l,i=>by
  have ih:=ZhF l (i+1);simp only[yY];split
  ·rw[AA,Cz];refine⟨λh=>?_,ih⟩;obtain⟨s,hs,e⟩:=Al.1 h;have:=ZhE l (i+1) s hs;simp only at e;omega
  ·exact ih
theorem ZqW(n a k:Nat):(yA n a k).Nodup:=by
 unfold yA;refine List.Pairwise.map _ (λx y (h:x≠y)=>?_) (List.Pairwise.filter _ List.nodup_range);intro e;apply h;omega
theorem ZhG{q:List Int}{n:Nat}(hq:Qs q)(hl:q.length<=n)(hn:n<=64):GoodV n (yY 0 q):=by
 refine⟨AD (ZaB q 0) DH,λs hs=>?_,ZhF q 0⟩;have:=ZaC q 0 hq s hs;omega
def QH(c:Cust)(p:Nat):List Visit:=(yA p 0 64).map λd=>⟨d,c.demand⟩
open Go
structure CustMade (c:Cust) (n:Nat):Prop where
 fits:CustFits c
 pats:∀p∈c.pats,p<2 ^ 64
 npats:c.pats.length<=1048576
 per:c.kind=1->(∀p∈c.pats,∀d∈yA p 0 64,d<n)/\1<=c.demand/\c.demand<=2147483648
open Go
theorem ZcY{α:Type}[Enc α](h1:Enc.sz α=1)(l:List α)(k:Nat)(v:α)(h:k<l.length):ye (l.flatMap Enc.enc) k (Enc.enc v)=(l.set k v).flatMap Enc.enc:=by
 have e1:(l.flatMap Enc.enc).take k=(l.take k).flatMap Enc.enc:=by
  have:=Q9 (α:=α) Enc.enc (Enc.sz α) Enc.len l k;rwa[h1,BS]at this
 have e2:(l.flatMap Enc.enc).drop (k+1)=(l.drop (k+1)).flatMap Enc.enc:=by
  have:=JZ (α:=α) Enc.enc (Enc.sz α) Enc.len l (k+1);rwa[h1,BS]at this
 rw[ye,Enc.len,h1,e1,e2,AF,if_pos h];simp
open Go Go.Proofs Hp
def RowOf(S:Store)(pl:PV)(l:List Int):Prop:=pl=L l\/∃id ver,pl=.sl id ver 1 0 l.length/\S id=.cells ver 3 (l.flatMap Enc.enc)
theorem RowOf.ext{S:Store}{pl:PV}{l:List Int}(h:RowOf S pl l){nx:Nat}(hd:zW nx S)(obs:List Ob):RowOf (ext S nx obs) pl l:=by
 rcases h with h | ⟨id,ver,h1,h2⟩
 ·exact .inl h
 ·exact .inr ⟨id,ver,h1,(zB (yU hd h2 DI)).trans h2⟩
theorem ZhH{S:Store}{nx id ver:Nat}(hd:zW nx S)(x:Inst)(v p f pr:PV)(b:Int)(fn:FuncId)(fs:List PV)(n:Nat)(hn:x.days=n)(hn2:n<=1000)(hS:S id=.cells ver 235 (xy x v b p f pr))(Pk:Nat->Store->Prop)(h0:Pk 0 S)
  (hPd:∀k T,Pk k T->zW nx T) (hstep:∀k,k<n->∀T,Pk k T->Spec prog fn (fs++[I k]) T (λ_ S'=>Pk (k+1) S')) :
  Spec prog 173 [.ptr id ver 0,.fn (.func fn) fs []] S (λ_ S'=>Pk n S'):=by
 refine ut hd func173 ntmps173 results173 ?_;have hlt:id<nx:=yU hd hS DI;have xw:=λobs=>(zB (S:=S) (obs:=obs) hlt).trans hS
 refine za (ze [] (zo xw hn) ?_);refine zj (jt (σ:=Nat × Store) (λs=>s.1<=n/\Pk s.1 s.2) (λs=>[(1,.fn (.func fn) fs []),(9,I n),(10,I s.1)]) (λs=>s.2) (λ_=>[]) (λs=>n-s.1) (z8 (0,S) [] ⟨by simp,h0⟩ DI rfl DI) ?_);rintro⟨k,T⟩ ⟨hk,hP⟩;simp only at hk hP ⊢;refine DQ ?_;refine za (zv rfl (λhc=>?_) (λhc=>?_))
 ·simp at hc;refine zh (za (zj (DQ ?_)));refine zb ?_;refine λhsuf=>(Spec.mono (by rw[qB (hPd k T hP)];simpa using hstep k hc T hP) ?_).v
  rintro _ T' hP';refine⟨T',[],(qB (hPd _ _ hP')).symm,zG hsuf ?_⟩;refine zb ?_;exact zq (k+1,T') [] ⟨hc,hP'⟩ DH (by simp[zu k (by omega)]) rfl DI
 ·simp at hc;obtain rfl:k=n:=DH
  refine zx ?_;exact⟨_,T,rfl,hP,zR (hPd _ _ hP)⟩
def Yc(x:Inst)(j:Nat):Int:=W (yB x [(j:Int)])
def jJ(x:Inst)(k i:Nat):List (List Int):=(List.range x.cust.length).map λj=>List.replicate (if j<i then k+1 else k) (Yc x j)
theorem Jy(x:Inst)(k i:Nat):(jJ x k i).length=x.cust.length:=by simp[jJ]
theorem ZhI(x:Inst)(k i j:Nat)(h:j<x.cust.length):(jJ x k i).getD j []=List.replicate (if j<i then k+1 else k) (Yc x j):=by simp_all[jJ]
theorem ZqX(x:Inst)(k:Nat):jJ x k x.cust.length=jJ x (k+1) 0:=by simp[jJ]
theorem ZqY(x:Inst)(k i:Nat)(h:i<x.cust.length):(jJ x k i).set i (List.replicate (k+1) (Yc x i))=jJ x k (i+1):=by
 apply A5
 grind[jJ]
theorem ZqZ{S:Store}{id ver A va base:Nat}{ws:Nat->Nat}{x:Inst}{v p f:PV}{b:Int}(k:Nat)(hx:x.cust.length<=1000)(hk:k<=1000)(hid:id<base)(hidA:id≠A)(hS:S id=.cells ver 235 (xy x v b p f (.sl A va 1 0 x.cust.length)))
  (hR:RowsAt S A va 26 base 3 1 ws (jJ x k 0)) :
  Spec prog 174 [.ptr id ver 0,I k] S (λ_ S'=>(∃ws',RowsAt S' A va 26 base 3 1 ws' (jJ x (k+1) 0))/\∀o,o≠A->(o<base\/base+x.cust.length<=o)->S' o=S o):=by
 refine yi func174 ntmps174 results174 λnx hd=>?_
 have hlt:id<nx:=yU hd hS DI;have hltA:A<nx:=yU hd hR.arr DI;have hltR:∀i,i<x.cust.length->base+i<nx:=λi hi=>yU hd (hR.row i (by simp_all[Jy])) DI
 have xw:=λobs=>(zB (S:=S) (obs:=obs) hlt).trans hS
 refine za (ze [] xw ?_);refine zj (jt (σ:=Nat × Store × (Nat->Nat)) (λs=>s.1<=x.cust.length/\RowsAt s.2.1 A va 26 base 3 1 s.2.2 (jJ x k s.1)/\∀o,o≠A->(o<base\/base+x.cust.length<=o)->s.2.1 o=S o)
  (λs=>[(0,.ptr id ver 0),(10,I x.cust.length),(11,I s.1)]) (λs=>s.2.1) (λ_=>[]) (λs=>x.cust.length-s.1) (z8 (0,S,ws) [] ⟨by simp,hR,λ_ _ _=>rfl⟩ DI rfl DI) ?_)
 clear hR;rintro⟨i,T,ws⟩ ⟨hi,hR,hT⟩;simp only at hi hR hT ⊢;refine DQ ?_;refine za (zv rfl (λhc=>?_) (λhc=>?_))
 ·simp at hc;have hTw:T id=.cells ver 235 (xy x v b p f (.sl A va 1 0 x.cust.length)):=(hT id hidA (.inl hid)).trans hS;have hAb:=hR.out;have hri:=hR.row i (by simp_all[Jy]);rw[ZhI x k i i hc,if_neg (CA i)]at hri;have hlti:=hltR i hc;have xw:=λobs=>(zB (S:=T) (obs:=obs) hlt).trans hTw
  have xa:=λobs=>(zB (S:=T) (obs:=obs) hltA).trans hR.arr
  have xr:=λobs=>(zB (S:=T) (obs:=obs) hlti).trans hri
  have ya:=λ(o:Ob) obs=>(zB (S:=T.set (base+i) o) (obs:=obs) hltA).trans ((q10 _ _ _ _ DH).trans hR.arr)
  have yw:=λ(o:Ob) obs=>(zB (S:=T.set (base+i) o) (obs:=obs) hlt).trans ((q10 _ _ _ _ DH).trans hTw)
  have zw:=λ(o o':Ob) obs=>(zB (S:=(T.set (base+i) o).set A o') (obs:=obs) hlt).trans ((q10 _ _ _ _ hidA).trans ((q10 _ _ _ _ DH).trans hTw))
  have g1:¬nx<=base+i:=DH
  have g2:¬nx<=A:=DH
  obtain⟨tl,hdr⟩:=ZcU base 1 ws (jJ x k i) i (by simp_all[Jy]);rw[ZhI x k i i hc,if_neg (CA i),BW]at hdr;have hcl:(vI base 1 ws (jJ x k i)).length=x.cust.length:=by rw[ZcT,Jy]
  have hsp:=Zb6 (vI base 1 ws (jJ x k i)) i (.sl (base+i) (ws i+1) 1 0 (k+1)) DH;have hway:=ZeZ x [(i:Int)] DI (λc hc=>by grind[qb]);have hfe:∀m:Nat,((List.replicate m (Yc x i)).flatMap Enc.enc).length=m:=λm=>by simp
  refine zh (za (zj (DQ ?_)));refine zz (some [id]) (Row.pures [0,1,2,3,4,5,6,7,8,9,10,12,13,14,15,16,17,18,19] (.alt 11 (.alt 20 (Row.pures [21] (.alt 22 (.done) .stop)) .stop) .stop)) mixed (yl xw xa xr ya yw (zo (yl zw hdr g1 g2 hsp hcl) hc)) ?_;refine zK (hway) (yl xw xa xr ya yw (zo (yl zw hdr g1 g2 hsp hcl) hc)) ?_;refine⟨by omega,by omega,?_⟩;obtain⟨T',hT'⟩:∃T',T'=(T.set (base+i) (.cells (ws i+1) 3 ((List.replicate (k+1) (Yc x i)).flatMap Enc.enc))).set A (.cells va 26 ((vI base 1 ws (jJ x k i)).set i (.sl (base+i) (ws i+1) 1 0 (List.replicate (k+1) (Yc x i)).length))):=⟨_,rfl⟩;have hnew:=hR.turn (i:=i) (by simp_all[Jy]) (T':=T') (ws i+1) (List.replicate (k+1) (Yc x i)) DP (by rw[hT',q10 _ _ _ _ (by omega),q11]) (λo o1 o2=>by simp_all[q10]);rw[ZqY x k i hc]at hnew;refine zb ?_;refine zq (i+1,T',_) [] ⟨hc,hnew,λo ho hob=>?_⟩ DH (by simp[zu i (by omega)]) ?_ DI
  ·dsimp only;rw[hT',q10 _ _ _ _ ho,q10 _ _ _ _ DH];exact hT o ho hob
  ·dsimp only;rw[hT'];have htk:((List.replicate k (Yc x i)).flatMap Enc.enc).take k=(List.replicate k (Yc x i)).flatMap Enc.enc:=Af (by rw[hfe];exact Ag _)
   simp_all[CV,Yc]
 ·simp at hc;obtain rfl:i=x.cust.length:=DH
  rw[ZqX]at hR;refine zx ?_;have hdT:zW nx T:=λo ho=>by
   have h1:o≠A:=DH
   by_cases h2:o<base\/base+x.cust.length<=o
   ·rw[hT o h1 h2];exact hd o ho
   ·have:=hltR (o-base) DH;omega
  exact⟨_,T,rfl,⟨⟨ws,hR⟩,hT⟩,zR hdT⟩
def Yd(k:Nat)(l:List Int):List Int:=l.set k (W (W (2*l.getD k 0)+1))
def ug(pr:List (List Int))(k i:Nat):List (List Int):=(List.range pr.length).map λj=>if j<i then Yd k (pr.getD j []) else pr.getD j []
def XE(fs:List Int)(pr:List (List Int))(k:Nat):List (List Int):=if fs.getD k 0=14 then pr.map (Yd k) else pr
def XF(fs:List Int)(pr:List (List Int)):Nat->List (List Int)
 | 0=>pr
 | k+1=>XE fs (XF fs pr k) k
theorem ZhJ(k:Nat)(l:List Int):(Yd k l).length=l.length:=by simp[Yd]
theorem WI(pr:List (List Int))(k i:Nat):(ug pr k i).length=pr.length:=by simp[ug]
theorem ZcZ(pr:List (List Int))(k i j:Nat)(h:j<pr.length):(ug pr k i).getD j []=if j<i then Yd k (pr.getD j []) else pr.getD j []:=by simp_all[ug]
theorem Zq0(pr:List (List Int))(k:Nat):ug pr k 0=pr:=by
 apply A5
 grind[ug]
theorem Zq1(pr:List (List Int))(k:Nat):ug pr k pr.length=pr.map (Yd k):=by
 apply A5
 grind[ug]
theorem Zq2(pr:List (List Int))(k i:Nat)(h:i<pr.length):(ug pr k i).set i (Yd k (pr.getD i []))=ug pr k (i+1):=by
 apply A5
 grind[ug]
def u9(m n:Nat)(pr:List (List Int)):Prop:=pr.length=m/\∀l∈pr,l.length=n/\∀z∈l,zP z
theorem Zc0(x:Int):zP (W x):=by
 have key:∀m:Int,0<=m->m<2 ^ 64->zP (if (true && decide (m>=2 ^ (64-1)))=true then m-2 ^ 64 else m):=by
  intro m h1 h2;unfold zP
  by_cases h:m>=2 ^ (64-1)
  ·simp[h];omega
  ·simp[h];omega
 exact key _ (Int.emod_nonneg x DN) (Int.emod_lt_of_pos x DN)
theorem Zq3{m n:Nat}{pr:List (List Int)}(fs:List Int)(k:Nat)(h:u9 m n pr):u9 m n (XE fs pr k):=by
 unfold XE;split
 ·refine⟨by simp[h.1],λl hl=>?_⟩;obtain⟨l',hl',rfl⟩:=Al.1 hl;rw[ZhJ];refine⟨(h.2 l' hl').1,λz hz=>?_⟩;rcases Bu hz with hz | rfl
  ·exact(h.2 l' hl').2 z hz
  ·exact Zc0 _
 omega
theorem WJ{m n:Nat}{pr:List (List Int)}(fs:List Int)(h:u9 m n pr):∀k,u9 m n (XF fs pr k)
 | 0=>h
 | k+1=>Zq3 fs k (WJ fs h k)
theorem ZhK(x:Inst)(n:Nat):u9 x.cust.length n (jJ x n 0):=by
 refine⟨Jy x n 0,λl hl=>?_⟩;obtain⟨j,_,rfl⟩:=Al.1 hl;refine⟨by simp,λz hz=>?_⟩;rw[(List.mem_replicate.1 hz).2];exact Zc0 _
theorem Zq4{S:Store}{id ver A va base idF vF:Nat}{ws:Nat->Nat}{x:Inst}{v p:PV}{b:Int}{m n:Nat}{pr:List (List Int)}{fs:List Int}(k:Nat)(hm:m<=1000)(hn:n<=1000)(hkn:k<n)(hid:id<base)(hidA:id≠A)(hF:S idF=.cells vF 47 (fs.flatMap Enc.enc))(hfl:fs.length=n)
  (hS:S id=.cells ver 235 (xy x v b p (.sl idF vF 1 0 fs.length) (.sl A va 1 0 m))) (hP:u9 m n pr) (hR:RowsAt S A va 26 base 3 1 ws pr) :
  Spec prog 179 [.ptr id ver 0,I k] S (λ_ S'=>RowsAt S' A va 26 base 3 1 ws (XE fs pr k)/\∀o,(o<base\/base+m<=o)->S' o=S o):=by
 obtain⟨hPl,hPr⟩:=hP;refine yi func179 ntmps179 results179 λnx hd=>?_
 have hlt:id<nx:=yU hd hS DI;have hltF:idF<nx:=yU hd hF DI;have hltA:A<nx:=yU hd hR.arr DI;have hltR:∀i,i<m->base+i<nx:=λi hi=>yU hd (hR.row i DH) DI
 have xw:=λobs=>(zB (S:=S) (obs:=obs) hlt).trans hS
 have xf:=λobs=>(zB (S:=S) (obs:=obs) hltF).trans hF
 obtain⟨e,tl0,e1,-,-,e0⟩:=zJ rfl fs k DH;have hkf:k<fs.length:=DH
 have hge:fs.getD k 0=e:=by rw[Aa,e1];rfl
 repeat apply za
 refine ze [] (zV xw xf e0 hkf) ?_
 by_cases he:e=14
 case neg =>
  refine zn (by simp[he]) ?_;exact zg ⟨_,S,rfl,⟨by simp_all[XE],λ_ _=>rfl⟩,zR hd⟩
 refine zm (by simp[he]) ?_;refine zh (za (ze [] xw ?_));have hkill:∀T:Store,(∀o,(o<base\/base+m<=o)->T o=S o)->zW nx T:=λT hT o ho=>by
  by_cases h2:o<base\/base+m<=o
  ·rw[hT o h2];exact hd o ho
  ·have:=hltR (o-base) DH;omega
 refine zj (jt (σ:=Nat × Store) (λs=>s.1<=m/\RowsAt s.2 A va 26 base 3 1 ws (ug pr k s.1)/\∀o,(o<base\/base+m<=o)->s.2 o=S o)
  (λs=>[(0,.ptr id ver 0),(1,I k),(17,I m),(18,I s.1)]) (λs=>s.2) (λ_=>[]) (λs=>m-s.1) (z8 (0,S) [] ⟨by simp,by simp_all[Zq0],λ_ _=>rfl⟩ DI rfl DI) ?_)
 have hAb0:=hR.out;clear hR;rintro⟨i,T⟩ ⟨hi,hR,hT⟩;simp only at hi hR hT ⊢;refine DQ ?_;refine za (zv rfl (λhc=>?_) (λhc=>?_))
 ·simp at hc;have hil:i<pr.length:=DH
  have hTw:T id=.cells ver 235 (xy x v b p (.sl idF vF 1 0 fs.length) (.sl A va 1 0 m)):=(hT id (.inl hid)).trans hS;have hri:=hR.row i (by simp_all[WI]);rw[ZcZ pr k i i hil,if_neg (CA i)]at hri;obtain⟨tl,hdr⟩:=ZcU base 1 ws (ug pr k i) i (by simp_all[WI]);rw[ZcZ pr k i i hil,if_neg (CA i)]at hdr;have hcl:(vI base 1 ws (ug pr k i)).length=m:=by rw[ZcT,WI,hPl]
  have hgl:(pr.getD i []).length=n:=by
   rw[Aa,Ae hil];exact(hPr _ (Bd hil)).1
  generalize hrow:pr.getD i []=row at hri hdr hgl;obtain⟨z,tl2,z1,-,-,z0⟩:=zJ rfl row k DH;have hgz:row.getD k 0=z:=by rw[Aa,z1];rfl
  have hkr:k<row.length:=DH
  have hlti:=hltR i hc;have xw:=λobs=>(zB (S:=T) (obs:=obs) hlt).trans hTw
  have xa:=λobs=>(zB (S:=T) (obs:=obs) hltA).trans hR.arr
  have xr:=λobs=>(zB (S:=T) (obs:=obs) hlti).trans hri
  have yw:=λ(o:Ob) obs=>(zB (S:=T.set (base+i) o) (obs:=obs) hlt).trans ((q10 _ _ _ _ DH).trans hTw)
  have ya:=λ(o:Ob) obs=>(zB (S:=T.set (base+i) o) (obs:=obs) hltA).trans ((q10 _ _ _ _ DH).trans hR.arr)
  have g1:¬nx<=base+i:=DH
  have hsp:=ZcY (α:=Int) rfl row k (W (W (2*z)+1)) hkr;have hsp':ye (row.flatMap Enc.enc) k [I (W (W (2*z)+1))]=(row.set k (W (W (2*z)+1))).flatMap Enc.enc:=by simpa using hsp
  have hrl:(row.flatMap Enc.enc).length=n:=by rw[j4,hgl];simp[Enc.sz]
  refine zh (za (zj (DQ ?_)));refine zz (some [id,A]) (Row.pures [0,1,2,3,4,5,6,7,8,9,10,11,12,13,15] (.alt 14 (Row.pures [16] (.alt 17 (Row.pures [18,19,20] (.alt 21 (.done) .stop)) .stop)) .stop)) mixed (yl xw xa xr yw ya (zo (yl hdr g1 hcl hc z0 hkr) (zV hsp' hrl hgl hkn))) ?_;refine⟨by omega,?_⟩;obtain⟨T',hT'⟩:∃T',T'=T.set (base+i) (.cells (ws i) 3 ((Yd k row).flatMap Enc.enc)):=⟨_,rfl⟩;have hnew:=hR.turn (i:=i) (by rw[WI];omega) (T':=T') (ws i) (Yd k row) (by
   rw[hT',q10 _ _ _ _ DH,hR.arr];congr 1;refine(A5 λj=>?_).symm;rw[Bt];split
   ·rename_i hij;subst hij;rw[if_pos DH,Zhn _ _ _ _ _ (by rw[WI];omega),ZcZ pr k i i hil,if_neg (CA i),hrow,ZhJ]
   ·rfl) (by rw[hT'];simp) (λo o1 o2=>by rw[hT'];exact q10 _ _ _ _ o2)
  have hws:(λk=>if k=i then ws i else ws k)=ws:=by funext j;split<;>simp_all
  rw[hws,<-hrow,Zq2 pr k i hil]at hnew;refine zb ?_;refine zq (i+1,T') [] ⟨hc,hnew,λo hob=>?_⟩ DH (by simp[zu i (by omega)]) ?_ DI
  ·dsimp only;rw[hT',q10 _ _ _ _ DH];exact hT o hob
  ·dsimp only;rw[hT'];simp only[Yd,hgz]
 ·simp at hc;obtain rfl:i=m:=DH
  rw[<-hPl,Zq1]at hR;refine zx ?_;exact⟨_,T,rfl,⟨by simp_all[XE],hT⟩,zR (hkill T hT)⟩
def Ye(e:Int):Bool:=decide (e≠0) && decide (e≠14)
theorem Zq5(e:Int):Pure prog 178 [I e] (B (Ye e)):=by
 unfold Ye;refine zt func178 ntmps178 results178 λS nx hd=>?_
 refine DQ ?_
 by_cases h1:e=0
 ·refine za (ze [(2,5)] (zo h1 zN) ?_);exact zg (zi hd rfl (by simp[zp,h1]))
 ·by_cases h2:e=14
  ·refine za (ze [(2,5)] (zF h1 h2 zN) ?_);exact zg (zi hd rfl (by simp[zp,h2]))
  ·refine za (ze [(2,5)] (zF h1 h2 zN) ?_);exact zg (zi hd rfl DP)
theorem Zq6{S:Store}{idF vF:Nat}(fs:List Int)(hF:S idF=.cells vF 47 (fs.flatMap Enc.enc))(hl:fs.length<=1000):
  Spec prog 213 [.sl idF vF 1 0 fs.length,.fn (.func 178) [] []] S (λq S'=>(∃z:Int,q=I z/\(fs.any Ye=decide (0<=z)))/\S'=S):=by
 refine yi func213 ntmps213 results213 λnx hd=>?_
 have hltF:idF<nx:=yU hd hF DI;have xf:=λobs=>(zB (S:=S) (obs:=obs) hltF).trans hF
 refine DQ ?_
 repeat apply za
 refine zb ?_;refine zj (zD (λk:Nat=>k<=fs.length/\∀e∈fs.take k,Ye e=false) (λk=>[(0,.sl idF vF 1 0 fs.length),(1,.fn (.func 178) [] []),(7,I fs.length),(8,I k)]) (λ_=>[]) (λk=>fs.length-k) 0 [] DI DI DI ?_);rintro k ⟨hk,h0⟩;refine DQ ?_;refine za (zv rfl (λhc=>?_) (λhc=>?_))
 ·simp at hc;obtain⟨e,tl,a1,a2,a3,e0⟩:=zJ rfl fs k hc;refine zh (za (zj (DQ ?_)));refine za (ze [] (zF xf e0 hc) ?_);refine zr (Zq5 e) ?_;cases hb:Ye e with
  | true =>
   refine zn rfl (DQ ?_);exact zg ⟨_,S,rfl,⟨⟨k,by simp,by grind⟩,rfl⟩,zR hd⟩
  | false =>
   refine zm rfl (zh (zb ?_));exact zq (k+1) [] ⟨hc,λy hy=>by grind⟩ DH (by simp[zu k (by omega)]) rfl DI
 ·simp at hc;obtain rfl:k=fs.length:=DH
  rw[Ak]at h0;refine zx (DQ ?_);exact zg ⟨_,S,rfl,⟨⟨-1,by simp,by simp_all⟩,rfl⟩,zR hd⟩
theorem Zq7{S:Store}{idF vF:Nat}(fs:List Int)(hF:S idF=.cells vF 47 (fs.flatMap Enc.enc))(hl:fs.length<=1000):
  Spec prog 177 [.sl idF vF 1 0 fs.length,.fn (.func 178) [] []] S (λq S'=>q=B (fs.any Ye)/\S'=S):=by
 refine yi func177 ntmps177 results177 λnx hd=>?_
 have hltF:idF<nx:=yU hd hF DI;refine DQ ?_;refine DQ ?_;refine λhsuf=>((Zq6 fs ((zB hltF).trans hF) hl).mono ?_).v
 rintro _ _ ⟨⟨z,rfl,hz⟩,rfl⟩;refine⟨_,_,rfl,zG hsuf ?_⟩;exact zg ⟨_,S,rfl,⟨by simp[zp,hz],rfl⟩,zR hd⟩
def Za(x:Inst)(sol:Cust->List Int->List Visit × Bool)(pr:List (List Int))(k:Nat):List (List Visit × Bool):=(List.range k).map λi=>sol (x.cust.getD i default) (pr.getD i [])
def qD(x:Inst)(sol:Cust->List Int->List Visit × Bool)(pr:List (List Int)):List (List Visit) × Int:=if (Za x sol pr x.cust.length).all (·.2)=true then ((Za x sol pr x.cust.length).map (·.1),0) else ([],15)
theorem Zq8(x:Inst)(sol:Cust->List Int->List Visit × Bool)(pr:List (List Int))(k:Nat):Za x sol pr (k+1)=Za x sol pr k++[sol (x.cust.getD k default) (pr.getD k [])]:=by simp[Za,AL]
theorem ZhL(x:Inst)(sol:Cust->List Int->List Visit × Bool)(pr:List (List Int)){k m:Nat}(h:k<m):sol (x.cust.getD k default) (pr.getD k [])∈Za x sol pr m:=Al.2 ⟨k,AP.2 h,rfl⟩
def Zc1(x:Inst)(n:Nat)(sol:Cust->List Int->List Visit × Bool):Prop :=
 ∀c∈x.cust,∀(l:List Int),l.length=n->(∀z∈l,zP z)->∀(S:Store) (pl:PV),RowOf S pl l->Spec prog 207 [.agg (yh c),I x.days,I x.cap,pl] S (λq S'=>q=.tup [L (sol c l).1,B (sol c l).2]/\S'=S)
theorem Zq9{S:Store}{A va base:Nat}{ws:Nat->Nat}{x:Inst}{n:Nat}{pr:List (List Int)}{sol:Cust->List Int->List Visit × Bool}(hx:x.cust.length<=1000)(hP:u9 x.cust.length n pr)(hR:RowsAt S A va 26 base 3 1 ws pr)(hs:Zc1 x n sol):
  Spec prog 175 [.agg (zy x),.sl A va 1 0 x.cust.length] S (λq S'=>q=.tup [L (qD x sol pr).1,I (qD x sol pr).2]/\S'=S):=by
 obtain⟨hPl,hPr⟩:=hP;refine yi func175 ntmps175 results175 λnx hd=>?_
 have hltA:A<nx:=yU hd hR.arr DI;have xa:=λobs=>(zB (S:=S) (obs:=obs) hltA).trans hR.arr
 refine DQ ?_;intro v0;refine DQ ?_;refine za (jg 6 101 1 rfl λv1=>?_);refine DQ ?_;refine zj (zD (λs:Nat × List (List Visit) × Nat=>s.1<=x.cust.length/\s.2.1=(Za x sol pr s.1).map (·.1)/\(Za x sol pr s.1).all (·.2)=true) (λ(i,out,w)=>[(1,.sl A va 1 0 x.cust.length),(2,.ptr nx v0 0),(4,.sc (.slice none 0 0)),(6,.sl (nx+1) w 1 0 out.length),(13,L x.cust),(14,I x.cust.length),(15,I i)]) (λ(i,out,w)=>[.cells v0 25 (zy x),.cells w 101 (out.flatMap Enc.enc)]) (λs=>x.cust.length-s.1) (0,[],v1) [] (by simp[Za]) DI DI ?_);rintro⟨i,out,w⟩ ⟨hi,ho,hall⟩;simp only at hi ho hall ⊢;have hol:out.length=i:=by rw[ho];simp[Za]
 refine DQ ?_;refine za (zv rfl (λhc=>?_) (λhc=>?_))
 ·simp at hc;obtain⟨c,tl,a1,a2,a3,e1,e0⟩:=el 8 rfl x.cust i hc;have hcm:=Ab a1;have hgc:x.cust.getD i default=c:=by rw[Aa,a1];rfl
  have hil:i<pr.length:=DH
  obtain⟨tl2,hdr⟩:=ZcU base 1 ws pr i hil;obtain⟨hgl,hgi⟩:(pr.getD i []).length=n/\∀z∈pr.getD i [],zP z:=by
   rw[Aa,Ae hil];exact hPr _ (Bd hil)
  have hrow:RowOf S (.sl (base+i) (ws i) 1 0 (pr.getD i []).length) (pr.getD i []):=.inr ⟨_,_,rfl,hR.row i hil⟩;have hsol:=hs c hcm (pr.getD i []) hgl hgi;have hch:=Zq8 x sol pr i;have hcm2:=ZhL x sol pr (k:=i) hc;rw[hgc]at hch hcm2;generalize pr.getD i []=row at hdr hgl hgi hrow hsol hch hcm2;generalize hr:sol c row=r at hsol hch hcm2;obtain⟨vv,ok⟩:=r;simp only at hsol hch;refine zh (za (zj (za (ze [] (zo e0 hc) ?_))));intro v2;refine DQ ?_
  repeat apply za
  refine zb ?_;refine zn (by simp[hc]) ?_;refine ze [] (zF xa hdr hc) ?_;refine DQ ?_;refine λhsuf=>((hsol _ _ (hrow.ext hd _)).mono ?_).v
  rintro _ _ ⟨rfl,rfl⟩;refine⟨_,_,rfl,zG hsuf ?_⟩
  repeat apply za
  refine zb ?_;cases ok with
  | false =>
   have hno:qD x sol pr=([],15):=by
    unfold qD;rw[if_neg];intro q;have:=Ay.1 q _ hcm2;cases this
   rw[hno];refine zn rfl (DQ ?_);refine ZS 4 rfl ?_;exact zg ⟨_,S,rfl,⟨by simp[zp],rfl⟩,zR hd⟩
  | true =>
   refine zm rfl (zh (zb ?_));refine⟨by omega,?_⟩;refine zb ?_;exact zq (i+1,out++[vv],w+1) [_] ⟨hc,by rw[hch,List.map_append,ho];rfl,by rw[hch,Cx,hall];rfl⟩ DL (by simp[zu i (by omega)]) rfl DJ
 ·simp at hc;obtain rfl:i=x.cust.length:=DH
  have hyes:qD x sol pr=(out,0):=by unfold qD;rw[if_pos hall,<-ho]
  rw[hyes];refine zx (yb 1 rfl ?_);refine DQ ?_;exact zg ⟨_,S,DJ,⟨by simp[zp],rfl⟩,zR hd⟩
open Go
def YR(x:Inst)(p:zA)(i:Nat):Int :=
 match x.cust[i]? with
 | none=>0
 | some c=>if c.kind=2 then u6 c (q9 c (yI (yW i (told 0 p)) x.days)).1 else 0
def jK(x:Inst)(p:zA)(k:Nat):Int:=((List.range k).map (YR x p)).sum
theorem ZhM(x:Inst)(p:zA)(k:Nat):jK x p (k+1)=jK x p k+YR x p k:=by simp[jK,AL]
theorem ZhN(c:Cust)(q:List Int)(hq:q.length<=1048576):(q9 c q).1.length<=1048576:=by
 unfold q9;split
 ·simp
 ·cases h:jU c.size c.rate c.start q with
  | none=>simp
  | some l=>simp[ZpX h];exact hq
theorem ZaD(v:List Visit)(n:Int):(yI v n).length<=1048576:=by rw[Zap];omega
theorem ZhO(x:Inst)(p:zA)(h:Serves x p)(hx:x.cust.length<=1048576)(hf:∀c∈x.cust,CustFits c):Pure prog 69 [.agg (zy x),.agg [L p]] (I (W (jK x p x.cust.length))):=by
 refine zt func69 ntmps69 results69 λS nx hd=>?_
 refine DQ ?_;intro v0 v1;refine DQ ?_
 repeat apply za
 refine zb ?_;refine zj (zD (λs:Nat=>s<=x.cust.length) (λk=>[(2,.ptr nx v0 0),(3,.ptr (nx+1) v1 0),(5,I (W (jK x p k))),(11,L x.cust),(12,I x.cust.length),(13,I k)]) (λ_=>[.cells v0 25 (zy x),.cells v1 30 [L p]]) (λs=>x.cust.length-s) 0 [] DI (by simp[jK]) DI ?_);rintro k hk;refine DQ ?_;refine za (zv rfl (λhc=>?_) (λhc=>?_))
 ·simp at hc;obtain⟨c,tl,a1,a2,a3,_,e0⟩:=el 8 rfl x.cust k hc;have hfc:=hf c (Ab a1);have hs:=ZhM x p k;refine zh (za (zj (za (ze [] (zo hc e0) ?_))));intro v2;refine DQ ?_
  by_cases hk2:c.kind=2
  ·have hb:=Zhh x p k h;have hn:=ZcM c (yI (yW k (told 0 p)) x.days) hfc (ZaD _ _);have hh:=ZcN c (q9 c (yI (yW k (told 0 p)) x.days)).1 (ZhN _ _ (ZaD _ _));have hC:YR x p k=u6 c (q9 c (yI (yW k (told 0 p)) x.days)).1:=by simp only[YR,a1,if_pos hk2]
   rw[hC]at hs;generalize u6 c (q9 c (yI (yW k (told 0 p)) x.days)).1=z at *;generalize q9 c (yI (yW k (told 0 p)) x.days)=ne at *;generalize yI (yW k (told 0 p)) x.days=q at *;obtain⟨ns,er⟩:=ne;simp only at hn hh;refine zn (by simp[hk2]) ?_;refine za (zz (some [nx,nx+1,nx+2]) (Row.pures [0,1,2,3,4,5,6,7,8,9,10,11] .done) mixed trivial ?_);refine zK (hb) trivial ?_;refine zK (hn) trivial ?_;refine zb ?_;refine zr hh ?_;have hw:W (W (jK x p k)+z)=W (jK x p (k+1)):=by rw[hs,ZT]
   refine zb ?_;exact zq (k+1) [_] hc DH (by simp[zu k (by omega)];exact hw) rfl rfl
  ·have hC:YR x p k=0:=by simp only[YR,a1,if_neg hk2]
   rw[hC,Int.add_zero]at hs;refine zm (by simp[hk2]) ?_;refine zh (zb ?_);exact zq (k+1) [_] hc DH (by simp[zu k (by omega),hs]) rfl rfl
 ·simp at hc;obtain rfl:k=x.cust.length:=DH
  refine zx (DQ ?_);exact DR hd
def xA(x:Inst)(p:zA):List Int:=p.map λd=>W (yn x d)
theorem Zra(x:Inst)(p:zA)(hp:p.length<=1048576)(hd':∀d∈p,DayOk d)(S:Store)(nx:Nat)(hd:zW nx S):
  Spec prog 71 [.agg (zy x),.agg [L p]] S (λq S'=>∃v,q=.sl (nx+2) v 1 0 p.length/\S'=S.set (nx+2) (.cells v 3 ((xA x p).flatMap Enc.enc))):=by
 refine ut hd func71 ntmps71 results71 ?_;refine DQ ?_;intro v0 v1;refine DQ ?_;refine za (jg 5 3 1 rfl λv2=>?_);refine DQ ?_;refine zj (zD (λs:Nat × List Int × Nat=>s.1<=p.length/\s.2.1=xA x (p.take s.1)) (λ(k,out,v2)=>[(2,.ptr nx v0 0),(3,.ptr (nx+1) v1 0),(5,.sl (nx+2) v2 1 0 out.length),(9,L p),(10,I p.length),(11,I k)]) (λ(k,out,v2)=>[.cells v0 25 (zy x),.cells v1 30 [L p],.cells v2 3 (out.flatMap Enc.enc)]) (λs=>p.length-s.1) (0,[],v2) [] (by simp[xA]) DI DI ?_);rintro⟨k,out,v2⟩ ⟨hk,ho⟩;simp only at hk ho ⊢;have hol:out.length=k:=by rw[ho];simp[xA];omega
 refine DQ ?_;refine za (zv rfl (λhc=>?_) (λhc=>?_))
 ·simp at hc;obtain⟨d,tl,a1,a2,a3,e0⟩:=zJ rfl p k hc;refine zh (za (zj (za (ze [] (zo hc e0) ?_))));intro v3;refine zb ?_;refine zr (Xh x d (hd' d (Ab a1))) ?_;refine⟨by omega,?_⟩;refine zb ?_;exact zq (k+1,out++[W (yn x d)],v2+1) [_] ⟨hc,by rw[a3,ho];simp[xA]⟩ DL (by simp[zu k (by omega)]) rfl DJ
 ·simp at hc;obtain rfl:k=p.length:=DH
  rw[Ak]at ho;refine zx (DQ ?_);refine zg ⟨_,_,rfl,⟨v2,by simp[zp,hol],rfl⟩,Qj (j:=2) hd (by simp[ho])⟩
theorem ZhP(x:Inst)(p:zA)(hp:p.length<=1048576)(hd':∀d∈p,DayOk d):Pure prog 71 [.agg (zy x),.agg [L p]] (L (xA x p)):=by
 have hl:(xA x p).length=p.length:=by simp[xA]
 have:=VN 2 (λS nx hd=>Zra x p hp hd' S nx hd) (by rw[jG,hl];omega);rw[<-hl]at this;exact this
def jW(x:Inst)(p:zA):Int:=W (jK x p x.cust.length+(p.map (yn x)).sum)
theorem Zrb(a:Int)(l:List Int):W (a+(l.map W).sum)=W (a+l.sum):=by
 induction l generalizing a with
 | nil=>rfl
 | cons b l ih =>
  simp only[AA,BM];have e1:a+(W b+(l.map W).sum)=(a+W b)+(l.map W).sum:=DH
  rw[e1,ih,show a+W b+l.sum=(a+l.sum)+W b by omega,ZeA,show a+l.sum+b=a+(b+l.sum) by omega]
theorem Zrc(x:Inst)(p:zA):W (W (jK x p x.cust.length)+(xA x p).sum)=jW x p:=by
 have:xA x p=(p.map (yn x)).map W:=by simp[xA]
 rw[this,ZT,Zrb,jW]
theorem Zrd(x:Inst)(p:zA)(h:Serves x p)(hx:x.cust.length<=1048576)(hf:∀c∈x.cust,CustFits c)(hd':∀d∈p,DayOk d):Pure prog 68 [.agg (zy x),.agg [L p]] (I (jW x p)):=by
 have hres:=Zrc x p;have hl:(xA x p).length=p.length:=by simp[xA]
 have hpn:=h.sz.n;have hdy:=ZhP x p hpn hd';rw[<-hres];generalize xA x p=ds at hl hdy;refine zt func68 ntmps68 results68 λS nx hd=>?_
 refine DQ ?_;intro v0 v1;refine DQ ?_;refine zr (ZhO x p h hx hf) ?_
 repeat apply za
 refine zb ?_;refine zr hdy ?_;refine zj (zD (λs:Nat=>s<=ds.length) (λk=>[(5,I (W (W (jK x p x.cust.length)+(ds.take k).sum))),(13,L ds),(14,I ds.length),(15,I k)]) (λ_=>[]) (λs=>ds.length-s) 0 [_,_] DI (by simp[W_W]) rfl ?_);rintro k hk;refine DQ ?_;refine za (zv rfl (λhc=>?_) (λhc=>?_))
 ·simp at hc;obtain⟨z,tl,a1,a2,a3,e0⟩:=zJ rfl ds k hc;have hw:W (W (W (jK x p x.cust.length)+(ds.take k).sum)+z)=W (W (jK x p x.cust.length)+(ds.take (k+1)).sum):=by rw[a3,Zg7,ZT];congr 1;omega
  refine zh (za (zj (za (ze [] (zo hc e0) ?_))));refine zb ?_;refine zb ?_;exact zq (k+1) [] hc DH (by simp[zu k (by omega)];exact hw) rfl DI
 ·simp at hc;obtain rfl:k=ds.length:=DH
  rw[Ak];refine zx (DQ ?_);exact DR hd
open Go
def XG(p:zA):Nat:=(p.map λd=>d.flatten.length).sum
theorem ZhQ:∀(p:zA) (i:Nat),(told i p).length=XG p
 | [],_=>rfl
 | d :: p,i=>by
  have:=ZhQ p (i+1);simp only[told,Aq,List.length_map,XG,AA,BM]at this ⊢;omega
theorem ZhR:∀(d:zk),(∀t∈d,t≠[])->d.length<=d.flatten.length
 | [],_=>by simp
 | t :: d,h=>by
  have h1:=ZhR d λu hu=>h u (by simp[hu])
  have h2:=BI.2 (h t DI);simp only[BK,Ad,Aq];omega
theorem ZaE:∀(d:zk) (t:zL),t∈d->t.length<=d.flatten.length
 | [],_,h=>by cases h
 | u :: d,t,h=>by
  simp only[BK,Aq];rcases As.1 h with rfl | h
  ·omega
  ·have:=ZaE d t h;omega
open Go
def lx:Inst:=⟨1,1,9,9,[],[[0]]⟩
def ly:Inst:=⟨1,1,9,9,[⟨1,1,[1],0,0,0,0,0⟩],[[0,3],[4,0]]⟩
def lp:zA:=[[]]
theorem Zre:∀i:Nat,yC 1 i=1<->i=0:=by
 intro i;cases i with
 | zero=>simp[yC]
 | succ i=>simp[yC,Nat.div_eq_of_lt (show 1<2 ^ (i+1) from Nat.one_lt_two_pow DH)]
open Go
theorem ZhS(p:Nat):∀k:Nat,k<=64->∀i:Nat,yC (j5 p k) i=1->i<k
 | 0,_,i,h=>by simp[j5,yC]at h
 | k+1,hk,i,h=>by
  have ih:=ZhS p k DH i;unfold j5 at h;split at h
  ·rw[Zqk _ _ (VU p k) DH]at h;have h2:((j5 p k ||| 2 ^ k).testBit i)=true:=by
    rw[Zas];unfold qK at h;rw[if_pos DH,AN]at h;simp[h]
   rw[Dd,Ct,CX]at h2;rcases h2 with h2 | h2
   ·rw[Zas]at h2;have:=ih (by simpa using h2);omega
   ·have:k=i:=by simpa using h2
    omega
  ·have:=ih h;omega
theorem WK{p a k:Nat}{d:Int}(h:d∈yA p a k):∃i:Nat,d=i/\i<k/\yC p i=1:=by
 simp only[yA,Al,Bl,AP,Aw,decide_eq_true_eq]at h;obtain⟨i,⟨h1,_,h3⟩,rfl⟩:=h;exact⟨i,rfl,h1,h3⟩
theorem ZhT(c:Cust)(days:Int)(h1:1<=days)(h7:days<=7):CustMade (jx c days) days.toNat:=by
 unfold jx;split
 ·have a:=xq c.rate 0 9 DH;have b:=xq c.size 1 30 DH;have d:=xq c.start 0 (yy c.size 1 30) DH;exact⟨⟨by dsimp only;omega,by dsimp only;omega,by dsimp only;omega⟩,by simp,by simp,λh=>by simp at h⟩
 ·have a:=xq c.demand 1 15 DH;refine⟨⟨by simp,by simp,by simp⟩,?_,?_,λ_=>⟨?_,by dsimp only;omega,by dsimp only;omega⟩⟩
  ·intro p hp;simp only[Zl]at hp;split at hp
   ·simp only[A3]at hp;omega
   ·obtain⟨q,_,rfl⟩:=Al.1 hp;exact VU q _
  ·simp only[Zl];split
   ·simp
   ·simp;omega
  ·intro p hp d hd;obtain⟨i,rfl,_,hb⟩:=WK hd;simp only[Zl]at hp;split at hp
   ·simp only[A3]at hp;subst hp;have:=(Zre i).1 hb;omega
   ·obtain⟨q,_,rfl⟩:=Al.1 hp;have:=ZhS q days.toNat DH i hb;omega
theorem WL(x:Inst):1<=(yF x).days/\(yF x).days<=7:=xq x.days 1 7 DH
theorem Zrf(x:Inst):0<=(yF x).cap/\(yF x).cap<=40:=xq x.cap 0 40 DH
theorem Zrg(x:Inst):0<=(yF x).veh/\(yF x).veh<=5:=xq x.veh 0 5 DH
theorem Zrh(x:Inst):0<=(yF x).len/\(yF x).len<=300:=xq x.len 0 300 DH
theorem Zri(x:Inst):(yF x).cust.length<=6:=by simp[yF];omega
theorem Zc2(x:Inst){c:Cust}(h:c∈(yF x).cust):∃c0,c=jx c0 (yF x).days:=by
 simp only[yF,Al]at h;obtain⟨c0,_,rfl⟩:=h;exact⟨c0,rfl⟩
def Zrj(x:Inst)(v c l:Int):Inst:=⟨(yF x).days,v,c,l,(yF x).cust,(yF x).dist⟩
theorem Zrk{d:zk}{t:zL}(ht:t∈d){s:Stop}(hs:s∈t):s∈d.flatten:=Bs.2 ⟨t,ht,hs⟩
theorem ZhU{m:Nat}:∀(l:List Int),l.Nodup->(∀c∈l,0<=c/\c<m)->l.length<=m:=by
 intro l hn hl;have h1:(l.map Int.toNat).Nodup:=by
  refine List.Pairwise.map _ ?_ (List.Pairwise.and_mem.1 hn);rintro a b ⟨ha,hb,hab⟩ e;have:=hl a ha;have:=hl b hb;exact hab DH
 have h2:∀c∈l.map Int.toNat,c∈List.range m:=by
  intro c hc;obtain⟨z,hz,rfl⟩:=Al.1 hc;have:=hl z hz;exact AP.2 DH
 have:=h1.length_le_of_subset h2;simpa using this
open Go Go.Proofs Hp
theorem Zc3(p:Nat)(hp:p<2 ^ 64):Pure prog 305 [U p] (L (yA p 0 64)):=by
 have h:=Zha p 0 hp DN;refine zt func305 ntmps305 results305 λS nx hd=>?_
 refine DQ ?_;refine DQ ?_;refine zr h ?_;exact zg (zi hd rfl rfl)
theorem Zrl(c:Cust)(p:Nat)(hp:p<2 ^ 64):Pure prog 277 [.agg (yh c),U p] (L (QH c p)):=by
 have hall:=Zc3 p hp;have hln:=Xz p 0 64;unfold QH;generalize yA p 0 64=l at hall hln;refine zt func277 ntmps277 results277 λS nx hd=>?_
 refine DQ ?_;intro v0;refine DQ ?_;refine za (jg 5 104 2 rfl λv1=>?_);refine DQ ?_;refine zr hall ?_;refine zj (zD (λs:Nat × List Visit × Nat=>s.1<=l.length/\s.2.1=(l.take s.1).map λd=>⟨d,c.demand⟩) (λ(k,out,v1)=>[(2,.ptr nx v0 0),(5,.sl (nx+1) v1 2 0 out.length),(9,L l),(10,I l.length),(11,I k)]) (λ(k,out,v1)=>[.cells v0 87 (yh c),.cells v1 104 (out.flatMap Enc.enc)]) (λs=>l.length-s.1) (0,[],v1) [] DI DI DI ?_);rintro⟨k,out,v1⟩ ⟨hk,ho⟩;simp only at hk ho ⊢;have hol:out.length=k:=by rw[ho];simp;omega
 refine DQ ?_;refine za (zv rfl (λhc=>?_) (λhc=>?_))
 ·simp at hc;obtain⟨d,tl,a1,a2,a3,e0⟩:=zJ rfl l k hc;refine zh (za (zj (za (ze [] (zo e0 hc) ?_))));refine zb ?_;refine⟨by omega,?_⟩;refine zb ?_;exact zq (k+1,out++[⟨d,c.demand⟩],v1+1) [] ⟨hc,by rw[a3,ho];simp⟩ DL (by simp[zu k (by omega)]) rfl DI
 ·simp at hc;obtain rfl:k=l.length:=DH
  rw[Ak]at ho;refine zx (yb 1 rfl ?_);refine DQ ?_;exact zg (zi hd DJ (by simp[zp,ho]))
def vJ(price:List Int)(ds:List Int):Int:=ds.foldl (λ(s d:Int)=>if d<price.length then wE s (price.getD d.toNat 0) else s) 0
def WM(price:List Int)(p:Nat):Int:=vJ price (yA p 0 64)
def xk(price:List Int)(l:List Nat):Nat->Int × Int
 | 0=>(-1,0)
 | k+1=>if (xk price l k).1<0\/WM price (l.getD k 0)<(xk price l k).2 then (k,WM price (l.getD k 0)) else xk price l k
theorem Zc4(price:List Int)(l:List Nat):∀k:Nat,(xk price l k).1<k/\-1<=(xk price l k).1/\(0<k->0<=(xk price l k).1)
 | 0=>by simp[xk]
 | k+1=>by
  have:=Zc4 price l k;unfold xk;split
  ·dsimp only;omega
  ·rename_i h;omega
theorem Zrm(a b:Int)(ha:zP a)(hb:zP b):zP (wE a b):=by
 unfold zP wE at *;split
 ·omega
 ·split<;>omega
theorem Zrn(price ds:List Int)(d:Int):vJ price (ds++[d])=if d<price.length then wE (vJ price ds) (price.getD d.toNat 0) else vJ price ds:=by simp[vJ]
theorem Zro(price:List Int)(hp:∀z∈price,zP z)(ds:List Int):zP (vJ price ds):=by
 unfold vJ;have:∀(ds:List Int) (s:Int),zP s->zP (ds.foldl (λ(s d:Int)=>if d<price.length then wE s (price.getD d.toNat 0) else s) s):=by
  intro ds
  induction ds with
  | nil=>intro s h;exact h
  | cons d ds ih =>
   intro s h;rw[AY];apply ih;split
   ·refine Zrm _ _ h ?_;rw[Aa];cases hq:price[d.toNat]? with
    | none=>unfold zP;simp
    | some z=>exact hp z (Ab hq)
   ·exact h
 exact this ds 0 (by unfold zP;omega)
theorem Zrp{S:Store}{pl:PV}{price:List Int}(l:List Nat)(hR:RowOf S pl price)(hp:∀z∈price,zP z)(hpl:price.length<=1000)(hl:l.length<=1000)(h64:∀p∈l,p<2 ^ 64):
  Spec prog 276 [L l,pl] S (λq S'=>q=.tup [I (xk price l l.length).1,I (xk price l l.length).2]/\S'=S):=by
 refine yi func276 ntmps276 results276 λnx hd=>?_
 refine DQ ?_;refine DQ ?_
 repeat apply za
 refine zb ?_;refine zj (zD (λk:Nat=>k<=l.length) (λk=>[(1,pl),(6,I (xk price l k).1),(7,I (xk price l k).2),(13,L l),(14,I l.length),(15,I k)]) (λ_=>[]) (λk=>l.length-k) 0 [] DI (by simp[xk]) DI ?_);rintro k hk;have hb:xk price l (k+1)=if (xk price l k).1<0\/WM price (l.getD k 0)<(xk price l k).2 then (↑k,WM price (l.getD k 0)) else xk price l k:=rfl
 generalize hst:xk price l k=st at hb ⊢;obtain⟨place,least⟩:=st;simp only at hb ⊢;refine DQ ?_;refine za (zv rfl (λhc=>?_) (λhc=>?_))
 ·simp at hc;obtain⟨p,tl,a1,a2,a3,e0⟩:=zJ rfl l k hc;have hall:=Zc3 p (h64 p (Ab a1));have hgp:l.getD k 0=p:=by rw[Aa,a1];rfl
  rw[hgp]at hb;have hds:∀d∈yA p 0 64,∃i:Nat,d=i:=λd hd=>by obtain⟨i,h,_⟩:=WK hd;exact⟨i,h⟩
  have hdl:=Xz p 0 64;rw[show WM price p=vJ price (yA p 0 64) from rfl]at hb;generalize yA p 0 64=ds at hall hds hdl hb;refine zh (za (zj (za (ze [] (zo e0 hc) ?_))));refine DQ ?_
  repeat apply za
  refine zb ?_;refine zr hall ?_;refine zj (zD (λj:Nat=>j<=ds.length) (λj=>[(1,pl),(6,I place),(7,I least),(8,I k),(10,I (vJ price (ds.take j))),(13,L l),(14,I l.length),(15,I k),(21,L ds),(22,I ds.length),(23,I j)]) (λ_=>[]) (λj=>ds.length-j) 0 [] DI (by simp[vJ]) DI ?_);rintro j hj;refine DQ ?_;refine za (zv rfl (λhc2=>?_) (λhc2=>?_))
  ·simp at hc2;obtain⟨d,tl2,b1,b2,b3,f0⟩:=zJ rfl ds j hc2;obtain⟨i,rfl⟩:=hds d (Ab b1);have hsn:=Zrn price (ds.take j) (i:Int);rw[<-b3,AN]at hsn;have hsi:=Zro price hp (ds.take j);refine zh (za (zj (za (ze [] (zo f0 hc2) ?_))))
   by_cases hi:i<price.length
   ·obtain⟨z,tl3,c1,-,-,g0⟩:=zJ rfl price i hi;have hgz:price.getD i 0=z:=by rw[Aa,c1];rfl
    rw[if_pos DH,hgz]at hsn;have hsat:=Zao (vJ price (ds.take j)) z hsi (hp z (Ab c1));rw[<-hsn]at hsat;rcases hR with rfl | ⟨id,ver,rfl,hS⟩
    ·refine za (ze [] hi ?_);refine zn rfl (ze [] (zo g0 hi) ?_);refine zr hsat ?_;refine zb ?_;exact zq (j+1) [] hc2 DH (by simp[zu j (by omega)]) rfl DI
    ·have hlt:id<nx:=yU hd hS DI;have xr:=λobs=>(zB (S:=S) (obs:=obs) hlt).trans hS
     refine za (ze [] hi ?_);refine zn rfl (ze [] (zF xr g0 hi) ?_);refine zr hsat ?_;refine zb ?_;exact zq (j+1) [] hc2 DH (by simp[zu j (by omega)]) rfl DI
   ·rw[if_neg DH]at hsn;rcases hR with rfl | ⟨id,ver,rfl,hS⟩
    ·refine za (ze [] hi ?_);refine zm rfl (zh (zb ?_));exact zq (j+1) [] hc2 DH (by simp[zu j (by omega),hsn]) rfl DI
    ·refine za (ze [] hi ?_);refine zm rfl (zh (zb ?_));exact zq (j+1) [] hc2 DH (by simp[zu j (by omega),hsn]) rfl DI
  ·simp at hc2;obtain rfl:j=ds.length:=DH
   rw[Ak];refine zx (za (qS (nx:=nx) (σ:=Bool) (λt=>t=decide (place<0\/vJ price ds<least)) (λt=>[(1,pl),(6,I place),(7,I least),(8,I k),(10,I (vJ price ds)),(13,L l),(14,I l.length),(15,I k),(44,B t)]) (λ_=>S) (λ_=>[]) ?_ ?_))
   ·by_cases h1:place<0
    ·repeat apply za
     refine ze [(2,40)] (zo h1 zN) ?_;exact z8 true [] (by simp[h1]) DI rfl DI
    ·repeat apply za
     refine ze [(2,40)] h1 ?_;exact z8 (decide (vJ price ds<least)) [] (by simp[h1]) DI rfl DI
   rintro t rfl
   by_cases h:place<0\/vJ price ds<least
   ·rw[decide_eq_true h];rw[if_pos h]at hb;refine zn rfl (zb ?_);refine zb ?_;exact zq (k+1) [] hc DH (by simp[zu k (by omega),hb]) rfl DI
   ·rw[decide_eq_false h];rw[if_neg h]at hb;refine zm rfl (zh (zb ?_));exact zq (k+1) [] hc DH (by simp[zu k (by omega),hb]) rfl DI
 ·simp at hc;obtain rfl:k=l.length:=DH
  refine zx (DQ ?_);exact zg ⟨_,S,rfl,⟨by simp[zp,hst],rfl⟩,zR hd⟩
def uI(c:Cust)(cap:Int):List Nat:=c.pats.filter λp=>decide (p=0) || decide (c.demand<=cap)
theorem Zrq(c:Cust)(cap:Int)(hl:c.pats.length<=1000):Pure prog 275 [.agg (yh c),I cap] (L (uI c cap)):=by
 unfold uI;refine zt func275 ntmps275 results275 λS nx hd=>?_
 refine DQ ?_;intro v0;refine DQ ?_;refine za (jg 5 98 1 rfl λv1=>?_);refine DQ ?_;refine zj (zD (λs:Nat × List Nat × Nat=>s.1<=c.pats.length/\s.2.1=(c.pats.take s.1).filter (λp=>decide (p=0) || decide (c.demand<=cap))/\s.2.1.length<=s.1) (λ(k,out,w)=>[(1,I cap),(2,.ptr nx v0 0),(5,.sl (nx+1) w 1 0 out.length),(9,L c.pats),(10,I c.pats.length),(11,I k)]) (λ(k,out,w)=>[.cells v0 87 (yh c),.cells w 98 (out.flatMap Enc.enc)]) (λs=>c.pats.length-s.1) (0,[],v1) [] DI DI DI ?_);rintro⟨k,out,w⟩ ⟨hk,ho,hol⟩;simp only at hk ho hol ⊢;refine DQ ?_;refine za (zv rfl (λhc=>?_) (λhc=>?_))
 ·simp at hc;obtain⟨p,tl,a1,a2,a3,e0⟩:=zJ rfl c.pats k hc;refine zh (za (zj (za (ze [] (zo e0 hc) ?_))));refine za (qS (nx:=nx) (σ:=Bool × Nat) (λs=>s.1=(decide (p=0) || decide (c.demand<=cap))) (λ(t,w)=>[(1,I cap),(2,.ptr nx v0 0),(5,.sl (nx+1) w 1 0 out.length),(7,U p),(9,L c.pats),(10,I c.pats.length),(11,I k),(22,B t)]) (λ_=>S) (λ(t,w)=>[.cells v0 87 (yh c),.cells w 98 (out.flatMap Enc.enc)]) ?_ ?_)
  ·by_cases h1:p=0
   ·repeat apply za
    refine ze [(2,17)] (zo h1 zN) ?_;exact z8 (true,w) [] (by simp[h1]) (by simp[h1]) rfl DI
   ·repeat apply za
    refine ze [(2,17)] h1 ?_;exact z8 (decide (c.demand<=cap),w) [] (by simp[h1]) DI rfl DI
  rintro⟨t,w⟩ ht;simp only at ht ⊢;subst ht;have hstep:(c.pats.take (k+1)).filter (λp=>decide (p=0) || decide (c.demand<=cap))=out++(if (decide (p=0) || decide (c.demand<=cap))=true then [p] else []):=by
   rw[a3,B3,ho];congr 1;simp only[Ca,List.filter_nil]
  cases ht:(decide (p=0) || decide (c.demand<=cap)) with
  | true =>
   rw[ht,if_pos rfl]at hstep;refine zn rfl (zb ?_);refine⟨by omega,?_⟩;refine zb ?_;exact zq (k+1,out++[p],w+1) [] ⟨hc,hstep.symm,by simp;omega⟩ DL (by simp[zu k (by omega)]) rfl DI
  | false =>
   rw[ht,if_neg DN,AH]at hstep;refine zm rfl (zh (zb ?_));exact zq (k+1,out,w) [] ⟨hc,hstep.symm,by dsimp only;omega⟩ DL (by simp[zu k (by omega)]) rfl DI
 ·simp at hc;obtain rfl:k=c.pats.length:=DH
  rw[Ak]at ho;refine zx (yb 1 rfl ?_);refine DQ ?_;exact zg (zi hd DJ (by simp[zp,ho]))
def ZA(c:Cust)(cap:Int)(price:List Int):List Visit × Bool :=
 if (xk price (uI c cap) (uI c cap).length).1<0 then ([],false) else (QH c ((uI c cap).getD (xk price (uI c cap) (uI c cap).length).1.toNat 0),true)
theorem Zrr{S:Store}{pl:PV}{price:List Int}(c:Cust)(cap:Int)(hR:RowOf S pl price)(hp:∀z∈price,zP z)(hpl:price.length<=1000)(hl:c.pats.length<=1000)(h64:∀p∈c.pats,p<2 ^ 64):
  Spec prog 246 [.agg (yh c),I cap,pl] S (λq S'=>q=.tup [L (ZA c cap price).1,B (ZA c cap price).2]/\S'=S):=by
 have hca:=Zrq c cap hl;have hsub:∀p∈uI c cap,p<2 ^ 64:=λp hp=>h64 p (Bl.1 hp).1
 have hcl:(uI c cap).length<=1000:=AD (BC _ _) hl;unfold ZA;generalize uI c cap=l at *;have hb:=λS (hR:RowOf S pl price)=>Zrp l hR hp hpl hcl hsub
 obtain⟨b1,b2,b3⟩:=Zc4 price l l.length;generalize xk price l l.length=r at *;obtain⟨place,least⟩:=r;simp only at hb b1 b2 b3 ⊢;refine yi func246 ntmps246 results246 λnx hd=>?_
 refine DQ ?_;intro v0;refine DQ ?_;refine zr hca ?_;refine DQ ?_;refine λhsuf=>((hb _ (hR.ext hd _)).mono ?_).v
 rintro _ _ ⟨rfl,rfl⟩;refine⟨_,_,rfl,zG hsuf ?_⟩
 repeat apply za
 refine zb ?_
 by_cases h:place<0
 ·rw[if_pos h];refine zn (by simp[h]) ?_;refine DQ ?_;refine ZS 6 rfl ?_;exact zg ⟨_,S,rfl,⟨by simp[zp],rfl⟩,zR hd⟩
 ·rw[if_neg h];obtain⟨i,rfl⟩:=Av (show 0<=place by omega);have hil:i<l.length:=DH
  obtain⟨p,tl,a1,a2,a3,e0⟩:=zJ rfl l i hil;have hgp:l.getD (i:Int).toNat 0=p:=by rw[AN,Aa,a1];rfl
  rw[hgp];have hon:=Zrl c p (hsub p (Ab a1));refine zm DI ?_;refine zh (za (zz (some [nx]) (Row.pures [0,1,2,3,4,5,6,7] .done) mixed (zo e0 hil) ?_));refine zK (hon) (zo e0 hil) ?_;exact zg ⟨_,S,DJ,⟨by simp[zp],rfl⟩,zR hd⟩
theorem Zrs{S:Store}{pl:PV}{price:List Int}(c:Cust)(n cap:Int)(hk:c.kind=1)(hR:RowOf S pl price)(hp:∀z∈price,zP z)(hpl:price.length<=1000)(hl:c.pats.length<=1000)(h64:∀p∈c.pats,p<2 ^ 64):
  Spec prog 207 [.agg (yh c),I n,I cap,pl] S (λq S'=>q=.tup [L (ZA c cap price).1,B (ZA c cap price).2]/\S'=S):=by
 have hs:=λS (hR:RowOf S pl price)=>Zrr c cap hR hp hpl hl h64
 generalize ZA c cap price=r at *;obtain⟨v,ok⟩:=r;simp only at hs ⊢;refine yi func207 ntmps207 results207 λnx hd=>?_
 refine DQ ?_;intro v0;refine za (zj (za (ze [] hk ?_)));refine zn rfl (DQ ?_);refine λhsuf=>((hs _ (hR.ext hd _)).mono ?_).v
 rintro _ _ ⟨rfl,rfl⟩;refine⟨_,_,rfl,zG hsuf ?_⟩;exact zg ⟨_,S,DJ,⟨by simp[zp],rfl⟩,zR hd⟩
open Go Go.Proofs Hp
def vK(c:Cust)(there cap:Int):Int:=if c.size-there<1\/cap<0 then 0 else if c.size-there<=cap then c.size-there else if c.rule=1 then 0 else cap
theorem ZhV{c:Cust}{there cap:Int}(hc:0<=c.size/\c.size<=2147483648)(ht:0<=there):0<=vK c there cap/\vK c there cap<=2147483648:=by
 unfold vK;split
 ·omega
 ·split
  ·omega
  ·split<;>omega
theorem Zc5(c:Cust)(there cap:Int)(hc:0<=c.size/\c.size<=2147483648)(ht:-4611686018427387904<=there/\there<=4611686018427387904):Pure prog 279 [.agg (yh c),I there,I cap] (I (vK c there cap)):=by
 have w1:IntKind.i64.wrap (c.size-there)=c.size-there:=wr _ DH DH;unfold vK;generalize hf:c.size-there=f at w1 ⊢;refine zt func279 ntmps279 results279 λS nx hd=>?_
 refine DQ ?_;intro v0;refine za (ze [] (zo hf w1) ?_);refine za (zj ?_)
 by_cases h:f<1\/cap<0
 ·rw[if_pos h]
  by_cases h1:f<1
  ·refine za (ze [(2,15)] (zo h1 zN) ?_);refine zn rfl (DQ ?_);exact zg (zi hd rfl rfl)
  ·have h2:cap<0:=DH
   refine za (ze [(2,15)] (zo h1 h2) ?_);refine zn rfl (DQ ?_);exact zg (zi hd rfl rfl)
 ·rw[if_neg h];have h1:¬f<1:=DH
  have h2:¬cap<0:=DH
  refine za (ze [(2,15)] (zo h1 h2) ?_);refine zm rfl (DQ ?_)
  by_cases h3:f<=cap
  ·rw[if_pos h3];refine zn (by simp[h3]) ?_;refine DQ ?_;exact zg (zi hd rfl rfl)
  ·rw[if_neg h3];refine zm DL ?_;refine DQ ?_
   by_cases h4:c.rule=1
   ·rw[if_pos h4];refine zn (by simp[h4]) ?_;refine DQ ?_;exact zg (zi hd rfl rfl)
   ·rw[if_neg h4];refine zm (by simp[h4]) ?_;refine zh (DQ ?_);exact zg (zi hd rfl rfl)
def YS(price:List Int)(d:Int):Int:=if d<0\/(price.length:Int)<=d then 0 else price.getD d.toNat 0
theorem Zc6{S:Store}{pl:PV}{price:List Int}(d:Int)(hR:RowOf S pl price):
  Spec prog 209 [pl,I d] S (λq S'=>q=I (YS price d)/\S'=S):=by
 unfold YS;rcases hR with rfl | ⟨id,ver,rfl,hS⟩
 ·refine yi func209 ntmps209 results209 λnx hd=>?_
  refine DQ ?_
  by_cases h:d<0
  ·rw[if_pos (.inl h)]
   repeat apply za
   refine ze [(2,7)] (zo h zN) ?_;refine zn rfl (DQ ?_);exact zg ⟨_,S,rfl,⟨by simp[zp],rfl⟩,zR hd⟩
  by_cases h2:(price.length:Int)<=d
  ·rw[if_pos (.inr h2)]
   repeat apply za
   refine ze [(2,7)] (zo h h2) ?_;refine zn rfl (DQ ?_);exact zg ⟨_,S,rfl,⟨by simp[zp],rfl⟩,zR hd⟩
  rw[if_neg DH];obtain⟨i,rfl⟩:=Av (show 0<=d by omega);have hi:i<price.length:=DH
  obtain⟨z,tl,a1,-,-,e0⟩:=zJ rfl price i hi;have hg:price.getD (i:Int).toNat 0=z:=by rw[AN,Aa,a1];rfl
  rw[hg];have h2':¬price.length<=i:=DH
  repeat apply za
  refine ze [(2,7)] (zF h h2 h2') ?_;refine zm rfl (zh (za (ze [] (zo e0 hi) ?_)));exact zg ⟨_,S,rfl,⟨by simp[zp],rfl⟩,zR hd⟩
 ·refine yi func209 ntmps209 results209 λnx hd=>?_
  have hlt:id<nx:=yU hd hS DI;have xr:=λobs=>(zB (S:=S) (obs:=obs) hlt).trans hS
  refine DQ ?_
  by_cases h:d<0
  ·rw[if_pos (.inl h)]
   repeat apply za
   refine ze [(2,7)] (zo h zN) ?_;refine zn rfl (DQ ?_);exact zg ⟨_,S,rfl,⟨by simp[zp],rfl⟩,zR hd⟩
  by_cases h2:(price.length:Int)<=d
  ·rw[if_pos (.inr h2)]
   repeat apply za
   refine ze [(2,7)] (zo h h2) ?_;refine zn rfl (DQ ?_);exact zg ⟨_,S,rfl,⟨by simp[zp],rfl⟩,zR hd⟩
  rw[if_neg DH];obtain⟨i,rfl⟩:=Av (show 0<=d by omega);have hi:i<price.length:=DH
  obtain⟨z,tl,a1,-,-,e0⟩:=zJ rfl price i hi;have hg:price.getD (i:Int).toNat 0=z:=by rw[AN,Aa,a1];rfl
  rw[hg];have h2':¬price.length<=i:=DH
  repeat apply za
  refine ze [(2,7)] (zF h h2 h2') ?_;refine zm rfl (zh (za (ze [] (zF xr e0 hi) ?_)));exact zg ⟨_,S,rfl,⟨by simp[zp],rfl⟩,zR hd⟩
theorem ZhW:∀(l m:List Int) (i:Nat),yY i (l++m)=yY i l++yY (i+l.length) m
 | [],m,i=>by simp[yY]
 | z :: l,m,i=>by
  have ih:=ZhW l m (i+1);simp only[List.cons_append,yY,Ad,ih,show i+1+l.length=i+(l.length+1) from by omega];split<;>simp
theorem ZhX(q:List Int)(hq:q.length<=1048576):Pure prog 282 [L q] (L (yY 0 q)):=by
 refine zt func282 ntmps282 results282 λS nx hd=>?_
 refine DQ ?_;refine DQ ?_;refine za (jg 3 104 2 rfl λv1=>?_);refine DQ ?_;refine zj (zD (λs:Nat × List Visit × Nat=>s.1<=q.length/\s.2.1=yY 0 (q.take s.1)) (λ(k,out,w)=>[(3,.sl nx w 2 0 out.length),(6,L q),(7,I q.length),(8,I k)]) (λ(k,out,w)=>[.cells w 104 (out.flatMap Enc.enc)]) (λs=>q.length-s.1) (0,[],v1) [] (by simp[yY]) DI DI ?_);rintro⟨k,out,w⟩ ⟨hk,ho⟩;simp only at hk ho ⊢;have hol:out.length<=k:=by rw[ho];exact AD (ZaB _ _) DL
 refine DQ ?_;refine za (zv rfl (λhc=>?_) (λhc=>?_))
 ·simp at hc;obtain⟨z,tl,a1,a2,a3,e0⟩:=zJ rfl q k hc;have hst:yY 0 (q.take (k+1))=out++(if 0<z then [⟨k,z⟩] else []):=by
   rw[a3,ZhW,<-ho,Ax,Bf hk];simp only[yY,AS]
  refine zh (za (zj (za (ze [] (zo e0 hc) ?_))));refine DQ ?_
  by_cases h:0<z
  ·rw[if_pos h]at hst;refine zn (by simp[h]) ?_;refine zb ?_;refine⟨by omega,?_⟩;refine zb ?_;exact zq (k+1,out++[⟨k,z⟩],w+1) [] ⟨hc,hst.symm⟩ DL (by simp[zu k (by omega)]) rfl DI
  ·rw[if_neg h,AH]at hst;refine zm DL ?_;refine zh (zb ?_);exact zq (k+1,out,w) [] ⟨hc,hst.symm⟩ DL (by simp[zu k (by omega)]) rfl DI
 ·simp at hc;obtain rfl:k=q.length:=DH
  rw[Ak]at ho;refine zx (yb 0 rfl ?_);refine DQ ?_;exact zg (zi hd DJ (by simp[zp,ho]))
def qn(c:Cust)(f:Int->Int):Nat->List Int × Int
 | 0=>([],c.start)
 | k+1=>((qn c f k).1++[f (qn c f k).2],(qn c f k).2+(f (qn c f k).2-c.rate))
def QI(c:Cust)(cap:Int)(t:Int):Int:=vK c (max t 0) cap
def YT(c:Cust)(cap:Int)(t:Int):Int:=if c.rate<=t then 0 else vK c (max t 0) cap
theorem XH(c:Cust)(f:Int->Int):∀k,(qn c f k).1.length=k
 | 0=>rfl
 | k+1=>by simp[qn,XH c f k]
theorem Zc7{c:Cust}(hc:CustFits c)(cap t:Int):0<=QI c cap t/\QI c cap t<=2147483648:=ZhV hc.size DH
theorem Zc8{c:Cust}(hc:CustFits c)(cap t:Int):0<=YT c cap t/\YT c cap t<=2147483648:=by
 unfold YT;split
 ·omega
 ·exact ZhV hc.size DH
theorem XI{c:Cust}(hc:CustFits c){f:Int->Int}(hf:∀t,0<=f t/\f t<=2147483648):∀k:Nat,(-4294967296*((k:Int)+1)<=(qn c f k).2/\(qn c f k).2<=4294967296*((k:Int)+1))/\Qs (qn c f k).1
 | 0=>by
  have:=hc.start;refine⟨by simp only[qn];omega,by intro z hz;cases hz⟩
 | k+1=>by
  obtain⟨h1,h2⟩:=XI hc hf k;have h3:=hf (qn c f k).2;have h4:=hc.rate;refine⟨by simp only[qn];push_cast;omega,λz hz=>?_⟩;simp only[qn]at hz;rcases AB.1 hz with hz | hz
  ·exact h2 z hz
  ·rw[A3.1 hz];exact h3
theorem Zrt(c:Cust)(cap t:Int)(hc:CustFits c)(ht:-4611686018427387904<=t/\t<=4611686018427387904):Pure prog 307 [I t,.ip (yh c),.ip [I cap]] (I (QI c cap t)):=by
 have hm:qP t 0=max t 0:=by unfold qP;split<;>omega
 have hmo:=Zc5 c (max t 0) cap hc.size DH;unfold QI;generalize max t 0=m at hm hmo ⊢;generalize vK c m cap=z at hmo ⊢;refine zt func307 ntmps307 results307 λS nx hd=>?_
 refine DQ ?_;refine za (ze [] hm ?_);refine qm [] hmo hm ?_;exact zg (zi hd rfl rfl)
theorem Zru(c:Cust)(cap t:Int)(hc:CustFits c)(ht:-4611686018427387904<=t/\t<=4611686018427387904):Pure prog 308 [I t,.ip (yh c),.ip [I cap]] (I (YT c cap t)):=by
 have hm:qP t 0=max t 0:=by unfold qP;split<;>omega
 have hmo:=Zc5 c (max t 0) cap hc.size DH;unfold YT;generalize max t 0=m at hm hmo ⊢;generalize vK c m cap=z at hmo ⊢;refine zt func308 ntmps308 results308 λS nx hd=>?_
 refine DQ ?_
 repeat apply za
 refine zb ?_
 by_cases h:c.rate<=t
 ·rw[if_pos h];refine zn (by simp[h]) ?_;refine DQ ?_;exact zg (zi hd rfl rfl)
 ·rw[if_neg h];refine zm DL ?_;refine zh (za (ze [] hm ?_));refine qm [] hmo hm ?_;exact zg (zi hd rfl rfl)
theorem ZhY(c:Cust)(n:Nat)(fn:FuncId)(caps:List PV)(f:Int->Int)(hc:CustFits c)(hn:n<=1000)(hf:∀t,0<=f t/\f t<=2147483648)(hfn:∀t,(-4611686018427387904<=t/\t<=4611686018427387904)->Pure prog fn ([I t]++caps) (I (f t))):
  Pure prog 306 [.agg (yh c),I n,.fn (.func fn) [] caps] (.tup [L (qn c f n).1,B (decide (Zu c (qn c f n).1=0))]):=by
 have hr:=hc.rate;refine zt func306 ntmps306 results306 λS nx hd=>?_
 refine DQ ?_;intro v0;refine DQ ?_;refine za (jg 8 3 1 rfl λv1=>?_);refine zb ?_
 repeat apply za
 refine zb ?_;refine zj (zD (λs:Nat × Nat=>s.1<=n) (λ(k,w)=>[(2,.fn (.func fn) [] caps),(3,.ptr nx v0 0),(8,.sl (nx+1) w 1 0 (qn c f k).1.length),(9,I (qn c f k).2),(13,I n),(14,I k)]) (λ(k,w)=>[.cells v0 87 (yh c),.cells w 3 ((qn c f k).1.flatMap Enc.enc)]) (λs=>n-s.1) (0,v1) [] DI (by simp[qn]) (by simp[qn]) ?_);rintro⟨k,w⟩ hk;simp only at hk ⊢;obtain⟨hbd,-⟩:=XI hc hf k;have hl:=XH c f k;have hsucc:qn c f (k+1)=((qn c f k).1++[f (qn c f k).2],(qn c f k).2+(f (qn c f k).2-c.rate)):=rfl;generalize hst:qn c f k=st at hbd hl hsucc ⊢;obtain⟨q,t⟩:=st;simp only at hbd hl hsucc ⊢;refine DQ ?_;refine za (zv rfl (λhc1=>?_) (λhc1=>?_))
 ·simp at hc1;have hft:=hf t;have hcall:=hfn t DH;have w1:IntKind.i64.wrap (f t-c.rate)=f t-c.rate:=wr _ DH DH;have w2:IntKind.i64.wrap (t+(f t-c.rate))=t+(f t-c.rate):=wr _ DH DH;generalize f t=z at *;refine zh (za (zj (DQ ?_)));refine zr hcall ?_;refine DQ ?_;refine⟨by omega,?_⟩;refine ze [] (zo w1 w2) ?_;refine zb ?_;exact zq (k+1,w+1) [] DH DL (by simp[zu k (by omega),hsucc]) rfl (by simp[hsucc])
 ·simp at hc1;obtain rfl:k=n:=DH
  refine zx (yb 1 rfl ?_);have hh:=Zg8 c q hc DH;refine DQ ?_;refine zr hh ?_;exact zg (zi hd DJ (by simp[zp,hst]))
def ZB(c:Cust)(n:Nat)(cap:Int):List Int × Bool:=((qn c (QI c cap) n).1,decide (Zu c (qn c (QI c cap) n).1=0))
def Yf(c:Cust)(n:Nat)(cap:Int):List Int × Bool:=((qn c (YT c cap) n).1,decide (Zu c (qn c (YT c cap) n).1=0))
theorem Zrv(c:Cust)(n:Nat)(cap:Int)(hc:CustFits c)(hn:n<=1000):Pure prog 281 [.agg (yh c),I n,I cap] (.tup [L (ZB c n cap).1,B (ZB c n cap).2]):=by
 have h:=ZhY c n 307 [.ip (yh c),.ip [I cap]] (QI c cap) hc hn (Zc7 hc cap) (λt ht=>Zrt c cap t hc ht);unfold ZB;generalize qn c (QI c cap) n=r at h ⊢;refine zt func281 ntmps281 results281 λS nx hd=>?_
 refine DQ ?_;intro v0 v1;refine xR 0 rfl ?_;refine xR 1 rfl ?_;refine DQ ?_;refine zr h ?_;exact DR hd
theorem Zrw(c:Cust)(n:Nat)(cap:Int)(hc:CustFits c)(hn:n<=1000):Pure prog 283 [.agg (yh c),I n,I cap] (.tup [L (Yf c n cap).1,B (Yf c n cap).2]):=by
 have h:=ZhY c n 308 [.ip (yh c),.ip [I cap]] (YT c cap) hc hn (Zc8 hc cap) (λt ht=>Zru c cap t hc ht);unfold Yf;generalize qn c (YT c cap) n=r at h ⊢;refine zt func283 ntmps283 results283 λS nx hd=>?_
 refine DQ ?_;intro v0 v1;refine xR 0 rfl ?_;refine xR 1 rfl ?_;refine DQ ?_;refine zr h ?_;exact DR hd
def QJ(price:List Int)(v:List Visit):Int:=v.foldl (λs w=>W (s+YS price w.d)) 0
theorem Zrx(price:List Int)(v:List Visit)(w:Visit):QJ price (v++[w])=W (QJ price v+YS price w.d):=by simp[QJ]
def Yg(c:Cust)(n:Int)(price:List Int)(v:List Visit):Int:=if c.kind=1 then QJ price v else W (QJ price v+u6 c (q9 c (yI v n)).1)
theorem Zc9{S:Store}{pl:PV}{price:List Int}(c:Cust)(n:Int)(v:List Visit)(hR:RowOf S pl price)(hc:CustFits c)(hv:VisOk v):
  Spec prog 208 [.agg (yh c),I n,pl,L v] S (λq S'=>q=I (Yg c n price v)/\S'=S):=by
 have hvn:=hv.n;have hp:=λS (h:RowOf S pl price) d=>Zc6 d h
 unfold Yg;refine yi func208 ntmps208 results208 λnx hd=>?_
 refine DQ ?_;intro v0;refine DQ ?_
 repeat apply za
 refine zb ?_;refine zj (zD (λk:Nat=>k<=v.length) (λk=>[(1,I n),(3,L v),(4,.ptr nx v0 0),(9,I (QJ price (v.take k))),(2,pl),(14,L v),(15,I v.length),(16,I k)]) (λ_=>[.cells v0 87 (yh c)]) (λk=>v.length-k) 0 [] DI (by simp[QJ]) DI ?_);rintro k hk;refine DQ ?_;refine za (zv rfl (λhc1=>?_) (λhc1=>?_))
 ·simp at hc1;obtain⟨w,tl,a1,a2,a3,e1,e0⟩:=el 2 rfl v k hc1;have hsn:=Zrx price (v.take k) w;rw[<-a3]at hsn;refine zh (za (zj (za (ze [] (zo e0 hc1) ?_))));intro v2;refine zb ?_;refine λhsuf=>((hp _ (hR.ext hd _) _).mono ?_).v
  rintro _ _ ⟨rfl,rfl⟩;refine⟨_,_,rfl,zG hsuf ?_⟩;refine zb ?_;exact zq (k+1) [_] hc1 DH (by simp[zu k (by omega),hsn]) rfl DJ
 ·simp at hc1;obtain rfl:k=v.length:=DH
  rw[Ak];refine zx ?_
  repeat apply za
  refine zb ?_
  by_cases hk1:c.kind=1
  ·rw[if_pos hk1];refine zn (by simp[hk1]) ?_;refine DQ ?_;exact zg ⟨_,S,rfl,⟨by simp[zp],rfl⟩,zR hd⟩
  ·rw[if_neg hk1];have hb:=Zg9 v n hv;have hn:=ZcM c (yI v n) hc (ZaD _ _);have hh:=ZcN c _ (ZhN c (yI v n) (ZaD _ _));generalize q9 c (yI v n)=ns at hn hh ⊢;obtain⟨nl,ne⟩:=ns;simp only at hn hh ⊢;refine zm (by simp[hk1]) ?_;refine zh (za (zz (some [nx]) (Row.pures [0,1,2,3,4,5,6,7,8,9] .done) mixed trivial ?_));refine zK (hb) trivial ?_;refine zK (hn) trivial ?_;refine DQ ?_;refine zr hh ?_;exact zg ⟨_,S,rfl,⟨by simp[zp],rfl⟩,zR hd⟩
def Jz(c:Cust)(n:Nat)(cap:Int)(price:List Int):List Visit × Bool :=
 if (Yf c n cap).2=true/\((ZB c n cap).2=false\/Yg c n price (yY 0 (Yf c n cap).1)<=Yg c n price (yY 0 (ZB c n cap).1)) then (yY 0 (Yf c n cap).1,true)
 else if (ZB c n cap).2=true then (yY 0 (ZB c n cap).1,true) else ([],false)
theorem ZhZ{q:List Int}{n:Nat}(hq:Qs q)(hl:q.length=n)(hn:n<=1000):VisOk (yY 0 q):=by
 refine⟨AD (ZaB _ _) DH,λs hs=>?_,λs hs=>?_⟩
 ·have:=ZaC q 0 hq s hs;omega
 ·have:=ZaC q 0 hq s hs;unfold zP;omega
theorem Zry{S:Store}{pl:PV}{price:List Int}(c:Cust)(n:Nat)(cap:Int)(hR:RowOf S pl price)(hc:CustFits c)(hn:n<=1000):
  Spec prog 248 [.agg (yh c),I n,I cap,pl] S (λq S'=>q=.tup [L (Jz c n cap price).1,B (Jz c n cap price).2]/\S'=S):=by
 have hD:=Zrv c n cap hc hn;have hL:=Zrw c n cap hc hn;have lD:(ZB c n cap).1.length=n:=XH _ _ _;have lL:(Yf c n cap).1.length=n:=XH _ _ _;have vD:VisOk (yY 0 (ZB c n cap).1):=ZhZ (XI hc (Zc7 hc cap) n).2 lD hn;have vL:VisOk (yY 0 (Yf c n cap).1):=ZhZ (XI hc (Zc8 hc cap) n).2 lL hn;unfold Jz;generalize ZB c n cap=rd at *;generalize Yf c n cap=rl at *;obtain⟨qd,od⟩:=rd;obtain⟨ql,ol⟩:=rl;simp only at hD hL lD lL vD vL ⊢;have hVd:=ZhX qd DH;have hVl:=ZhX ql DH;have hcd:=λS (h:RowOf S pl price)=>Zc9 (S:=S) c n (yY 0 qd) h hc vD
 have hcl:=λS (h:RowOf S pl price)=>Zc9 (S:=S) c n (yY 0 ql) h hc vL
 generalize yY 0 qd=vd at *;generalize yY 0 ql=vl at *;generalize Yg c n price vd=zd at *;generalize Yg c n price vl=zl at *;refine yi func248 ntmps248 results248 λnx hd=>?_
 refine DQ ?_;intro v0;refine DQ ?_;refine zr hD ?_;refine DQ ?_;refine zr hVd ?_
 repeat apply za
 refine zb ?_;refine zr hL ?_;refine DQ ?_;cases ol with
 | true =>
  refine zn rfl (DQ ?_);refine zr hVl ?_;cases od with
  | false =>
   rw[if_pos ⟨rfl,.inl rfl⟩];refine za (zz (some [nx]) (Row.pures [0,1,2,3,4,5,6,7,8,9,10,11,12,13,14] .done) mixed zN ?_);refine zn rfl (DQ ?_);exact zg ⟨_,S,DJ,⟨by simp[zp],rfl⟩,zR hd⟩
  | true =>
   by_cases hle:zl<=zd
   ·rw[if_pos ⟨rfl,.inr hle⟩];refine za (zz (some [nx]) (Row.pures [0,1,2,3,4,5,6,8,9,10,11] (.alt 7 (.alt 12 (Row.pures [13,14] .done) .stop) .stop)) mixed zN ?_);refine(((hcl _ (hR.ext hd _)).mono ?_).v);rintro _ _ ⟨rfl,rfl⟩;refine⟨by simp[yH],ju zN ?_⟩;refine(((hcd _ (hR.ext hd _)).mono ?_).v);rintro _ _ ⟨rfl,rfl⟩;refine⟨by simp[yH],ju zN ?_⟩;refine zn (by simp[hle]) ?_;refine DQ ?_;exact zg ⟨_,S,DJ,⟨by simp[zp],rfl⟩,zR hd⟩
   ·rw[if_neg (by rintro⟨-,q | q⟩;cases q;exact hle q),if_pos rfl];refine za (zz (some [nx]) (Row.pures [0,1,2,3,4,5,6,8,9,10,11] (.alt 7 (.alt 12 (Row.pures [13,14] .done) .stop) .stop)) mixed zN ?_);refine(((hcl _ (hR.ext hd _)).mono ?_).v);rintro _ _ ⟨rfl,rfl⟩;refine⟨by simp[yH],ju zN ?_⟩;refine(((hcd _ (hR.ext hd _)).mono ?_).v);rintro _ _ ⟨rfl,rfl⟩;refine⟨by simp[yH],ju zN ?_⟩;refine zm DL ?_;refine zh ?_
    repeat apply za
    refine zb ?_;refine zm rfl (zh (DQ ?_));exact zg ⟨_,S,DJ,⟨by simp[zp],rfl⟩,zR hd⟩
 | false =>
  rw[if_neg (by rintro⟨q,-⟩;cases q)];refine zm rfl (zh ?_)
  repeat apply za
  refine zb ?_;cases od with
  | false =>
   rw[if_neg DN];refine zn rfl (DQ ?_);refine ZS 8 rfl ?_;exact zg ⟨_,S,rfl,⟨by simp[zp],rfl⟩,zR hd⟩
  | true =>
   rw[if_pos rfl];refine zm rfl (zh (DQ ?_));exact zg ⟨_,S,DJ,⟨by simp[zp],rfl⟩,zR hd⟩
open Go Go.Proofs Hp
def qU(c:Cust)(last d:Int):Int × Int :=
 ((if last<0 then c.start else c.size)-c.rate*((if last<0 then d else d-last).toNat:Int),
  u6 c ((List.range (if last<0 then d else d-last).toNat).map λ(i:Nat)=>(if last<0 then c.start else c.size)-c.rate*((i:Int)+1)))
theorem Zh0(c:Cust)(last d:Int)(hc:CustFits c)(hl:-1<=last/\last<=64)(hd0:0<=d/\d<=64):Pure prog 278 [.agg (yh c),I last,I d] (.tup [I (qU c last d).1,I (qU c last d).2]):=by
 have h1:=hc.rate;have h2:=hc.size;have h3:=hc.start;have w0:IntKind.i64.wrap (d-last)=d-last:=wr _ DH DH;have key:qU c last d=(let t0:=if last<0 then c.start else c.size;let m:=if last<0 then d else d-last;(t0-c.rate*(m.toNat:Int),u6 c ((List.range m.toNat).map λ(i:Nat)=>t0-c.rate*((i:Int)+1)))):=rfl;rw[key];obtain⟨t0,ht0⟩:∃t0,t0=if last<0 then c.start else c.size:=⟨_,rfl⟩
 obtain⟨m,hm⟩:∃m,m=if last<0 then d else d-last:=⟨_,rfl⟩
 have hb0:0<=t0/\t0<=2147483648:=by rw[ht0];split<;>omega
 have hmb:-64<=m/\m<=65:=by rw[hm];split<;>omega
 rw[<-ht0,<-hm];clear key;simp only;refine zt func278 ntmps278 results278 λS nx hd=>?_
 refine DQ ?_;intro v0;refine za (ze [] w0 ?_);refine za (qS (nx:=nx) (σ:=Unit) (λ_=>True) (λ_=>[(3,.ptr nx v0 0),(8,I t0),(9,I m)]) (λ_=>S) (λ_=>[.cells v0 87 (yh c)]) ?_ ?_)
 ·refine DQ ?_
  by_cases h:last<0
  ·rw[if_pos h]at ht0 hm;refine zn (by simp[h]) ?_;refine zb ?_;exact z8 () [] trivial (by simp[ht0,hm]) rfl DI
  ·rw[if_neg h]at ht0 hm;refine zm DL ?_;exact zh (z8 () [] trivial (by simp[ht0,hm]) rfl DI)
 intro _ _;refine DQ ?_;refine za (jg 10 3 1 rfl λv1=>?_);refine DQ ?_;have hprod:∀k:Nat,k<=65->0<=c.rate*(k:Int)/\c.rate*(k:Int)<=2147483648*65:=λk hk=>⟨CK h1.1 DH,CL h1.2 DH DH DH⟩
 refine zj (zD (λs:Nat × Nat=>s.1<=m.toNat) (λ(k,w)=>[(3,.ptr nx v0 0),(8,I (t0-c.rate*(k:Int))),(10,.sl (nx+1) w 1 0 ((List.range k).map λ(i:Nat)=>t0-c.rate*((i:Int)+1)).length),(21,I m),(22,I k)]) (λ(k,w)=>[.cells v0 87 (yh c),.cells w 3 (((List.range k).map λ(i:Nat)=>t0-c.rate*((i:Int)+1)).flatMap Enc.enc)]) (λs=>m.toNat-s.1) (0,v1) [] DI DI DI ?_);rintro⟨k,w⟩ hk;simp only at hk ⊢;have hp:=hprod k DH;have hp1:=hprod (k+1);have hmul:c.rate*((k:Int)+1)=c.rate*(k:Int)+c.rate:=by rw[Int.mul_add,Int.mul_one]
 have hrs:((List.range (k+1)).map λ(i:Nat)=>t0-c.rate*((i:Int)+1))=((List.range k).map λ(i:Nat)=>t0-c.rate*((i:Int)+1))++[t0-c.rate*((k:Int)+1)]:=by simp[AL]
 have hl0:((List.range k).map λ(i:Nat)=>t0-c.rate*((i:Int)+1)).length=k:=DI
 generalize hls:((List.range k).map λ(i:Nat)=>t0-c.rate*((i:Int)+1))=ls at *
 by_cases hc1:(k:Int)<m
 ·have w1:IntKind.i64.wrap (t0-c.rate*(k:Int)-c.rate)=t0-c.rate*((k:Int)+1):=by rw[wr _ DH DH];omega
  refine DQ ?_;refine za (zn (by simp[hc1]) ?_);refine zh (za (zj (za (ze [] w1 ?_))));refine zb ?_;refine⟨by omega,?_⟩;refine zb ?_;exact zq (k+1,w+1) [] DL DL (by simp[zu k (by omega),hrs];) rfl (by simp[hrs])
 ·refine DQ ?_;refine za (zm DL ?_);obtain rfl:k=m.toNat:=DH
  refine zx (yb 1 rfl ?_);refine DQ ?_;refine zr (ZcN c ls DH) ?_;exact zg (zi hd DJ (by simp[zp,hls]))
def YU(c:Cust)(st:List Visit × Int)(d:Int):List Visit × Int:=(st.1++[⟨d,W (c.size-(qU c st.2 d).1)⟩],d)
def jL(c:Cust)(ds:List Int):List Visit × Int:=ds.foldl (YU c) ([],-1)
theorem ZaF(c:Cust)(ds:List Int)(d:Int):jL c (ds++[d])=YU c (jL c ds) d:=by simp[jL]
theorem Zh1(c:Cust):∀ds:List Int,(jL c ds).1.length=ds.length:=by
 have:∀(ds:List Int) (st:List Visit × Int),(ds.foldl (YU c) st).1.length=st.1.length+ds.length:=by
  intro ds
  induction ds with
  | nil=>intro st;simp
  | cons d ds ih=>intro st;rw[AY,ih];simp[YU];omega
 intro ds;unfold jL;rw[this];simp
theorem Zrz(c:Cust)(p:Nat)(hp:p<2 ^ 64)(hc:CustFits c):Pure prog 280 [.agg (yh c),U p] (L (jL c (yA p 0 64)).1):=by
 have hall:=Zc3 p hp;have hln:=Xz p 0 64;have hds:∀d∈yA p 0 64,0<=d/\d<64:=λd hd=>by obtain⟨i,h,h2,_⟩:=WK hd;omega
 generalize yA p 0 64=ds at hall hln hds ⊢;refine zt func280 ntmps280 results280 λS nx hd=>?_
 refine DQ ?_;intro v0;refine DQ ?_;refine za (jg 5 104 2 rfl λv1=>?_);refine zb ?_
 repeat apply za
 refine zb ?_;refine zr hall ?_;have hlast:∀k,-1<=(jL c (ds.take k)).2/\(jL c (ds.take k)).2<=64:=by
  intro k
  induction k with
  | zero=>simp[jL]
  | succ k ih =>
   by_cases h:k<ds.length
   ·rw[AR h,ZaF];have:=hds ds[k] (Bd h);simp only[YU];omega
   ·rw[Af DH]at ih ⊢;exact ih
 refine zj (zD (λs:Nat × Nat=>s.1<=ds.length) (λ(k,w)=>[(2,.ptr nx v0 0),(5,.sl (nx+1) w 2 0 (jL c (ds.take k)).1.length),(6,I (jL c (ds.take k)).2),(12,L ds),(13,I ds.length),(14,I k)]) (λ(k,w)=>[.cells v0 87 (yh c),.cells w 104 ((jL c (ds.take k)).1.flatMap Enc.enc)]) (λs=>ds.length-s.1) (0,v1) [] DI (by simp[jL]) (by simp[jL]) ?_);rintro⟨k,w⟩ hk;simp only at hk ⊢;have hl1:=hlast k;have hfl:(jL c (ds.take k)).1.length=k:=by rw[Zh1];simp;omega
 refine DQ ?_;refine za (zv rfl (λhc1=>?_) (λhc1=>?_))
 ·simp at hc1;obtain⟨d,tl,a1,a2,a3,e0⟩:=zJ rfl ds k hc1;have hd1:=hds d (Ab a1);have hsn:=ZaF c (ds.take k) d;rw[<-a3]at hsn;generalize jL c (ds.take k)=st at *;obtain⟨out,last⟩:=st;simp only[YU]at hl1 hfl hsn ⊢;have hr:=Zh0 c last d hc hl1 DH;generalize qU c last d=r at hr hsn;obtain⟨th,he⟩:=r;simp only at hr hsn;refine zh (za (zj (za (ze [] (zo e0 hc1) ?_))));refine DQ ?_;refine zr hr ?_;refine DQ ?_;refine⟨by omega,?_⟩;refine zb ?_;refine zb ?_;exact zq (k+1,w+1) [] hc1 DL (by simp[zu k (by omega),hsn]) rfl (by simp[hsn])
 ·simp at hc1;obtain rfl:k=ds.length:=DH
  rw[Ak];refine zx (yb 1 rfl ?_);refine DQ ?_;exact DR hd
structure Stp where
 r:Bool
 k:Int
 l:Int
 deriving DecidableEq
instance:Inhabited Stp:=⟨⟨false,0,0⟩⟩
instance:Enc Stp:=⟨λs=>[B s.r,I s.k,I s.l],3,λ_=>rfl,λ_=>rfl⟩
@[simp] theorem ZyS(s:Stp):Enc.enc s=[B s.r,I s.k,I s.l]:=rfl
@[simp high] theorem ZrA(l:List Stp):(l.flatMap Enc.enc).length=l.length*3:=j4 l
@[simp high] theorem ZyT(l:List Stp):(l.flatMap Enc.enc).take (l.length*3)=l.flatMap Enc.enc:=YB l
def zs:Stp:=⟨false,0,0⟩
def JA(c:Cust)(n:Nat)(cap:Int)(price:List Int)(tab:List Stp)(d:Nat)(last:Int):Int :=
 let k1:=if 0<=last then W ((qU c last d).2+(tab.getD last.toNat zs).k) else (qU c last d).2
 if d<n then W (k1+YS price d) else k1
def QK(c:Cust)(n:Nat)(cap:Int)(tab:List Stp)(d:Nat)(last:Int):Prop :=
 ¬(0<=last/\tab.getD last.toNat zs=zs)/\¬((qU c last d).1<0\/(d<n/\vK c (qU c last d).1 cap=0))
instance (c:Cust) (n:Nat) (cap:Int) (tab:List Stp) (d:Nat) (last:Int):Decidable (QK c n cap tab d last):=by unfold QK;exact inferInstance
def WN(c:Cust)(n:Nat)(cap:Int)(price:List Int)(tab:List Stp)(d:Nat)(best:Stp)(last:Int):Stp :=
 if QK c n cap tab d last then (if best=zs\/JA c n cap price tab d last<best.k then ⟨true,JA c n cap price tab d last,last⟩ else best) else best
def xK(c:Cust)(n:Nat)(cap:Int)(price:List Int)(tab:List Stp)(d:Nat)(j:Nat):Stp:=(List.range j).foldl (λb (i:Nat)=>WN c n cap price tab d b ((i:Int)-1)) zs
theorem Zh2(c:Cust)(n:Nat)(cap:Int)(price:List Int)(tab:List Stp)(d:Nat)(j:Nat):xK c n cap price tab d (j+1)=WN c n cap price tab d (xK c n cap price tab d j) ((j:Int)-1):=by simp[xK,AL]
def jA(c:Cust)(n:Nat)(cap:Int)(price:List Int):Nat->List Stp
 | 0=>[]
 | k+1=>jA c n cap price k++[xK c n cap price (jA c n cap price k) k (k+1)]
theorem WO(c:Cust)(n:Nat)(cap:Int)(price:List Int):∀k,(jA c n cap price k).length=k
 | 0=>rfl
 | k+1=>by simp[jA,WO c n cap price k]
def uh(tab:List Stp):Nat->Nat->Int->Nat
 | 0,s,_=>s
 | f+1,s,d=>if d<0 then s else uh tab f (qK s d) (tab.getD d.toNat zs).l
def YV(c:Cust)(n:Nat)(cap:Int)(price:List Int):List Visit × Bool :=
 if (jA c n cap price (n+1)).getD n zs=zs then ([],false)
 else ((jL c (yA (uh (jA c n cap price (n+1)) 65 0 ((jA c n cap price (n+1)).getD n zs).l) 0 64)).1,true)
def ZrB(tab:List Stp):Prop:=∀(d:Nat) (e:Stp),tab[d]?=some e->e=zs\/(e.r=true/\-1<=e.l/\e.l<d/\(0<=e.l->tab.getD e.l.toNat zs≠zs))
theorem ZaG(c:Cust)(n:Nat)(cap:Int)(price:List Int)(tab:List Stp)(d:Nat):∀j:Nat,xK c n cap price tab d j=zs\/((xK c n cap price tab d j).r=true/\-1<=(xK c n cap price tab d j).l/\(xK c n cap price tab d j).l+1<j/\QK c n cap tab d (xK c n cap price tab d j).l)
 | 0=>.inl rfl
 | j+1=>by
  have ih:=ZaG c n cap price tab d j;rw[Zh2];unfold WN;split
  ·rename_i hok;split
   ·exact .inr ⟨rfl,by dsimp only;omega,by dsimp only;omega,hok⟩
   ·rcases ih with ih | ⟨h1,h2,h3,h4⟩
    ·exact .inl ih
    ·exact .inr ⟨h1,h2,by omega,h4⟩
  ·rcases ih with ih | ⟨h1,h2,h3,h4⟩
   ·exact .inl ih
   ·exact .inr ⟨h1,h2,by omega,h4⟩
theorem Zda(c:Cust)(n:Nat)(cap:Int)(price:List Int):∀k,ZrB (jA c n cap price k)
 | 0=>by intro d e h;cases h
 | k+1=>by
  have ih:=Zda c n cap price k;have hl:=WO c n cap price k;have he:=ZaG c n cap price (jA c n cap price k) k (k+1);intro d e h;simp only[jA]at h ⊢;have hget:∀(i:Nat),i<k->(jA c n cap price k++[xK c n cap price (jA c n cap price k) k (k+1)]).getD i zs=(jA c n cap price k).getD i zs:=by
   intro i hi;rw[Aa,Aa,Ap DH]
  by_cases hd:d<k
  ·rw[Ap DH]at h;rcases ih d e h with q | ⟨q1,q2,q3,q4⟩
   ·exact .inl q
   ·refine .inr ⟨q1,q2,q3,λq=>?_⟩;rw[hget _ DH];exact q4 q
  ·rw[Aj DH,hl]at h;obtain rfl:d=k:=by
    rcases Bh (d-k) 1 with q | q
    ·omega
    ·rw[An (by simpa using q)]at h;cases h
   rw[Bp]at h;simp only[Bb,Option.some.injEq]at h;subst h;rcases he with q | ⟨q1,q2,q3,q4⟩
   ·exact .inl q
   ·refine .inr ⟨q1,q2,by omega,λq=>?_⟩;rw[hget _ DH];exact λhz=>q4.1 ⟨q,hz⟩
open Go Go.Proofs Hp
def qw(tab:List Stp)(b:Stp):List Stp:=tab++b :: List.replicate (64-tab.length) zs
theorem Zh3(tab:List Stp)(b:Stp)(h:tab.length<=64):(qw tab b).length=65:=by simp[qw];omega
theorem ZaH(tab:List Stp)(b:Stp)(i:Nat)(h:i<tab.length):(qw tab b)[i]?=some (tab.getD i zs):=by
 unfold qw;rw[Ap h,Aa,Ae h];rfl
theorem ZrC(tab:List Stp)(b:Stp):(qw tab b)[tab.length]?=some b:=by
 unfold qw;rw[Aj (Ag _)];simp
theorem ZrD(tab:List Stp)(b e:Stp):(qw tab b).set tab.length e=qw tab e:=by
 unfold qw;rw[BB _ _ (Ag _)];simp
theorem ZrE(tab:List Stp)(b:Stp)(h:tab.length<64):qw tab b=qw (tab++[b]) zs:=by
 unfold qw;rw[List.append_assoc,Aq,Bm,show 64-tab.length=(64-(tab.length+1))+1 from by omega,BA];rfl
@[simp] theorem ZyU:Program.zeroOf prog 325=some (.agg #[.bool false,.int .i64 0,.int .i64 0,.bool false,.int .i64 0,.int .i64 0,.bool false,.int .i64 0,.int .i64 0,.bool false,.int .i64 0,.int .i64 0,.bool false,.int .i64 0,.int .i64 0,.bool false,.int .i64 0,.int .i64 0,.bool false,.int .i64 0,.int .i64 0,.bool false,.int .i64 0,.int .i64 0,.bool false,.int .i64 0,.int .i64 0,.bool false,.int .i64 0,.int .i64 0,.bool false,.int .i64 0,.int .i64 0,.bool false,.int .i64 0,.int .i64 0,.bool false,.int .i64 0,.int .i64 0,.bool false,.int .i64 0,.int .i64 0,.bool false,.int .i64 0,.int .i64 0,.bool false,.int .i64 0,.int .i64 0,.bool false,.int .i64 0,.int .i64 0,.bool false,.int .i64 0,.int .i64 0,.bool false,.int .i64 0,.int .i64 0,.bool false,.int .i64 0,.int .i64 0,.bool false,.int .i64 0,.int .i64 0,.bool false,.int .i64 0,.int .i64 0,.bool false,.int .i64 0,.int .i64 0,.bool false,.int .i64 0,.int .i64 0,.bool false,.int .i64 0,.int .i64 0,.bool false,.int .i64 0,.int .i64 0,.bool false,.int .i64 0,.int .i64 0,.bool false,.int .i64 0,.int .i64 0,.bool false,.int .i64 0,.int .i64 0,.bool false,.int .i64 0,.int .i64 0,.bool false,.int .i64 0,.int .i64 0,.bool false,.int .i64 0,.int .i64 0,.bool false,.int .i64 0,.int .i64 0,.bool false,.int .i64 0,.int .i64 0,.bool false,.int .i64 0,.int .i64 0,.bool false,.int .i64 0,.int .i64 0,.bool false,.int .i64 0,.int .i64 0,.bool false,.int .i64 0,.int .i64 0,.bool false,.int .i64 0,.int .i64 0,.bool false,.int .i64 0,.int .i64 0,.bool false,.int .i64 0,.int .i64 0,.bool false,.int .i64 0,.int .i64 0,.bool false,.int .i64 0,.int .i64 0,.bool false,.int .i64 0,.int .i64 0,.bool false,.int .i64 0,.int .i64 0,.bool false,.int .i64 0,.int .i64 0,.bool false,.int .i64 0,.int .i64 0,.bool false,.int .i64 0,.int .i64 0,.bool false,.int .i64 0,.int .i64 0,.bool false,.int .i64 0,.int .i64 0,.bool false,.int .i64 0,.int .i64 0,.bool false,.int .i64 0,.int .i64 0,.bool false,.int .i64 0,.int .i64 0,.bool false,.int .i64 0,.int .i64 0,.bool false,.int .i64 0,.int .i64 0,.bool false,.int .i64 0,.int .i64 0,.bool false,.int .i64 0,.int .i64 0,.bool false,.int .i64 0,.int .i64 0,.bool false,.int .i64 0,.int .i64 0,.bool false,.int .i64 0,.int .i64 0,.bool false,.int .i64 0,.int .i64 0,.bool false,.int .i64 0,.int .i64 0,.bool false,.int .i64 0,.int .i64 0,.bool false,.int .i64 0,.int .i64 0,.bool false,.int .i64 0,.int .i64 0]):=DK
theorem Zh4{α:Type}[Enc α]:∀(l:List α) (k:Nat),(l.flatMap Enc.enc).take (k*Enc.sz α)=(l.take k).flatMap Enc.enc
 | [],k=>by simp
 | a :: l,0=>by simp
 | a :: l,k+1=>by
  have ih:=Zh4 l k;rw[Az,CY,Az,Nat.add_mul,DD,List.take_append,Enc.len,<-ih,B1,Af (by rw[Enc.len];omega)]
theorem ZrF{α:Type}[Enc α](n:Nat)(hn:Enc.sz α=n)(l:List α)(k:Nat)(v:α)(h:k<l.length):ye (l.flatMap Enc.enc) (k*n) (Enc.enc v)=(l.set k v).flatMap Enc.enc:=by
 subst hn;have h1:=Zbx h;have h2:(l.flatMap Enc.enc).drop (k*Enc.sz α+Enc.sz α)=(l.drop (k+1)).flatMap Enc.enc:=by
  rw[<-List.drop_drop,h1,Cl,Ba (by rw[Enc.len];exact Ag _),Enc.len,Bp];simp
 rw[ye,Enc.len,Zh4,h2,AF,if_pos h];simp
theorem Zh5(tab:List Stp):∀(f s:Nat) (d:Int),s<2 ^ 64->uh tab f s d<2 ^ 64
 | 0,_,_,h=>h
 | f+1,s,d,h=>by
  unfold uh;split
  ·exact h
  ·exact Zh5 tab f _ _ (Zan _ _ h)
theorem ZrG(tab:List Stp)(f s:Nat){d:Int}(h:d<0):uh tab f s d=s:=by
 cases f with
 | zero=>rfl
 | succ f=>unfold uh;rw[if_pos h]
theorem ZrH{S:Store}{pl:PV}{price:List Int}(c:Cust)(n:Nat)(cap:Int)(hR:RowOf S pl price)(hc:CustFits c)(hn:n<=60):
  Spec prog 247 [.agg (yh c),I n,I cap,pl] S (λq S'=>q=.tup [L (YV c n cap price).1,B (YV c n cap price).2]/\S'=S):=by
 have hmin:je (n:Int) 64=n:=by unfold je;split<;>omega
 have hmax:qP (n:Int) 0=n:=by unfold qP;split<;>omega
 have hpr:=λS (h:RowOf S pl price) d=>Zc6 d h
 have hrest:=λ(last d:Int) (h1:-1<=last/\last<=64) (h2:0<=d/\d<=64)=>Zh0 c last d hc h1 h2
 have hmost:=λ(th:Int) (h:-4611686018427387904<=th/\th<=4611686018427387904)=>Zc5 c th cap hc.size h
 unfold YV;refine yi func247 ntmps247 results247 λnx hd=>?_
 refine DQ ?_;intro v0;refine za (ze [] (zo hmin hmax) ?_);refine DQ ?_;intro v1;have hw:IntKind.i64.wrap ((n:Int)+1)=((n+1:Nat):Int):=zu n DH
 repeat apply za
 refine ze [] hw ?_;refine zj (zD (λd:Nat=>d<=n+1) (λd=>[(1,I n),(2,I cap),(3,pl),(4,.ptr nx v0 0),(10,.ptr (nx+1) v1 0),(22,I (n+1:Nat)),(23,I d)]) (λd=>[.cells v0 87 (yh c),.cells v1 325 ((qw (jA c n cap price d) zs).flatMap Enc.enc)]) (λd=>n+1-d) 0 [] DI DI (by simp[jA];rfl) ?_);rintro d hd1;have htl:=WO c n cap price d;have htok:=Zda c n cap price d;have htn:jA c n cap price (d+1)=jA c n cap price d++[xK c n cap price (jA c n cap price d) d (d+1)]:=rfl
 by_cases hdn:d<n+1
 case neg =>
  obtain rfl:d=n+1:=DH
  clear htn;generalize jA c n cap price (n+1)=tab at *;have hml:=Zh3 tab zs DH;obtain⟨s,tl,a1,-,-,e1,e0⟩:=el 3 rfl (qw tab zs) n DH;have hs:tab.getD n zs=s:=by have:=ZaH tab zs n DH;rw[a1]at this;exact(Option.some.inj this).symm
  have hs2:tab[n]?=some s:=by rw[<-hs,Aa,Ae DH];rfl
  have e12:=e1 2 DH;have hn65:(n:Int)<65:=DH
  have z1:3<=195-n*3:=DH
  have z2:1<=195-(n*3+2):=DH
  rw[hs];refine DQ ?_;refine za (zm DI ?_);refine zx ?_;rcases htok n s hs2 with q | ⟨hr,hl1,hl2,hl3⟩
  ·subst q;rw[if_pos rfl];have e0':((qw tab zs).flatMap Enc.enc).drop (n*3)=[B false,I 0,I 0]++tl:=e0
   repeat apply za
   refine ze [] (zV e0' hn65 hml z1) ?_;refine zn rfl (DQ ?_);refine ZS 8 rfl ?_;exact zg ⟨_,S,rfl,⟨by simp[zp],rfl⟩,zR hd⟩
  ·have hne:s≠zs:=λe=>by rw[e]at hr;cases hr
   rw[if_neg hne];obtain⟨sr,sk,sl⟩:=s;simp only at hr hl1 hl2 hl3 ⊢;subst hr
   repeat apply za
   refine ze [] (zV e0 hn65 hml z1) ?_;refine zm rfl (zh (DQ ?_))
   repeat apply za
   refine ze [] (zV e12 hn65 hml z2) ?_;generalize hres:uh tab 65 0 sl=res;have hrlt:res<2 ^ 64:=hres ▸ Zh5 tab 65 0 sl DN;have hfil:=Zrz c res hrlt hc;generalize (jL c (yA res 0 64)).1=vv at hfil ⊢;refine zj (zD (λst:Nat × Nat × Int=>uh tab st.1 st.2.1 st.2.2=res/\-1<=st.2.2/\st.2.2<st.1/\st.2.2<n/\st.2.1<2 ^ 64/\(0<=st.2.2->tab.getD st.2.2.toNat zs≠zs)) (λ(f,s,l)=>[(4,.ptr nx v0 0),(10,.ptr (nx+1) v1 0),(16,U s),(17,I l)]) (λ_=>[.cells v0 87 (yh c),.cells v1 325 ((qw tab zs).flatMap Enc.enc)]) (λst=>st.1) (65,0,sl) [] ⟨hres,hl1,by dsimp only;omega,by dsimp only;omega,by show (0:Nat)<2 ^ 64;decide,hl3⟩ DI DI ?_);rintro⟨f,s,l⟩ ⟨p1,p2,p3,p4,p5,p6⟩;simp only at p1 p2 p3 p4 p5 p6 ⊢
   by_cases hl:l<0
   ·have hl':¬0<=l:=DH
    rw[ZrG tab f s hl]at p1;subst p1
    repeat apply za
    refine ze [] hl' ?_;refine zm rfl (zx (DQ ?_));refine zr hfil ?_;exact zg ⟨_,S,DJ,⟨by simp[zp],rfl⟩,zR hd⟩
   ·have hl':0<=l:=DH
    obtain⟨i,rfl⟩:=Av hl';obtain⟨f,rfl⟩:∃g,f=g+1:=⟨f-1,by omega⟩;have p6:=p6 hl';rw[AN]at p6;have hi:i<tab.length:=DH
    obtain⟨e,tl2,b1,-,-,f1,f0⟩:=el 3 rfl (qw tab zs) i DH;have he:tab.getD i zs=e:=by have:=ZaH tab zs i hi;rw[b1]at this;exact(Option.some.inj this).symm
    have he2:tab[i]?=some e:=by rw[<-he,Aa,Ae hi];rfl
    have f12:=f1 2 DH;have hi65:(i:Int)<65:=DH
    have y2:1<=195-(i*3+2):=DH
    rw[he]at p6;rcases htok i e he2 with q | ⟨er,el1',el2',el3'⟩
    ·exact absurd q p6
    have p1':uh tab f (qK s i) e.l=res:=by
     rw[<-p1];unfold uh;rw[if_neg DH,AN,he];cases f<;>rfl
    repeat apply za
    refine ze [] hl' ?_;refine zn rfl (zh (za (zj (zb ?_))));refine zr (Zg4 s i p5) ?_;refine ze [] (zV f12 hi65 hml y2) ?_;exact zq (f,qK s i,e.l) [] ⟨p1',el1',by dsimp only;omega,by dsimp only;omega,Zan _ _ p5,el3'⟩ DI DI rfl DI
 generalize jA c n cap price d=tab at *;refine DQ ?_;refine za (zn DL ?_);refine zh (za (zj (DQ ?_)));refine DQ ?_;refine zj (zD (λj:Nat=>j<=d+1) (λj=>[(1,I n),(2,I cap),(3,pl),(4,.ptr nx v0 0),(10,.ptr (nx+1) v1 0),(11,I d),(12,I ((j:Int)-1)),(22,I (n+1:Nat)),(23,I d)]) (λj=>[.cells v0 87 (yh c),.cells v1 325 ((qw tab (xK c n cap price tab d j)).flatMap Enc.enc)]) (λj=>d+1-j) 0 [] DI DI (by simp[xK]) ?_);rintro j hj;have hesucc:=Zh2 c n cap price tab d j;have heok:=ZaG c n cap price tab d j;have hdd:xK c n cap price tab d (d+1)=xK c n cap price tab d (d+1):=rfl
 by_cases hjd:j<d+1
 case neg =>
  obtain rfl:j=d+1:=DH
  repeat apply za
  refine zb ?_;refine zm DI ?_;refine zx (zb ?_);exact zq (d+1) [] hdn DH (by simp[zu d (by omega)]) rfl (by rw[htn,<-ZrE tab _ (by omega)];simp)
 clear hdd htn;generalize xK c n cap price tab d j=b at *;obtain⟨last,hlast⟩:∃last:Int,last=(j:Int)-1:=⟨_,rfl⟩;rw[<-hlast]at hesucc ⊢;have hwl:IntKind.i64.wrap (last+1)=((j+1:Nat):Int)-1:=by rw[wr _ DH DH];omega
 have hml:=Zh3 tab b DH;have hd65:(d:Int)<65:=DH
 have zd3:3<=195-d*3:=DH
 have zd1:1<=195-(d*3+1):=DH
 have hr:=hrest last d DH DH;have hrbd:-4611686018427387904<=(qU c last d).1/\(qU c last d).1<=4611686018427387904:=by
  have h1:=hc.rate;have h2:=hc.size;have h3:=hc.start;unfold qU;simp only;have hp:0<=c.rate*((if last<0 then (d:Int) else d-last).toNat:Int)/\c.rate*((if last<0 then (d:Int) else d-last).toNat:Int)<=2147483648*65 :=
   ⟨CK h1.1 DH,CL h1.2 (by split<;>omega) DH DH⟩
  generalize c.rate*((if last<0 then (d:Int) else d-last).toNat:Int)=pp at hp ⊢;split<;>omega
 have hm:=hmost _ hrbd;have hks:∀(k1:Int),k1=(if 0<=last then W ((qU c last d).2+(tab.getD last.toNat zs).k) else (qU c last d).2)->JA c n cap price tab d last=if d<n then W (k1+YS price d) else k1:=λk1 h=>by unfold JA;rw[h]
 have hokd:QK c n cap tab d last=(¬(0<=last/\tab.getD last.toNat zs=zs)/\¬((qU c last d).1<0\/(d<n/\vK c (qU c last d).1 cap=0))):=rfl;have hstay:¬QK c n cap tab d last->xK c n cap price tab d (j+1)=b:=λh=>by rw[hesucc];unfold WN;rw[if_neg h]
 have hgo:QK c n cap tab d last->xK c n cap price tab d (j+1)=if b=zs\/JA c n cap price tab d last<b.k then ⟨true,JA c n cap price tab d last,last⟩ else b:=λh=>by rw[hesucc];unfold WN;rw[if_pos h]
 clear hesucc;generalize qU c last d=rr at hr hm hks hokd;obtain⟨th,he⟩:=rr;simp only at hr hm hks hokd;generalize vK c th cap=mo at hm hokd;generalize QK c n cap tab d last=OK at hokd hstay hgo;generalize JA c n cap price tab d last=kk at hks hgo;generalize hb'e:xK c n cap price tab d (j+1)=b' at hstay hgo;subst hokd
 repeat apply za
 refine zb ?_;refine zn DL ?_;refine zh (za (zj (za (qS (nx:=nx) (σ:=Unit) (λ_=>¬(0<=last/\tab.getD last.toNat zs=zs)) (λ_=>[(1,I n),(2,I cap),(3,pl),(4,.ptr nx v0 0),(10,.ptr (nx+1) v1 0),(11,I d),(12,I last),(22,I (n+1:Nat)),(23,I d)]) (λ_=>S) (λ_=>[.cells v0 87 (yh c),.cells v1 325 ((qw tab b).flatMap Enc.enc)]) ?_ ?_))))
 ·by_cases hl:0<=last
  ·obtain⟨i,hi⟩:=Av hl;have hit:i<tab.length:=DH
   obtain⟨e,tl2,b1,-,-,-,f0⟩:=el 3 rfl (qw tab b) i DH;have hee:tab.getD i zs=e:=by have:=ZaH tab b i hit;rw[b1]at this;exact(Option.some.inj this).symm
   have he2:tab[i]?=some e:=by rw[<-hee,Aa,Ae hit];rfl
   have hi65:(i:Int)<65:=DH
   have y3:3<=195-i*3:=DH
   have hlt:last.toNat=i:=DH
   rcases htok i e he2 with q | ⟨er,-,-,-⟩
   ·subst q;have f0':((qw tab b).flatMap Enc.enc).drop (i*3)=[B false,I 0,I 0]++tl2:=f0;have hb':=hstay λh=>h.1 ⟨hl,by rw[hlt];exact hee⟩
    subst hb';subst hi;refine za (ze [(2,33)] (yE hl f0' hi65 hml y3) ?_);refine zn rfl (zx (ze [] hwl ?_));exact zq (j+1) [] DH DH DI rfl (by simp[hb'e])
   ·obtain⟨r1,r2,r3⟩:=e;simp only at er;subst er;subst hi;refine za (ze [(2,33)] (yE hl f0 hi65 hml y3) ?_);exact zm rfl (zh (z8 () [] (by rw[hlt,hee];rintro⟨-,q⟩;cases q) DI rfl DI))
  ·refine za (ze [(2,33)] (zo hl zN) ?_);exact zm rfl (zh (z8 () [] (λq=>hl q.1) DI rfl DI))
 intro _ hA;refine DQ ?_;refine zr hr ?_;refine za (qS (nx:=nx) (σ:=Unit) (λ_=>¬(th<0\/(d<n/\mo=0))) (λ_=>[(1,I n),(2,I cap),(3,pl),(4,.ptr nx v0 0),(10,.ptr (nx+1) v1 0),(11,I d),(12,I last),(14,I he),(22,I (n+1:Nat)),(23,I d)]) (λ_=>S) (λ_=>[.cells v0 87 (yh c),.cells v1 325 ((qw tab b).flatMap Enc.enc)]) ?_ ?_)
 ·by_cases h1:th<0
  ·have hb':=hstay λh=>h.2 (.inl h1)
   subst hb';refine za (ze [(2,49),(6,53)] (zo h1 zN) ?_);refine zn rfl (zx (ze [] hwl ?_));exact zq (j+1) [] DH DH DI rfl (by simp[hb'e])
  ·by_cases h2:d<n
   ·by_cases h3:mo=0
    ·have hb':=hstay λh=>h.2 (.inr ⟨h2,h3⟩)
     subst hb';refine za (ze [(2,49),(6,53)] (zF h1 h2 h3) ?_);refine qm [(2,49),(6,53)] hm (zF h1 h2 h3) ?_;refine zn rfl (zx (ze [] hwl ?_));exact zq (j+1) [] DH DH DI rfl (by simp[hb'e])
    ·refine za (ze [(2,49),(6,53)] (zF h1 h2 h3) ?_);refine qm [(2,49),(6,53)] hm (zF h1 h2 h3) ?_;exact zm rfl (zh (z8 () [] DH DI rfl DI))
   ·refine za (ze [(2,49),(6,53)] (zF h1 h2 zN) ?_);exact zm rfl (zh (z8 () [] DH DI rfl DI))
 intro _ hB;have hgo:=hgo ⟨hA,hB⟩;clear hstay hm hr;refine DQ ?_;intro v2;obtain⟨k1,hk1⟩:∃k1,k1=(if 0<=last then W (he+(tab.getD last.toNat zs).k) else he):=⟨_,rfl⟩;have hks:=hks k1 hk1;refine za (qS (nx:=nx) (σ:=Unit) (λ_=>True) (λ_=>[(1,I n),(2,I cap),(3,pl),(4,.ptr nx v0 0),(10,.ptr (nx+1) v1 0),(11,I d),(12,I last),(15,.ptr (nx+2) v2 0),(22,I (n+1:Nat)),(23,I d)]) (λ_=>S) (λ_=>[.cells v0 87 (yh c),.cells v1 325 ((qw tab b).flatMap Enc.enc),.cells v2 324 [B true,I k1,I last]]) ?_ ?_)
 ·refine DQ ?_
  by_cases hl:0<=last
  ·rw[if_pos hl]at hk1;obtain⟨i,hi⟩:=Av hl;have hit:i<tab.length:=DH
   obtain⟨e,tl2,b1,-,-,f1,f0⟩:=el 3 rfl (qw tab b) i DH;have hee:tab.getD i zs=e:=by have:=ZaH tab b i hit;rw[b1]at this;exact(Option.some.inj this).symm
   have f11:=f1 1 DH;have hi65:(i:Int)<65:=DH
   have y1:1<=195-(i*3+1):=DH
   have hlt:last.toNat=i:=DH
   rw[hlt,hee]at hk1;subst hi;refine zn DI ?_;refine zz (some [nx+1]) (Row.pures [0,2,3,4,5] (.alt 1 (Row.pures [6,7] (.alt 8 (.done) .stop)) .stop)) mixed (zV f11 hi65 hml y1) ?_;exact z8 () [] trivial DI rfl (by simp[hk1])
  ·rw[if_neg hl]at hk1;refine zm DL ?_;exact zh (z8 () [] trivial DI rfl (by simp[hk1]))
 intro _ _;clear hk1;refine za (qS (nx:=nx) (σ:=Unit) (λ_=>True) (λ_=>[(1,I n),(2,I cap),(3,pl),(4,.ptr nx v0 0),(10,.ptr (nx+1) v1 0),(11,I d),(12,I last),(15,.ptr (nx+2) v2 0),(22,I (n+1:Nat)),(23,I d)]) (λ_=>S) (λ_=>[.cells v0 87 (yh c),.cells v1 325 ((qw tab b).flatMap Enc.enc),.cells v2 324 [B true,I kk,I last]]) ?_ ?_)
 ·refine DQ ?_
  by_cases h2:d<n
  ·rw[if_pos h2]at hks;refine zn (by simp[h2]) ?_;refine zz (some [nx+1]) (Row.pures [0,2,3] (.alt 1 (.alt 4 (Row.pures [5,6] (.alt 7 (.done) .stop)) .stop) (.alt 4 (.alt 1 (Row.pures [5,6] (.alt 7 (.done) .stop)) .stop) .stop))) mixed trivial ?_;refine⟨?_,?_⟩
   ·refine(((hpr _ (hR.ext hd _) _).mono ?_).v);rintro _ _ ⟨rfl,rfl⟩;refine⟨by simp[yH],ju trivial ?_⟩;exact z8 () [] trivial DI rfl (by simp[hks])
   ·refine(((hpr _ (hR.ext hd _) _).mono ?_).v);rintro _ _ ⟨rfl,rfl⟩;refine⟨by simp[yH],ju trivial ?_⟩;exact z8 () [] trivial DI rfl (by simp[hks])
  ·rw[if_neg h2]at hks;refine zm DL ?_;exact zh (z8 () [] trivial DI rfl (by simp[hks]))
 intro _ _;clear hks;obtain⟨e,tl2,b1,-,-,f1,f0⟩:=el 3 rfl (qw tab b) d DH;have hee:b=e:=by have:=ZrC tab b;rw[htl,b1]at this;exact(Option.some.inj this).symm
 subst hee;have f11:=f1 1 DH;have hsp:=ZrF 3 rfl (qw tab b) d ⟨true,kk,last⟩ DH;have hms:=ZrD tab b ⟨true,kk,last⟩;rw[htl]at hms;rw[hms]at hsp;have hsp':ye ((qw tab b).flatMap Enc.enc) (d*3) [B true,I kk,I last]=(qw tab ⟨true,kk,last⟩).flatMap Enc.enc:=hsp;clear hsp hms;have hmf:((qw tab b).flatMap Enc.enc:List PV).length=195:=by rw[ZrA,hml]
 rcases heok with q | ⟨hbr,-,-,-⟩
 ·subst q;rw[if_pos (.inl rfl)]at hgo;subst hgo;have f0':((qw tab zs).flatMap Enc.enc).drop (d*3)=[B false,I 0,I 0]++tl2:=f0;refine za (zz none (Row.pures [0,1,2,3,4,5,6,7,8,9,10,11,12,13] .done) mixed (yE f0' hd65 hml zd3 zN) ?_);refine zn rfl (ze [] (zV hd65 hmf hsp' hml) ?_);refine⟨by omega,?_⟩;refine ze [] hwl ?_;exact zq (j+1) [_] DH DH DI rfl (by simp[hb'e];rfl)
 ·obtain⟨r1,r2,r3⟩:=b;simp only at hbr;subst hbr;have hnz:¬((⟨true,r2,r3⟩:Stp)=zs):=λe=>by cases e
  by_cases hlt:kk<r2
  ·rw[if_pos (.inr hlt)]at hgo;subst hgo;refine za (zz none (Row.pures [0,1,2,3,4,5,6,7,8,9,10,11,12,13] .done) mixed (yl f0 f11 hd65 hml zd3 (zo zd1 hlt)) ?_);refine zn rfl (ze [] (zV hd65 hmf hsp' hml) ?_);refine⟨by omega,?_⟩;refine ze [] hwl ?_;exact zq (j+1) [_] DH DH DI rfl (by simp[hb'e];rfl)
  ·rw[if_neg (by rintro(q | q);exact hnz q;exact hlt q)]at hgo;subst hgo;refine za (zz none (Row.pures [0,1,2,3,4,5,6,7,8,9,10,11,12,13] .done) mixed (yl f0 f11 hd65 hml zd3 (zo zd1 hlt)) ?_);refine zm rfl (zh (ze [] hwl ?_));exact zq (j+1) [_] DH DH DI rfl (by simp[hb'e];rfl)
open Go Go.Proofs Hp
section
variable {P:Program} {r:Rd} {n N:Nat} {Q:Exit->(Nat->PV)->Store->Prop} {F:Nat->PV} {c:Code}
theorem ZrI{S:Store}{nx:Nat}{obs:List Ob}(j:Nat){ver e:Nat}{cs:List PV}(hj:obs[j]?=some (.cells ver e cs)){id v e2:Nat}{ds:List PV}(hlt:id<nx)(hs:S id=.cells v e2 ds)
  (h:PW P r n N c Q F (ext (S.set id (.cells v e2 (ds.map (qf (nx+j) ver cs)))) nx (obs.set j .dead))):PW P r n N c Q F (ext S nx obs):=by
 have hjl:j<obs.length:=(Ac.1 hj).1;refine Zqx (id:=nx+j) (ver:=ver) (e:=e) (cs:=cs) (G:=F) (by rw[zQ,Aa,hj];rfl) (by rw[zQ,Aa,AW hjl];rfl) (λo=>?_) (λ_=>.inl rfl) h
 by_cases ho:o<nx
 ·rw[zB ho,zB ho]
  by_cases hoi:o=id
  ·subst hoi;rw[q11,hs];exact .inr (.inr rfl)
  ·rw[q10 _ _ _ _ hoi];exact .inr (.inl rfl)
 ·simp only[ext];rw[if_neg ho,if_neg ho,Aa,Aa,Bt];split
  ·simp[hjl]
  ·exact .inr (.inl rfl)
theorem ZaI{S T:Store}{nx nz:Nat}{obs:List Ob}(hd:zW nx S)(hle:nx<=nz)(h:∀o,o<nx->T o=S o)(o:Nat):S o=ext T nz obs o\/S o=.dead:=by
 by_cases ho:o<nx
 ·rw[zB DH,h o ho];exact .inl rfl
 ·exact .inr (hd o DH)
end
def ZC(x:Inst)(sol:Cust->List Int->List Visit × Bool)(b:Int)(n:Nat):Nat->List (List Int)->zA × Int
 | 0,_=>([],15)
 | k+1,pr =>
  if (qD x sol pr).2≠0 then ([],15)
  else if jz (jp x (qD x sol pr).1 b n)=0 then (xV x (qD x sol pr).1 b n,0)
  else if (jp x (qD x sol pr).1 b n).any Ye=true then ([],15)
  else ZC x sol b n k (XF (jp x (qD x sol pr).1 b n) pr n)
def WP(x:Inst)(sol:Cust->List Int->List Visit × Bool)(b:Int)(n:Nat):zA × Int:=ZC x sol b n 8 (jJ x n 0)
def Zh6(x:Inst)(n:Nat)(sol:Cust->List Int->List Visit × Bool):Prop:=∀pr,u9 x.cust.length n pr->(qD x sol pr).2=0->VsOk x.cust.length n (qD x sol pr).1
theorem ZrJ{x:Inst}{sol:Cust->List Int->List Visit × Bool}{b:Int}{n:Nat}(hx:InstH x)(hn:x.days=n)(hn2:n<=1000)(hs:Zc1 x n sol)(hv:Zh6 x n sol)(hb:b<=9223372036854775807):
  Pure prog 128 [.agg (zy x),I b] (.tup [.agg [L (WP x sol b n).1],I (WP x sol b n).2]):=by
 have hm:=hx.cust;unfold WP;have hPo:=ZhK x n;refine zt func128 ntmps128 results128 λS nx hd=>?_
 refine DQ ?_;intro v0 v1;refine za (zz (some [nx]) (Row.pures [0,1,2,3,4] (.alt 5 (Row.pures [6] (.alt 7 (Row.pures [8] .done) .stop)) .stop)) mixed trivial ?_);refine⟨by omega,?_⟩;intro v2 v3;rw[ZqE];refine Zqz (α:=Int) (nx+2) v2 26 (nx+4) 3 1 x.cust.length DI (jF (obs:=[_,_,_,_])) λT ws hR hT hdT=>?_
 have hT0:T nx=.cells v0 25 (zy x):=by rw[hT nx DH DH];simp
 have hT1:T (nx+1)=.cells v1 30 [.sc (.slice none 0 0)]:=by rw[hT (nx+1) DH DH];simp
 have hT3:T (nx+3)=.cells v3 235 (xy x (.sc (.slice none 0 0)) b (.sc (.slice none 0 0)) (.sc (.slice none 0 0)) (.sl (nx+2) v2 1 0 x.cust.length)):=by rw[hT (nx+3) DH DH];simp
 have hTS:∀o,o<nx->T o=S o:=λo ho=>by rw[hT o DH DH,zB ho]
 clear hT;obtain⟨nz,hnz⟩:∃nz,nz=nx+4+x.cust.length:=⟨_,rfl⟩;rw[<-hnz]at hdT;rw[show List.replicate x.cust.length ([]:List Int)=jJ x 0 0 from (A5 λj=>by
  by_cases h:j<x.cust.length
  ·simp[jJ,h]
  ·rw[An DL,An (by rw[Jy];omega)])]at hR
 rw[<-qB hdT];refine za (jP [] DM DM λK Gc Gh hK hGc hGh X hX0 hX=>?_);simp -implicitDefEqProofs [hX0,hX]
 try clear hX0 hX X
 refine hGc _ _ _ _ _ _ _ λhsuf=>(Spec.mono (ZhH (nx:=nz) (by rw[qB hdT];exact hdT) x _ _ _ _ _ _ _ n hn hn2 (by rw[qB hdT];exact hT3)
  (λk T'=>(∃ws',RowsAt T' (nx+2) v2 26 (nx+4) 3 1 ws' (jJ x k 0))/\(∀o,o≠nx+2->(o<nx+4\/nx+4+x.cust.length<=o)->T' o=T o)) ⟨⟨ws,by rw[qB hdT];exact hR⟩,λo _ _=>by rw[qB hdT]⟩
  (λk T' h o ho=>by rw[h.2 o DH (.inr DH)];exact hdT o ho) (λk hk T' h=>?_)) ?_).v
 ·obtain⟨⟨ws',h1⟩,h2⟩:=h;refine(ZqZ k hm DH DH DH ((h2 (nx+3) DH (.inl DH)).trans hT3) h1).mono ?_;rintro _ T2 ⟨g1,g2⟩;exact⟨g1,λo o1 o2=>(g2 o o1 o2).trans (h2 o o1 o2)⟩
 rintro _ T' ⟨⟨ws',hR'⟩,hT'⟩;have hdT':zW nz T':=λo ho=>by rw[hT' o DH (.inr DH)];exact hdT o ho
 refine⟨T',[],(qB hdT').symm,?_⟩;clear hGc hGh;clear Gc Gh;refine jZ hsuf (D:=[]) DM λGc Gh hGc hGh X hX0 hX=>?_
 simp -implicitDefEqProofs [hX0,hX];clear hX0 hX X;refine hK _ _ _ ?_;clear hK hGc hGh;clear K Gc Gh
 replace hT0:=(hT' nx DH (.inl DH)).trans hT0
 replace hT1:=(hT' (nx+1) DH (.inl DH)).trans hT1
 replace hT3:=(hT' (nx+3) DH (.inl DH)).trans hT3
 replace hTS:∀o,o<nx->T' o=S o:=λo ho=>(hT' o DH (.inl DH)).trans (hTS o ho)
 clear hT' hR hdT;generalize jJ x n 0=pr0 at *
 repeat apply za
 refine zb ?_;refine zj (jt (σ:=Nat × Store × List (List Int)) (λs=>s.1<=8/\u9 x.cust.length n s.2.2/\ZC x sol b n 8 pr0=ZC x sol b n (8-s.1) s.2.2/\(∃ws',RowsAt s.2.1 (nx+2) v2 26 (nx+4) 3 1 ws' s.2.2)/\s.2.1 nx=.cells v0 25 (zy x)/\s.2.1 (nx+1)=.cells v1 30 [.sc (.slice none 0 0)] /\
  (∃vP pP fP,s.2.1 (nx+3)=.cells v3 235 (xy x vP b pP fP (.sl (nx+2) v2 1 0 x.cust.length)))/\(∀o,o<nx->s.2.1 o=S o)/\zW nz s.2.1)
  (λs=>[(2,.ptr nx v0 0),(4,.ptr (nx+1) v1 0),(6,.ptr (nx+3) v3 0),(21,I s.1)]) (λs=>s.2.1) (λ_=>[]) (λs=>8-s.1) (z8 (0,T',pr0) [] ⟨by simp,hPo,rfl,⟨ws',hR'⟩,hT0,hT1,⟨_,_,_,hT3⟩,hTS,hdT'⟩ DI rfl DI) ?_)
 clear hR' hT0 hT1 hT3 hTS hdT' hPo T';rintro⟨k,T,pr⟩ ⟨hk,hP,hst,⟨ws,hR⟩,hT0,hT1,⟨vP,pP,fP,hT3⟩,hTS,hdT⟩;simp only at hk hP hst hR hT0 hT1 hT3 hTS hdT ⊢;have x0:=λobs=>(zB (S:=T) (nx:=nz) (obs:=obs) (i:=nx) DH).trans hT0
 have x3:=λobs=>(zB (S:=T) (nx:=nz) (obs:=obs) (i:=nx+3) DH).trans hT3
 have g1:¬nz<=nx+1:=DH
 have x1:=λobs=>(zB (S:=T) (nx:=nz) (obs:=obs) (i:=nx+1) DH).trans hT1
 refine DQ ?_;refine za (zv rfl (λhc=>?_) (λhc=>?_))
 ·simp at hc;rw[show 8-k=(7-k)+1 from by omega]at hst;have hvs:=hv pr hP;have hch:=Zq9 (S:=T) hm hP hR hs;rw[show ZC x sol b n (7-k+1) pr=(if (qD x sol pr).2≠0 then ([],15) else if jz (jp x (qD x sol pr).1 b n)=0 then (xV x (qD x sol pr).1 b n,0) else if (jp x (qD x sol pr).1 b n).any Ye=true then ([],15) else ZC x sol b n (7-k) (XF (jp x (qD x sol pr).1 b n) pr n)) from rfl]at hst;generalize qD x sol pr=cz at hst hvs hch;obtain⟨v,e⟩:=cz;simp only at hst hvs hch;refine zh (za (zj (za (ZkN none (Row.pures [0,1,2,3,4] (.alt 5 (Row.pures [6,7,8,9,10] .done) .stop)) mixed DM DM DM λK Gp Gc Gh hK hGp hGc hGh X hX0 hX1 hX2 hX=>?_))));simp -implicitDefEqProofs [hX0,hX1,hX2,hX,x0,x3]
  try clear hX0 hX1 hX2 hX X
  refine hGc _ _ _ _ _ _ _ (Spec.mono (by rw[qB hdT];exact hch) ?_).v;rintro _ S2 ⟨rfl,hS2⟩;have hS3:S2=ext T nz []:=hS2.trans (qB hdT).symm;subst hS3;clear hS2;refine⟨by simp[yH],?_⟩;clear hGp hGc hGh;clear Gp Gc Gh;refine Zeu λGp Gc Gh hGp hGc hGh X hX0 hX1 hX2 hX=>?_
  simp -implicitDefEqProofs [hX0,hX1,hX2,hX]
  try clear hX0 hX1 hX2 hX X
  refine hK _ _ _ ?_;clear hK hGp hGc hGh;clear K Gp Gc Gh
  repeat apply za
  refine zb ?_
  by_cases he:e=0
  case neg =>
   rw[if_pos he]at hst;rw[hst];refine zn (by simp[he]) ?_;refine za (ze [] (zF x0 x1 g1) ?_)
   show PW _ _ _ _ _ _ _ (ext _ _ _)
   refine V6 (o:=nx+1) 0 (by rw[zB (by omega)];first | exact q11 _ _ _ | exact hT1) rfl ?_;rw[yZ _ DH]
   try rw[Store.set_set]
   refine zg ⟨_,S,(by simp[zB (show nx+1<nz from by omega),q11];rfl),⟨by simp[zp],rfl⟩,?_⟩;exact ZaI hd DH λo ho=>by rw[q10 _ _ _ _ DH];exact hTS o ho
  rw[if_neg (by simpa using he)]at hst;have hvs:=hvs he;refine zm (by simp[he]) ?_;refine zh ?_
  repeat apply za
  refine jP [] DM DM λK Gc Gh hK hGc hGh X hX0 hX=>?_
  simp -implicitDefEqProofs [hX0,hX]
  try clear hX0 hX X
  refine hGc _ _ _ _ _ _ _ λhsuf=>(Spec.mono (ZqD (nx:=nz) (n:=n) (by rw[qB hdT];exact hdT) (by rw[qB hdT];exact hT3) hx hn hn2 hvs hb) ?_).v
  rintro _ _ ⟨rfl,vD,vF,rfl⟩;rw[qB hdT];refine⟨_,_,rfl,?_⟩;clear hGc hGh;clear Gc Gh;refine jZ hsuf (D:=[]) DM λGc Gh hGc hGh X hX0 hX=>?_
  simp -implicitDefEqProofs [hX0,hX];clear hX0 hX X;refine hK _ _ _ ?_;clear hK hGc hGh;clear K Gc Gh;have hfl:=Zhm x v b n;have hpl:=ZcS x v b n;generalize jp x v b n=fs at *;generalize xV x v b n=pl at *
  by_cases hf:jz fs=0
  ·rw[if_pos hf]at hst;rw[hst];refine zn (by simp[hf]) ?_
   show PW _ _ _ _ _ _ _ (ext _ _ _)
   refine ZrI 0 (id:=nx+3) rfl DH (q11 _ _ _) ?_;rw[Store.set_set];have hfz:([I x.days,I x.veh,I x.cap,I x.len,L x.cust,L x.dist,L v,I b,.sl nz vD 1 0 pl.length,.sl (nz+1) vF 1 0 fs.length,.sl (nx+2) v2 1 0 x.cust.length]:List PV).map (qf (nz+0) vD (pl.flatMap Enc.enc))=xy x (L v) b (L pl) (.sl (nz+1) vF 1 0 fs.length) (.sl (nx+2) v2 1 0 x.cust.length):=by
    simp[qf];omega
   rw[hfz];have y3:=λ(o:Ob) obs=>(zB (S:=T.set (nx+3) o) (nx:=nz) (obs:=obs) (i:=nx+3) DH).trans (q11 _ _ _)
   have y1:=λ(o:Ob) obs=>(zB (S:=T.set (nx+3) o) (nx:=nz) (obs:=obs) (i:=nx+1) DH).trans ((q10 _ _ _ _ DH).trans hT1)
   refine za (ze [] (zF y3 y1 g1) ?_);refine zg ⟨_,S,(by simp[zB (show nx+1<nz from by omega),q11];rfl),⟨by simp[zp],rfl⟩,?_⟩;exact ZaI hd DH λo ho=>by rw[q10 _ _ _ _ DH,q10 _ _ _ _ DH];exact hTS o ho
  rw[if_neg hf]at hst;refine zm (by simp[hf]) ?_;refine zh ?_;have y3:=λ(o:Ob) obs=>(zB (S:=T.set (nx+3) o) (nx:=nz) (obs:=obs) (i:=nx+3) DH).trans (q11 _ _ _)
  have y1:=λ(o:Ob) obs=>(zB (S:=T.set (nx+3) o) (nx:=nz) (obs:=obs) (i:=nx+1) DH).trans ((q10 _ _ _ _ DH).trans hT1)
  repeat apply za
  refine jP [] DM DM λK Gc Gh hK hGc hGh X hX0 hX=>?_
  simp -implicitDefEqProofs [hX0,hX,y3]
  try clear hX0 hX X
  refine hGc _ _ _ _ _ _ _ λhsuf=>((Zq7 (idF:=nz+1) (vF:=vF) fs (by rw[zQ];rfl) DH).mono ?_).v
  rintro _ _ ⟨rfl,rfl⟩;refine⟨_,_,rfl,?_⟩;clear hGc hGh;clear Gc Gh;refine jZ hsuf (D:=[]) DM λGc Gh hGc hGh X hX0 hX=>?_
  simp -implicitDefEqProofs [hX0,hX];clear hX0 hX X;refine hK _ _ _ ?_;clear hK hGc hGh;clear K Gc Gh;cases hbad:fs.any Ye with
  | true =>
   rw[if_pos hbad]at hst;rw[hst];refine zn rfl (za (ze [] (zo y1 g1) ?_))
   show PW _ _ _ _ _ _ _ (ext _ _ _)
   refine V6 (o:=nx+1) 0 (by rw[zB DH];first | exact q11 _ _ _ | exact(q10 _ _ _ _ DH).trans hT1) rfl ?_;rw[yZ _ DH]
   try rw[Store.set_set]
   refine zg ⟨_,S,(by simp[zB (show nx+1<nz from by omega),q11];rfl),⟨by simp[zp],rfl⟩,?_⟩;exact ZaI hd DH λo ho=>by rw[q10 _ _ _ _ DH,q10 _ _ _ _ DH];exact hTS o ho
  | false =>
   rw[if_neg (by rw[hbad];decide)]at hst;refine zm rfl (zh ?_);generalize hT2:ext (T.set (nx+3) (.cells v3 235 (xy x (L v) b (.sl nz vD 1 0 pl.length) (.sl (nz+1) vF 1 0 fs.length) (.sl (nx+2) v2 1 0 x.cust.length)))) nz [.cells vD 39 (pl.flatMap Enc.enc),.cells vF 47 (fs.flatMap Enc.enc)]=T2;have q3:T2 (nx+3)=.cells v3 235 (xy x (L v) b (.sl nz vD 1 0 pl.length) (.sl (nz+1) vF 1 0 fs.length) (.sl (nx+2) v2 1 0 x.cust.length)):=by rw[<-hT2,zB DH,q11]
   have qF:T2 (nz+1)=.cells vF 47 (fs.flatMap Enc.enc):=by rw[<-hT2,zQ];rfl
   have qo:∀o,o<nz->o≠nx+3->T2 o=T o:=λo h1 h2=>by rw[<-hT2,zB h1,q10 _ _ _ _ h2]
   have qd:zW (nz+2) T2:=by rw[<-hT2];exact jF (obs:=[_,_])
   have qR:RowsAt T2 (nx+2) v2 26 (nx+4) 3 1 ws pr:=hR.other λo ho=>by
    rw[hP.1]at ho;exact qo o DH DH
   clear hT2;rw[<-qB qd];refine jP [] DM DM λK Gc Gh hK hGc hGh X hX0 hX=>?_
   simp -implicitDefEqProofs [hX0,hX]
   try clear hX0 hX X
   refine hGc _ _ _ _ _ _ _ λhsuf=>(Spec.mono (ZhH (nx:=nz+2) (by rw[qB qd];exact qd) x _ _ _ _ _ _ _ n hn hn2 (by rw[qB qd];exact q3)
    (λk T'=>RowsAt T' (nx+2) v2 26 (nx+4) 3 1 ws (XF fs pr k)/\(∀o,(o<nx+4\/nx+4+x.cust.length<=o)->T' o=T2 o)) ⟨by rw[qB qd];exact qR,λo _=>by rw[qB qd]⟩
    (λk T' h o ho=>by rw[h.2 o (.inr DH)];exact qd o ho) (λj hj T' h=>?_)) ?_).v
   ·obtain⟨h1,h2⟩:=h;refine(Zq4 (n:=n) j hm hn2 hj DH DH ((h2 (nz+1) (.inr DH)).trans qF) hfl ((h2 (nx+3) (.inl DH)).trans q3) (WJ fs hP j) h1).mono ?_;rintro _ T3 ⟨r1,r2⟩;exact⟨r1,λo o1=>(r2 o o1).trans (h2 o o1)⟩
   rintro _ T3 ⟨hR3,hT3'⟩;have hd3:zW (nz+2) T3:=λo ho=>by rw[hT3' o (.inr DH)];exact qd o ho
   refine⟨T3,[],(qB hd3).symm,?_⟩;clear hGc hGh;clear Gc Gh;refine jZ hsuf (D:=[]) DM λGc Gh hGc hGh X hX0 hX=>?_
   simp -implicitDefEqProofs [hX0,hX];clear hX0 hX X;refine hK _ _ _ ?_;clear hK hGc hGh;clear K Gc Gh;rw[qB hd3];refine Wi (T':=λo=>if o<nz then T3 o else .dead) (λo=>by by_cases ho:o<nz<;>simp[ho]) ?_;generalize hT4:(λo=>if o<nz then T3 o else Ob.dead)=T4;have q4:∀o,o<nz->T4 o=T3 o:=λo ho=>by rw[<-hT4];simp[ho]
   have qd4:zW nz T4:=λo ho=>by rw[<-hT4];simp;omega
   clear hT4;rw[<-qB qd4];refine zb ?_;refine zq (k+1,T4,XF fs pr n) [] ⟨by dsimp only;omega,WJ fs hP n,by rw[hst,show 8-(k+1)=7-k from by omega],⟨ws,hR3.other λo ho=>q4 o (by rw[(WJ fs hP n).1]at ho;omega)⟩,?_,?_,⟨L v,.sl nz vD 1 0 pl.length,.sl (nz+1) vF 1 0 fs.length,?_⟩,λo ho=>?_,qd4⟩ DL (by simp[zu k (by omega)]) rfl DI
   ·dsimp only;rw[q4 _ DH,hT3' _ (.inl DH),qo _ DH DH];exact hT0
   ·dsimp only;rw[q4 _ DH,hT3' _ (.inl DH),qo _ DH DH];exact hT1
   ·dsimp only;rw[q4 _ DH,hT3' _ (.inl DH)];exact q3
   ·dsimp only;rw[q4 _ DH,hT3' _ (.inl DH),qo _ DH DH];exact hTS o ho
 ·simp at hc;obtain rfl:k=8:=DH
  rw[hst];refine zx (za (ze [] (zo x1 g1) ?_))
  show PW _ _ _ _ _ _ _ (ext _ _ _)
  refine V6 (o:=nx+1) 0 (by rw[zB (by omega)];first | exact q11 _ _ _ | exact hT1) rfl ?_;rw[yZ _ DH]
  try rw[Store.set_set]
  refine zg ⟨_,S,(by simp[zB (show nx+1<nz from by omega),q11];rfl),⟨by simp[zp,ZC],rfl⟩,?_⟩;exact ZaI hd DH λo ho=>by rw[q10 _ _ _ _ DH];exact hTS o ho
open Go Go.Proofs Hp
def QL:List Int->Int
 | []=>-1
 | d :: ds=>(d :: ds).getLast DI
theorem Zdb(ds:List Int)(d:Int):QL (ds++[d])=d:=by
 cases ds with
 | nil=>rfl
 | cons a ds=>show (a :: (ds++[d])).getLast _=d;grind
def Zh7(c:Cust)(cap:Int)(last d:Int):Prop:=0<=(qU c last d).1/\vK c (qU c last d).1 cap≠0
inductive FilS (c:Cust) (cap:Int) (n:Nat):List Int->Prop where
 | nil:FilS c cap n []
 | snoc {ds:List Int} {d:Int} (h:FilS c cap n ds) (h1:QL ds<d) (h2:d<n) (h3:Zh7 c cap (QL ds) d):FilS c cap n (ds++[d])
theorem FilS.lo{c:Cust}{cap:Int}{n:Nat}{ds:List Int}(h:FilS c cap n ds):-1<=QL ds/\(∀d∈ds,0<=d/\d<n/\d<=QL ds):=by
 induction h with
 | nil=>exact⟨by decide,by simp⟩
 | snoc h h1 h2 h3 ih =>
  grind[Zdb]
theorem FilS.inc{c:Cust}{cap:Int}{n:Nat}{ds:List Int}(h:FilS c cap n ds):ds.Pairwise (· < ·):=by
 induction h with
 | nil=>simp
 | snoc h h1 h2 h3 ih =>
  rw[List.pairwise_append];refine⟨ih,by simp,λa ha b hb=>?_⟩;rw[A3.1 hb];have:=h.lo.2 a ha;omega
theorem ZrK(c:Cust)(ds:List Int):(jL c ds).2=QL ds:=by
 rcases List.eq_nil_or_concat ds with rfl | ⟨l,d,rfl⟩
 ·rfl
 ·rw[List.concat_eq_append,ZaF,Zdb];rfl
theorem ZrL(c:Cust):∀ds:List Int,(jL c ds).1.map (·.d)=ds:=by
 have:∀(ds:List Int) (st:List Visit × Int),(ds.foldl (YU c) st).1.map (·.d)=st.1.map (·.d)++ds:=by
  intro ds
  induction ds with
  | nil=>intro st;simp
  | cons d ds ih=>intro st;rw[AY,ih];simp[YU]
 simp_all[jL]
theorem ZrM{c:Cust}(hc:CustFits c){cap last d:Int}(h:Zh7 c cap last d):W (c.size-(qU c last d).1)=c.size-(qU c last d).1/\1<=c.size-(qU c last d).1/\c.size-(qU c last d).1<=2147483648/\(c.rule=1->c.size-(qU c last d).1<=cap):=by
 obtain⟨h1,h2⟩:=h;have hs:=hc.size
 grind[vK,wr]
theorem ZrN{c:Cust}(hc:CustFits c){cap:Int}{n:Nat}(hn:n<=60){ds:List Int}(h:FilS c cap n ds):GoodV n (jL c ds).1:=by
 have hlen:ds.length<=64:=by
  have h1:=ZhU (m:=n) ds (h.inc.imp λh=>Dy h) (λd hd=>by have:=h.lo.2 d hd;omega);omega
 refine⟨by simp_all[Zh1],?_,by rw[ZrL];exact h.inc.imp λh=>Dy h⟩
 induction h with
 | nil=>intro s hs;cases hs
 | @snoc ds d h h1 h2 h3 ih =>
  intro s hs;rw[ZaF]at hs;simp only[YU]at hs;rcases AB.1 hs with hs | hs
  ·grind
  ·rw[A3.1 hs];rw[ZrK];obtain⟨q1,q2,q3,-⟩:=ZrM hc h3;have:=h.lo.1
   grind
def QM(tab:List Stp):Nat->Int->List Int
 | 0,_=>[]
 | f+1,d=>if d<0 then [] else d :: QM tab f (tab.getD d.toNat zs).l
def ZaJ(c:Cust)(n:Nat)(cap:Int)(tab:List Stp):Prop:=∀(d:Nat) (e:Stp),tab[d]?=some e->e≠zs->-1<=e.l/\e.l<d/\(0<=e.l->tab.getD e.l.toNat zs≠zs)/\0<=(qU c e.l d).1/\(d<n->vK c (qU c e.l d).1 cap≠0)
theorem Zh8(c:Cust)(n:Nat)(cap:Int)(price:List Int):∀k,ZaJ c n cap (jA c n cap price k)
 | 0=>by intro d e h;cases h
 | k+1=>by
  have ih:=Zh8 c n cap price k;have hl:=WO c n cap price k;have he:=ZaG c n cap price (jA c n cap price k) k (k+1);have hok:=Zda c n cap price (k+1);intro d e h hne;have hok:=hok d e h;simp only[jA]at h hok ⊢;rcases hok with q | ⟨-,q2,q3,q4⟩
  ·simp_all
  refine⟨q2,q3,q4,?_⟩
  by_cases hd:d<k
  ·rw[Ap DH]at h;exact(ih d e h hne).2.2.2
  ·rw[Aj DH,hl]at h;obtain rfl:d=k:=DO
   rw[Bp]at h;simp only[Bb,Option.some.injEq]at h;subst h;rcases he with q | ⟨-,-,-,p4⟩
   ·simp_all
   ·have:=p4.2;omega
theorem Zdc{c:Cust}{n:Nat}{cap:Int}{tab:List Stp}(h:ZaJ c n cap tab):∀(f:Nat) (d:Int),-1<=d->d<f->d<n->(0<=d->tab.getD d.toNat zs≠zs)->FilS c cap n (QM tab f d).reverse/\QL (QM tab f d).reverse=d
 | 0,d,h1,h2,_,_=>by
  obtain rfl:d=-1:=DH
  exact⟨.nil,rfl⟩
 | f+1,d,h1,h2,h3,h4=>by
  unfold QM
  by_cases hd:d<0
  ·rw[if_pos hd];obtain rfl:d=-1:=DH
   exact⟨.nil,rfl⟩
  ·rw[if_neg hd,Dj];have h4:=h4 DH;obtain⟨i,rfl⟩:=Av (show 0<=d by omega);rw[AN]at h4 ⊢;have he:∃e,tab[i]?=some e/\tab.getD i zs=e:=by
    cases hq:tab[i]? with
    | none=>simp_all
    | some e=>simp_all
   obtain⟨e,he1,he2⟩:=he;rw[he2]at h4 ⊢;obtain⟨g1,g2,g3,g4,g5⟩:=h i e he1 h4;obtain⟨p1,p2⟩:=Zdc h f e.l g1 DH DH g3;exact⟨.snoc p1 DH h3 (by rw[p2];exact⟨g4,g5 (by omega)⟩),Zdb _ _⟩
theorem ZrO(s:Nat)(d i:Nat)(hd:d<64):yC (qK s d) i=1<->yC s i=1\/i=d:=by
 have h:((qK s d).testBit i)=(s.testBit i || decide (d=i)):=by
  unfold qK;rw[if_pos DH,AN,Dd,Ct]
 grind[yC]
theorem Zh9{c:Cust}{n:Nat}{cap:Int}{tab:List Stp}(h:ZaJ c n cap tab)(hn:n<=60):∀(f s:Nat) (d:Int),-1<=d->d<n->(0<=d->tab.getD d.toNat zs≠zs)->∀i:Nat,yC (uh tab f s d) i=1<->yC s i=1\/(i:Int)∈QM tab f d
 | 0,s,d,_,_,_=>λi=>by simp[uh,QM]
 | f+1,s,d,h1,h3,h4=>λi=>by
  unfold uh QM
  by_cases hd:d<0
  ·simp_all
  ·rw[if_neg hd,if_neg hd];have h4:=h4 DH;obtain⟨k,rfl⟩:=Av (show 0<=d by omega);rw[AN]at h4 ⊢;have he:∃e,tab[k]?=some e/\tab.getD k zs=e:=by
    cases hq:tab[k]? with
    | none=>simp_all
    | some e=>simp_all
   obtain⟨e,he1,he2⟩:=he;rw[he2]at h4 ⊢;obtain⟨g1,g2,g3,-⟩:=h k e he1 h4;rw[Zh9 h hn f _ e.l g1 DH g3 i,ZrO s k i DH,As,Int.natCast_inj,or_assoc]
theorem ZrP:∀{a b:List Int},a.Pairwise (· < ·)->b.Pairwise (· < ·)->(∀z,z∈a<->z∈b)->a=b:=by
 intro a b ha hb h;have hp:a.Perm b:=(C6 (ha.imp λh=>Dy h) (hb.imp λh=>Dy h)).2 h;exact Zgc hp (ha.imp λh=>Int.le_of_lt h) (hb.imp λh=>Int.le_of_lt h)
theorem ZrQ(s a k:Nat):(yA s a k).Pairwise (· < ·):=by
 unfold yA;rw[CH];have h:(List.range k).Pairwise (· < ·):=List.pairwise_lt_range;exact(h.sublist List.filter_sublist).imp λh=>by omega
theorem ZrR{c:Cust}{n:Nat}{cap:Int}{tab:List Stp}(h:ZaJ c n cap tab)(hn:n<=60){d:Int}(h1:-1<=d)(h3:d<n)(h4:0<=d->tab.getD d.toNat zs≠zs):yA (uh tab 65 0 d) 0 64=(QM tab 65 d).reverse:=by
 obtain⟨hf,-⟩:=Zdc h 65 d h1 DH h3 h4;refine ZrP (ZrQ _ _ _) hf.inc λz=>?_
 have hb:=Zh9 h hn 65 0 d h1 h3 h4;have h0:∀i,¬yC 0 i=1:=by intro i;simp[yC]
 rw[List.mem_reverse];constructor
 ·grind[WK]
 ·intro hz;have hlo:=hf.lo.2 z (List.mem_reverse.2 hz)
  grind[Int.eq_ofNat_of_zero_le,yA]
theorem ZrS{c:Cust}{n:Nat}(hn:n<=60){cap:Int}{price:List Int}(h:(YV c n cap price).2=true):∃ds,FilS c cap n ds/\0<=(qU c (QL ds) n).1/\(YV c n cap price).1=(jL c ds).1:=by
 have hfit:=Zh8 c n cap price (n+1);have hl:=WO c n cap price (n+1);unfold YV at h ⊢;generalize jA c n cap price (n+1)=tab at *;split at h
 ·cases h
 rename_i hne;rw[if_neg hne];have he:∃e,tab[n]?=some e/\tab.getD n zs=e:=⟨_,Ae DH,by rw[Aa,Ae DH];rfl⟩;obtain⟨e,he1,he2⟩:=he;rw[he2]at hne ⊢;obtain⟨g1,g2,g3,g4,-⟩:=hfit n e he1 hne
 grind[Zdc,ZrR]
def qx(n:Nat)(cap:Int)(c:Cust)(price:List Int):List Visit × Bool :=
 if c.kind=1 then ZA c cap price else if c.rule=1 then YV c n cap price else Jz c n cap price
theorem Zdd{S:Store}{pl:PV}{price:List Int}(c:Cust)(n:Nat)(cap:Int)(hR:RowOf S pl price)(hp:∀z∈price,zP z)(hpl:price.length<=1000)(hm:CustMade c n)(hpc:c.pats.length<=1000)(hn:n<=60):
  Spec prog 207 [.agg (yh c),I n,I cap,pl] S (λq S'=>q=.tup [L (qx n cap c price).1,B (qx n cap c price).2]/\S'=S):=by
 unfold qx
 by_cases hk:c.kind=1
 ·rw[if_pos hk];exact Zrs c n cap hk hR hp hpl hpc hm.pats
 rw[if_neg hk]
 by_cases hr:c.rule=1
 ·rw[if_pos hr];have hs:=λS (hR:RowOf S pl price)=>ZrH c n cap hR hm.fits hn
  generalize YV c n cap price=r at *;obtain⟨v,ok⟩:=r;simp only at hs ⊢;refine yi func207 ntmps207 results207 λnx hd=>?_
  refine DQ ?_;intro v0;refine za (zj (za (ze [] hk ?_)));refine zm DI ?_;refine za (ze [] hr ?_);refine zn DI ?_;refine DQ ?_;refine λhsuf=>((hs _ (hR.ext hd _)).mono ?_).v
  rintro _ _ ⟨rfl,rfl⟩;refine⟨_,_,rfl,zG hsuf ?_⟩;exact zg ⟨_,S,DJ,⟨by simp,rfl⟩,zR hd⟩
 ·rw[if_neg hr];have hs:=λS (hR:RowOf S pl price)=>Zry c n cap hR hm.fits DH
  generalize Jz c n cap price=r at *;obtain⟨v,ok⟩:=r;simp only at hs ⊢;refine yi func207 ntmps207 results207 λnx hd=>?_
  refine DQ ?_;intro v0;refine za (zj (za (ze [] hk ?_)));refine zm DI ?_;refine za (ze [] hr ?_);refine zm DI ?_;refine zh (DQ ?_);refine λhsuf=>((hs _ (hR.ext hd _)).mono ?_).v
  rintro _ _ ⟨rfl,rfl⟩;refine⟨_,_,rfl,zG hsuf ?_⟩;exact zg ⟨_,S,DJ,⟨by simp,rfl⟩,zR hd⟩
theorem ZrT{c:Cust}{n:Nat}(hm:CustMade c n)(hk:c.kind=1){p:Nat}(hp:p∈c.pats):GoodV n (QH c p):=by
 obtain⟨h1,h2⟩:=hm.per hk;refine⟨by simp only[QH,List.length_map];exact Xz _ _ _,λs hs=>?_,by simp only[QH,BU];exact(by simpa[Function.comp_def] using ZqW p 0 64)⟩
 grind[QH,yA]
theorem ZrU{c:Cust}{cap:Int}{price:List Int}(h:(ZA c cap price).2=true):∃p∈c.pats,(p=0\/c.demand<=cap)/\(ZA c cap price).1=QH c p:=by
 unfold ZA at h ⊢;split at h
 ·cases h
 rename_i hn;rw[if_neg hn];have hb:=Zc4 price (uI c cap) (uI c cap).length
 grind[uI,List.getElem_mem]
theorem ZaK{c:Cust}{n:Nat}(hm:CustMade c n)(hn:n<=60)(cap:Int)(price:List Int)(h:(qx n cap c price).2=true):GoodV n (qx n cap c price).1:=by
 unfold qx at h ⊢
 by_cases hk:c.kind=1
 ·grind[ZrU,ZrT]
 rw[if_neg hk]at h ⊢
 by_cases hr:c.rule=1
 ·rw[if_pos hr]at h ⊢;obtain⟨ds,h1,-,e⟩:=ZrS hn h;rw[e];exact ZrN hm.fits hn h1
 ·rw[if_neg hr]at h ⊢;have hD:GoodV n (yY 0 (ZB c n cap).1):=ZhG (XI hm.fits (Zc7 hm.fits cap) n).2 (Co (XH _ _ _)) DH;have hL:GoodV n (yY 0 (Yf c n cap).1):=ZhG (XI hm.fits (Zc8 hm.fits cap) n).2 (Co (XH _ _ _)) DH
  grind[Jz]
structure InstA (x:Inst) (n:Nat):Prop where
 h:InstH x
 days:x.days=n
 n60:n<=60
 made:∀c∈x.cust,CustMade c n
 pats:∀c∈x.cust,c.pats.length<=1000
theorem ZrV{x:Inst}{n:Nat}(h:InstA x n):Zc1 x n (qx n x.cap):=by
 intro c hc l hl hi S pl hR;rw[h.days];have:=h.n60;exact Zdd c n x.cap hR hi DH (h.made c hc) (h.pats c hc) h.n60
theorem Zia{x:Inst}{sol:Cust->List Int->List Visit × Bool}{pr:List (List Int)}(h:(qD x sol pr).2=0):(qD x sol pr).1.length=x.cust.length/\∀i c,x.cust[i]?=some c->(qD x sol pr).1[i]?=some (sol c (pr.getD i [])).1/\(sol c (pr.getD i [])).2=true:=by
 unfold qD at h ⊢;split at h
 ·rename_i hall;rw[if_pos hall];refine⟨by simp[Za],λi c hc=>?_⟩;have hi:=(Ac.1 hc).1;have hg:x.cust.getD i default=c:=by rw[Aa,hc];rfl
  refine⟨by simp only[Za,BU,Ai,Bk hi,A9,Function.comp_apply,hg],?_⟩;have:=Ay.1 hall _ (ZhL x sol pr hi);rw[hg]at this;exact this
 omega
theorem Zib{x:Inst}{n:Nat}(h:InstA x n):Zh6 x n (qx n x.cap):=by
 intro pr hP h0;obtain⟨h1,h2⟩:=Zia h0;have key:∀l∈(qD x (qx n x.cap) pr).1,GoodV n l:=by
  intro l hl;obtain⟨i,hi,rfl⟩:=List.getElem_of_mem hl;have hic:i<x.cust.length:=DH
  obtain⟨e1,e2⟩:=h2 i _ (Ae hic);rw[Ae hi]at e1;rw[Option.some.inj e1];exact ZaK (h.made _ (Bd hic)) h.n60 _ _ e2
 exact⟨h1,λl hl w hw=>(key l hl).ok w hw,λl hl=>(key l hl).nd,λl hl=>by have:=(key l hl).len;omega⟩
def jM(x:Inst)(b:Int):zA × Int:=WP x (qx x.days.toNat x.cap) b x.days.toNat
theorem ZrW{x:Inst}{n:Nat}(h:InstA x n){b:Int}(hb:b<=9223372036854775807):Pure prog 128 [.agg (zy x),I b] (.tup [.agg [L (jM x b).1],I (jM x b).2]):=by
 have hd:x.days.toNat=n:=by rw[h.days];rfl
 unfold jM;rw[hd];exact ZrJ h.h h.days (by have:=h.n60;omega) (ZrV h) (Zib h) hb
theorem ZrX(x:Inst)(c l:Int):InstA (Zrj x 6 c l) (yF x).days.toNat:=by
 have hd:=WL x;refine⟨⟨AD (Zcd x) DN,ZgU x,ZgN x,by show (0:Int)<=6;decide⟩,?_,by omega,λc hc=>?_,λc hc=>?_⟩
 ·show (yF x).days=_;omega
 ·obtain⟨c0,rfl⟩:=Zc2 x hc
  simp_all[ZhT]
 ·obtain⟨c0,rfl⟩:=Zc2 x hc
  grind[jx,Zl]
theorem ZrY(x:Inst):InstA (yF x) (yF x).days.toNat:=by
 have hd:=WL x;have h:=ZrX x (yF x).cap (yF x).len;exact⟨⟨AD (Zcd x) DN,ZgU x,ZgN x,Zpz x⟩,by omega,h.n60,h.made,h.pats⟩
open Go Go.Proofs Hp
def JB(c:Int)(p:zA):zA:=p.map (j9 c)
theorem ZrZ(p:zA)(c:Int)(hp:p.length<=1000)(hd0:∀d∈p,d.length<=1048576)(ht:∀d∈p,∀t∈d,t.length<=1048576):Pure prog 287 [.agg [L p],I c] (.agg [L (JB c p)]):=by
 unfold JB;refine zt func287 ntmps287 results287 λS nx hd=>?_
 refine DQ ?_;intro v0 v1;refine DQ ?_;intro v2;refine qQ 2 0 39 1 rfl rfl λv3=>?_
 repeat apply za
 refine zb ?_;refine zj (zD (λs:Nat × zA × Nat=>s.1<=p.length/\s.2.1=(p.take s.1).map (j9 c)) (λ(k,q,w)=>[(1,I c),(4,.ptr (nx+1) v1 0),(5,.ptr (nx+2) v2 0),(11,L p),(12,I p.length),(13,I k)]) (λ(k,q,w)=>[.cells v0 30 [L p],.cells v1 30 [yq],.cells v2 30 [.sl (nx+3) w 1 0 q.length],.cells w 39 (q.flatMap Enc.enc)]) (λs=>p.length-s.1) (0,[],v3) [] DI DI DI ?_);rintro⟨k,q,w⟩ ⟨hk,hq⟩;simp only at hk hq ⊢;have hql:q.length=k:=by rw[hq];simp;omega
 refine DQ ?_;refine za (zv rfl (λhc=>?_) (λhc=>?_))
 ·simp at hc;obtain⟨d,tl,a1,a2,a3,e0⟩:=zJ rfl p k hc;have hdm:=Ab a1;have hr:=ZoH d c (hd0 d hdm) (ht d hdm);generalize hrd:j9 c d=rd at hr;have hk1:1<=p.length-k:=DH
  have hqf:(q.flatMap Enc.enc:List PV).length=q.length:=jR q;have hqt:(q.flatMap Enc.enc:List PV).take q.length=q.flatMap Enc.enc:=Af DH;refine zh (za (zj (za (ze [] (zF hc e0 hk1) ?_))));intro v4;refine DQ ?_;refine zr hr ?_;intro v5;refine ze [] (zo hqf hqt) ?_;refine⟨by omega,?_⟩;refine zb ?_;exact zq (k+1,q++[rd],w+1) [_,_] ⟨hc,by rw[a3,List.map_append,hq,<-hrd];rfl⟩ DL (by simp[zu k (by omega)]) rfl (by simp;exact⟨rfl,rfl⟩)
 ·simp at hc;obtain rfl:k=p.length:=DH
  rw[Ak]at hq;refine zx (yb 3 rfl ?_);refine DQ ?_;exact zg (zi hd DJ (by simp[zp,hq]))
open Go Go.Proofs Hp
def vM(x:Inst)(c:Nat):Stop:=⟨c,if (x.cust.getD c default).kind=1 then (x.cust.getD c default).demand else 1⟩
def w8(x:Inst)(s:Stop)(d:zk):Int:=if (yK x d s).2=true then max 0 (W (W (yn x (yK x d s).1)-W (yn x d))) else 4294967296
theorem Zic(x:Inst)(c:Int):Pure prog 286 [.agg (zy x),I c] (B (decide (0<=c) && decide (c<x.cust.length))):=by
 refine zt func286 ntmps286 results286 λS nx hd=>?_
 refine DQ ?_;intro v0
 by_cases h:0<=c
 ·by_cases h2:c<x.cust.length
  ·refine za (ze [(2,7)] (zo h h2) ?_);exact zg (zi hd rfl (by simp[zp,h,h2]))
  ·refine za (ze [(2,7)] (zo h h2) ?_);exact zg (zi hd rfl (by simp[zp,h,h2]))
 ·refine za (ze [(2,7)] (zo h zN) ?_);exact zg (zi hd rfl (by simp[zp,h]))
open Go Go.Proofs Hp
theorem QN{x:Inst}(hx:x.cust.length<=900){d:zk}(h:yr x d=0):d.flatten.length<=x.cust.length/\d.length<=x.cust.length/\RgOk x d [⟨0,0⟩]:=by
 obtain⟨h1,h2,h3⟩:=(vB x d).1 h;have hg:=Zau h;have hl:=ZhU (m:=x.cust.length) _ h2 (λc hc=>by
  obtain⟨s,hs,rfl⟩:=Al.1 hc;have:=hg s hs;simp[jh]at this;omega)
 rw[List.length_map]at hl;have hn:=Zf9 h;have hd:=ZhR d hn;refine⟨hl,by omega,⟨by omega,λt ht=>?_,λt ht s hs=>?_⟩,h,by rw[Bm];omega⟩
 ·have:=ZaE d t ht;omega
 ·have:=hg s (Zrk ht hs);simp[jh]at this;unfold qb;omega
theorem Zid{x:Inst}(hx:x.cust.length<=900)(ha:qt x)(hv:0<=x.veh){d:zk}(h:yr x d=0):SOk x d.flatten/\SG x d.flatten d:=by
 obtain⟨h1,h2,h3⟩:=(vB x d).1 h;obtain⟨g1,g2,g3⟩:=QN hx h;refine⟨⟨by omega,ha,hv,by omega,λs hs=>?_,h2⟩,⟨h1,.refl _⟩⟩;obtain⟨t,ht,hst⟩:=Bs.1 hs;exact g3.ok.s t ht s hst
theorem Zr0(c:Int)(d:zk):(j9 c d).flatten=d.flatten.filter λs=>decide (s.c≠c):=by
 unfold j9;have:∀l:zk,(l.filter λt=>!t.isEmpty).flatten=l.flatten:=by
  intro l
  induction l with
  | nil=>rfl
  | cons t l ih=>cases t<;>simp[Ca,ih]
 rw[this]
 induction d with
 | nil=>rfl
 | cons t d ih=>simp only[AA,BK,B3,ih];rfl
theorem Zie{size rate:Int}(hr:0<=rate):∀(q:List Int) (there:Int) (l:List Int),jU size rate there q=some l->l.length=q.length/\∀z∈l,0<=z/\z<=size
 | [],_,l,h=>by simp[jU]at h;subst h;simp
 | q :: qs,there,l,h=>by
  unfold jU at h;split at h
  ·cases h
  ·rename_i hc;obtain⟨m,hm,rfl⟩:=Ao.1 h;obtain⟨h1,h2⟩:=Zie hr qs _ m hm;refine⟨by simp[h1],λz hz=>?_⟩;rcases As.1 hz with rfl | hz
   ·omega
   ·exact h2 z hz
theorem Zif{M:Int}:∀l:List Int,(∀z∈l,0<=z/\z<=M)->0<=l.sum/\l.sum<=M*l.length
 | [],_=>by simp
 | a :: l,h=>by
  have h1:=h a DI;have h2:=Zif l λz hz=>h z (by simp[hz])
  simp only[BM,Ad];have e:M*((l.length:Int)+1)=M*l.length+M:=by rw[Int.mul_add];omega
  push_cast;omega
structure CustSm (c:Cust):Prop where
 rate:0<=c.rate
 size:0<=c.size/\c.size<=2147483648
 hold:0<=c.hold/\c.hold<=1024
theorem Zr1{c:Cust}(h:CustSm c)(q:List Int)(hq:q.length<=64):0<=u6 c (q9 c q).1/\u6 c (q9 c q).1<=140737488355328:=by
 have key:∀l:List Int,l.length<=64->(∀z∈l,0<=z/\z<=c.size)->0<=u6 c l/\u6 c l<=140737488355328:=by
  intro l hl hz;have h1:=Zif (M:=2147483648) l λz hz'=>by have:=hz z hz';have:=h.size;omega
  have h2:(2147483648:Int)*l.length<=137438953472:=DH
  have w1:W l.sum=l.sum:=wr _ DH DH;unfold u6;rw[w1];have h3:=h.hold;have h4:0<=c.hold*l.sum:=CK h3.1 h1.1;have h5:c.hold*l.sum<=1024*137438953472:=CL h3.2 DH h1.1 DH;have w2:W (c.hold*l.sum)=c.hold*l.sum:=wr _ DH DH;rw[w2];omega
 unfold q9;split
 ·exact key [] DI DI
 ·cases hr:jU c.size c.rate c.start q with
  | none=>exact key [] DI DI
  | some l =>
   obtain⟨h1,h2⟩:=Zie h.rate q _ l hr;exact key l DH h2
theorem Zde{x:Inst}(h:∀c∈x.cust,CustSm c)(p:zA):∀k:Nat,0<=jK x p k/\jK x p k<=140737488355328*(k:Int)
 | 0=>by simp[jK]
 | k+1=>by
  have h1:=Zde h p k;rw[ZhM];have h2:0<=YR x p k/\YR x p k<=140737488355328:=by
   unfold YR;split
   ·omega
   ·rename_i c hc;split
    ·exact Zr1 (h c (Ab hc)) _ (by rw[Zap];omega)
    ·omega
  push_cast;omega
theorem Zdf{x:Inst}(ha:qt x):∀p:zA,(∀d∈p,d.flatten.length<=1000/\d.length<=1000)->0<=(p.map (yn x)).sum/\(p.map (yn x)).sum<=4294967296000*(p.length:Int)
 | [],_=>by simp
 | d :: p,h=>by
  have h1:=h d DI;have h2:=Zdf ha p λe he=>h e (by simp[he])
  have h3:=Zcl ha d;simp only[AA,BM,Ad];push_cast;omega
theorem Zr2{x:Inst}(ha:qt x)(hc:∀c∈x.cust,CustSm c)(hx:x.cust.length<=900){p:zA}(hl:p.length<=1000)(h:∀d∈p,yr x d=0):jW x p=jK x p x.cust.length+(p.map (yn x)).sum:=by
 have h1:=Zde hc p x.cust.length;have h2:=Zdf ha p λd hd=>by have:=QN hx (h d hd);omega
 exact wr _ DH DH
open Go Go.Proofs Hp
theorem Zig{x:Inst}{sol:Cust->List Int->List Visit × Bool}{b:Int}{n:Nat}:∀(k:Nat) (pr:List (List Int)),u9 x.cust.length n pr->(ZC x sol b n k pr).2=0->∃pr',u9 x.cust.length n pr'/\(qD x sol pr').2=0/\jz (jp x (qD x sol pr').1 b n)=0/\(ZC x sol b n k pr).1=xV x (qD x sol pr').1 b n
 | 0,_,_,h=>by simp[ZC]at h
 | k+1,pr,hp,h=>by
  unfold ZC at h ⊢
  by_cases h1:(qD x sol pr).2≠0
  ·rw[if_pos h1]at h;cases h
  rw[if_neg h1]at h ⊢
  by_cases h2:jz (jp x (qD x sol pr).1 b n)=0
  ·rw[if_pos h2]at h ⊢;exact⟨pr,hp,by simpa using h1,h2,rfl⟩
  rw[if_neg h2]at h ⊢
  by_cases h3:(jp x (qD x sol pr).1 b n).any Ye=true
  ·rw[if_pos h3]at h;cases h
  rw[if_neg h3]at h ⊢;exact Zig k _ (WJ _ hp n) h
open Go Go.Proofs Hp
theorem Zr3{x:Inst}{n:Nat}(h:InstA x n){b:Int}(h0:(jM x b).2=0):∃v pr,VsOk x.cust.length n v/\u9 x.cust.length n pr/\(jM x b).1=xV x v b n/\(∀d:Nat,d<n->(uF x b (xh v d x.cust.length)).2=0)/\∀i c,x.cust[i]?=some c->v[i]?=some (qx n x.cap c (pr.getD i [])).1/\(qx n x.cap c (pr.getD i [])).2=true:=by
 have hd:x.days.toNat=n:=by rw[h.days];rfl
 unfold jM WP at h0 ⊢;rw[hd]at h0 ⊢;obtain⟨pr,hp,e1,e2,e3⟩:=Zig 8 _ (ZhK x n) h0;have hv:=Zib h pr hp e1;obtain⟨c1,c2⟩:=Zia e1;refine⟨_,pr,hv,hp,e3,λd hdn=>?_,c2⟩;refine(Zql _).1 e2 _ (Al.2 ⟨_,Al.2 ⟨d,AP.2 hdn,rfl⟩,rfl⟩)
open Go Go.Proofs Hp
theorem Zr4(c:Cust)(d:Int)(h1:1<=d)(h7:d<=7):xJ (jx c d) d=true:=by
 have hm:=ZhT c d h1 h7
 by_cases hk:c.kind.tmod 2=0
 ·have e:jx c d=⟨2,0,[],yy c.rate 0 9,yy c.size 1 30,yy c.start 0 (yy c.size 1 30),yy c.rule 1 2,yy c.hold 0 4⟩:=by unfold jx;rw[if_pos hk]
  have a:=xq c.rate 0 9 DH;have b:=xq c.size 1 30 DH;have s:=xq c.start 0 (yy c.size 1 30) DH;have r:=xq c.rule 1 2 DH;have h:=xq c.hold 0 4 DH;rw[e];simp[xJ,yu,QD,YL];omega
 ·have e:jx c d=⟨1,yy c.demand 1 15,Zl c.pats d,0,0,0,0,0⟩:=by unfold jx;rw[if_neg hk]
  have a:=xq c.demand 1 15 DH;rw[e]at hm ⊢;obtain⟨hp,-⟩:=hm.per rfl;have hl:1<=(Zl c.pats d).length/\(Zl c.pats d).length<=64:=by
   unfold Zl;split
   ·simp
   ·rename_i hn;have:0<c.pats.length:=BI.2 hn;simp only[List.length_map,Ax];omega
  simp only[xJ,if_true,Aw,yu,decide_eq_true_eq,u7,Zv,Ay];refine⟨⟨by omega,λp hpm=>?_,by omega⟩,by simp⟩;unfold Z8;have:yA p d.toNat 64=[]:=by
   rw[Zhc,CD];intro z hz;have:=hp p hpm z hz;simp;omega
  rw[this];decide
theorem Zih(n:Nat)(row:Nat->List Int)(h:∀a,a<n->(row a).length=n/\(row a).getD a 0=0/\∀z∈row a,0<=z/\z<=2147483648):∀k a:Nat,a+k<=n->Zw n a ((List.range' a k).map row)=true
 | 0,_,_=>rfl
 | k+1,a,ha=>by
  obtain⟨h1,h2,h3⟩:=h a DH;rw[List.range'_succ,AA];simp only[Zw,Zih n row h k (a+1) DH,DE,h1,h2,decide_true,Dl,Ay,yu,decide_eq_true_eq];exact h3
theorem Zr5(x:Inst):jo (yF x)=true:=by
 have h1:=WL x;have h2:=Zrf x;have h3:=Zrg x;have h4:=Zrh x;have h5:=Zri x;unfold jo;simp only[Aw,Ay,decide_eq_true_eq,yu];refine⟨⟨⟨⟨⟨⟨by omega,by omega⟩,by omega⟩,by omega⟩,by omega⟩,λc hc=>?_⟩,?_⟩
 ·obtain⟨c0,rfl⟩:=Zc2 x hc;exact Zr4 c0 _ h1.1 h1.2
 ·have e:(yF x).cust.length=(x.cust.take 6).length:=by simp[yF]
  rw[e];unfold Zx;have e2:(yF x).dist=(List.range' 0 ((x.cust.take 6).length+1)).map λa=>vU x (x.cust.take 6).length a:=by rw[<-List.range_eq_range'];rfl
  rw[e2,Zih _ _ (λa ha=>?_) _ _ DH]
  ·simp
  ·refine⟨by simp[vU],?_,λz hz=>?_⟩
   ·unfold vU;rw[Aa,Ai,Bk ha];simp
   ·unfold vU at hz;obtain⟨b,-,rfl⟩:=Al.1 hz;split
    ·have:=xq (arc x a b) 0 60 DH;omega
    ·omega
open Go Go.Proofs Hp
theorem Zr6(s:Nat)(d:Int)(i:Nat)(h:0<=d/\d<64):(qK s d).testBit i=(s.testBit i || decide (d=(i:Int))):=by
 obtain⟨k,rfl⟩:=Av h.1;unfold qK;rw[if_pos DH,AN,Dd,Ct];congr 1;rw[decide_eq_decide];omega
def Zr7(c:Cust):Prop:=(c.kind=1/\c.rule=0)\/(c.kind=2/\(c.rule=1\/c.rule=2))
open Go Go.Proofs
abbrev Wd:=List UInt8
abbrev Ln:=List Wd
abbrev xX:Wd:=[116,114,97,110,116,101,114]
abbrev xY:Wd:=[100,97,121,115]
abbrev xZ:Wd:=[118,101,104,105,99,108,101,115]
abbrev x7:Wd:=[99,97,112,97,99,105,116,121]
abbrev x8:Wd:=[108,101,110,103,116,104]
abbrev x9:Wd:=[99,117,115,116,111,109,101,114,115]
abbrev vN:Wd:=[118,105,115,105,116]
abbrev QO:Wd:=[116,97,110,107]
abbrev ui:Wd:=[102,105,108,108]
abbrev uJ:Wd:=[97,110,121]
abbrev jq:Wd:=[100,105,115,116,97,110,99,101,115]
def yO(w:Wd):Int:=((jV w).getD 0:Nat)
def jB(l:Ln):Option (List Int):=if l.all (λw=>(jV w).isSome)=true then some (l.map yO) else none
theorem Zr8{l:Ln}{k:Nat}{w:Wd}(h:l[k]?=some w)(hw:jV w=none):jB l=none:=by grind[jB]
theorem WQ{l:Ln}(h:∀w∈l,(jV w).isSome=true):jB l=some (l.map yO):=by simp_all[jB]
theorem Zii{l:Ln}{z:List Int}(h:jB l=some z):z.length=l.length:=by grind[jB]
def xB(l:Ln)(n:Nat):Ln:=(List.range n).map λi=>l.getD (2*i+1) []
def JC(l names:Ln):Bool:=decide (l.length=2*names.length) && (List.range names.length).all λi=>decide (l.getD (2*i) []=names.getD i [])
def qa(l names:Ln):Option (List Int):=if JC l names=true then jB (xB l names.length) else none
def xL(w:Wd):Nat->Nat
 | 0=>0
 | k+1=>if w.getD k 0=49 then qK (xL w k) k else xL w k
def wG(w:Wd):Bool:=decide (w≠[]) && w.all λc=>decide (c.toNat=48\/c.toNat=49)
def jX(w:Wd):Nat:=if 64<w.length then 0 else xL w w.length
def Yh(d:Wd)(ps:Ln):Cust:=⟨1,yO d,ps.map jX,0,0,0,0,0⟩
def QP(n:Int)(l:Ln):Option (Cust × Bool):=match l with
 | []=>none
 | d :: ps=>if (jV d).isSome=true/\ps.all wG=true then some (Yh d ps,ps.all λw=>decide ((w.length:Int)=n)) else none
theorem Zdg(n:Int)(d:Wd)(ps:Ln):QP n (d :: ps)=if (jV d).isSome=true/\ps.all wG=true then some (Yh d ps,ps.all λw=>decide ((w.length:Int)=n)) else none:=rfl
def XJ(w:Wd):Int:=if w=ui then 1 else 2
def YW(l:Ln):Option Cust:=match l with
 | [a,b,c,r,h]=>if (jB [a,b,c,h]).isSome=true/\(r=ui\/r=uJ) then some ⟨2,0,[],yO a,yO b,yO c,XJ r,yO h⟩ else none
 | _=>none
theorem Zdh(a b c r h:Wd):YW [a,b,c,r,h]=if (jB [a,b,c,h]).isSome=true/\(r=ui\/r=uJ) then some ⟨2,0,[],yO a,yO b,yO c,XJ r,yO h⟩ else none:=rfl
def wd(n:Int)(l:Ln):Option (Cust × Bool):=match l with
 | []=>none
 | w :: l=>if w=vN then QP n l else if w=QO then (YW l).map (·,true) else none
instance:Inhabited (Cust × Bool):=⟨(default,false)⟩
def w9(n:Int)(l:Ln):Cust × Bool:=(wd n l).getD default
def vf(m:Nat)(l:Ln):Bool:=(jB l).isSome && decide (l.length=m)
def zS(ls:List Ln)(k:Nat):Ln:=ls.getD k []
def yQ(ls:List Ln)(k n:Nat):List Ln:=(List.range n).map λi=>zS ls (k+i)
def YX(ls:List Ln):Option (Inst × Bool) :=
 if zS ls 0=[xX,[49]] then
  match qa (zS ls 1) [xY,xZ,x7,x8] with
  | some [d,v,c,l] =>
   match qa (zS ls 2) [x9] with
   | some [m] =>
    if (yQ ls 3 m.toNat).all (λl=>(wd d l).isSome)=true/\zS ls (3+m.toNat)=[jq]/\(yQ ls (4+m.toNat) (m.toNat+1)).all (vf (m.toNat+1))=true/\ls.length=5+2*m.toNat then
     some (⟨d,v,c,l,(yQ ls 3 m.toNat).map λl=>(w9 d l).1,(yQ ls (4+m.toNat) (m.toNat+1)).map λl=>l.map yO⟩,(yQ ls 3 m.toNat).all λl=>(w9 d l).2)
    else none
   | _=>none
  | _=>none
 else none
def zI:Inst:=⟨0,0,0,0,[],[]⟩
def qp(t:List UInt8):Inst × Int:=match xW t with
 | none=>(zI,2)
 | some ls=>match YX ls with
  | none=>(zI,2)
  | some (x,ok)=>if ok=true/\jo x=true then (x,0) else (zI,3)
def zE(z:Int):Wd:=zH z.toNat
theorem ZD{z:Int}(h0:0<=z)(h1:z<100000000000000000):(jV (zE z)).isSome=true/\yO (zE z)=z:=by grind[ZhD,yO,zE]
def qy(n:Nat)(p:Nat):Wd:=(List.range n).map λi=>UInt8.ofNat (48+yC p i)
def qq(n:Nat)(c:Cust):Ln:=if c.kind=1 then vN :: zE c.demand :: c.pats.map (qy n) else [QO,zE c.rate,zE c.size,zE c.start,if c.rule=2 then uJ else ui,zE c.hold]
def jC(x:Inst):List Ln :=
 [xX,[49]] :: [xY,zE x.days,xZ,zE x.veh,x7,zE x.cap,x8,zE x.len] :: [x9,zH x.cust.length] :: (x.cust.map (qq x.days.toNat)++[jq] :: x.dist.map (λr:List Int=>r.map zE))
def ZE(z:Int):Prop:=0<=z/\z<100000000000000000
structure CustT (n:Nat) (c:Cust):Prop where
 kind:(c.kind=1/\ZE c.demand/\(∀p∈c.pats,p<2 ^ n)/\c.rate=0/\c.size=0/\c.start=0/\c.rule=0/\c.hold=0)\/(c.kind=2/\c.demand=0/\c.pats=[]/\ZE c.rate/\ZE c.size/\ZE c.start/\(c.rule=1\/c.rule=2)/\ZE c.hold)
structure InstT (x:Inst) (n:Nat):Prop where
 days:x.days=n
 n1:1<=n
 n64:n<=64
 nums:ZE x.veh/\ZE x.cap/\ZE x.len
 ncust:x.cust.length<100000000000000000
 cust:∀c∈x.cust,CustT n c
 rows:x.dist.length=x.cust.length+1
 row:∀r∈x.dist,r.length=x.cust.length+1/\∀z∈r,ZE z
theorem ZaL(w:Wd)(i:Nat):∀k,(xL w k).testBit i=(decide (i<k/\i<64) && decide (w.getD i 0=49))
 | 0=>by simp[xL]
 | k+1=>by
  unfold xL;split
  ·rename_i h
   by_cases hk:k<64
   ·rw[Zr6 _ _ _ ⟨by omega,by omega⟩,ZaL w i k]
    grind
   ·have:qK (xL w k) k=xL w k:=by unfold qK;rw[if_neg DH]
    have e2:decide (i<k+1/\i<64)=decide (i<k/\i<64):=by rw[decide_eq_decide];omega
    rw[this,ZaL w i k,e2]
  ·rename_i h;rw[ZaL w i k]
   grind
theorem ZaM(w:Wd):∀k,xL w k<2 ^ 64
 | 0=>by show 0<2 ^ 64;decide
 | k+1=>by
  unfold xL;split
  ·exact Zan _ _ (ZaM w k)
  ·exact ZaM w k
theorem WR(n p:Nat):(qy n p).length=n:=by simp[qy]
theorem Zr9(n p i:Nat)(h:i<n):(qy n p).getD i 0=UInt8.ofNat (48+yC p i):=by simp_all[qy]
theorem Zij(n p:Nat)(h:1<=n):wG (qy n p)=true:=by grind[wG,qy,WR,VS,Ya]
theorem Zsa(n p:Nat)(h1:1<=n)(hn:n<=64)(hp:p<2 ^ n):jX (qy n p)=p:=by
 unfold jX;rw[WR,if_neg DH];apply Nat.eq_of_testBit_eq;intro i;rw[ZaL]
 by_cases hi:i<n
 ·rw[Zr9 n p i hi];have hb:=VS p i;have e:(UInt8.ofNat (48+yC p i)=49)<->yC p i=1:=by
   constructor
   ·intro e;have:=congrArg UInt8.toNat e;rw[Ya DH]at this;have h49:(49:UInt8).toNat=49:=rfl;omega
   ·intro e;rw[e];rfl
  have hd:decide (i<n/\i<64)=true:=DL
  rw[hd,Dl,CB];unfold yC at e ⊢;simp only[e]
 grind[Nat.testBit_lt_two_pow,Nat.lt_of_lt_of_le,Nat.pow_le_pow_right]
theorem Zsb{n:Nat}{c:Cust}(h1:1<=n)(hn:n<=64)(h:CustT n c):wd n (qq n c)=some (c,true):=by
 obtain⟨k,dm,ps,ra,si,st,ru,ho⟩:=c;rcases h.kind with ⟨k1,k2,k3,k4,k5,k6,k7,k8⟩ | ⟨k1,k2,k3,k4,k5,k6,k7,k8⟩
 ·simp only at k1 k2 k3 k4 k5 k6 k7 k8;subst k1 k4 k5 k6 k7 k8;obtain⟨d1,d2⟩:=ZD k2.1 k2.2;have e1:(ps.map (qy n)).all wG=true:=by
   rw[Ay];intro w hw;obtain⟨p,hp,rfl⟩:=Al.1 hw;exact Zij n p h1
  have e2:((ps.map (qy n)).all λw=>decide ((w.length:Int)=n))=true:=by
   rw[Ay];intro w hw;obtain⟨p,hp,rfl⟩:=Al.1 hw;simp[WR]
  have e3:(ps.map (qy n)).map jX=ps:=by
   rw[BU];refine(AO λp hp=>?_).trans (C4 _);exact Zsa n p h1 hn (k3 p hp)
  unfold qq;rw[if_pos rfl]
  show QP n (zE dm :: ps.map (qy n))=_
  simp_all[Zdg,Yh]
 ·simp only at k1 k2 k3 k4 k5 k6 k7 k8;subst k1 k2 k3;obtain⟨a1,a2⟩:=ZD k4.1 k4.2;obtain⟨b1,b2⟩:=ZD k5.1 k5.2;obtain⟨c1,c2⟩:=ZD k6.1 k6.2;obtain⟨d1,d2⟩:=ZD k8.1 k8.2;have e1:(jB [zE ra,zE si,zE st,zE ho]).isSome=true:=by
   rw[WQ DP];rfl
  have hcw:wd n (qq n ⟨2,0,[],ra,si,st,ru,ho⟩)=(YW [zE ra,zE si,zE st,if ru=2 then uJ else ui,zE ho]).map (·,true):=rfl;rw[hcw,Zdh];rcases k7 with k7 | k7
  ·subst k7;rw[if_pos ⟨e1,.inl (if_neg DN)⟩,show (if (1:Int)=2 then uJ else ui)=ui from rfl];simp only[A9,a2,b2,c2,d2];rfl
  ·subst k7;rw[if_pos ⟨e1,.inr (if_pos rfl)⟩,show (if (2:Int)=2 then uJ else ui)=uJ from rfl];simp only[A9,a2,b2,c2,d2];rfl
theorem XK{α:Type}(a b:List α)(d:α)(k:Nat)(h:a.length=k)(i:Nat):(a++b).getD (k+i) d=b.getD i d:=DO
theorem Zik{α:Type}(l m:List α)(d:α):(List.range l.length).map (λi=>(l++m).getD i d)=l:=by apply A6<;>grind
theorem Zsc{x:Inst}{n:Nat}(h:InstT x n):YX (jC x)=some (x,true):=by
 obtain⟨dy,ve,ca,le,cu,di⟩:=x;obtain⟨h1,h2,h3,⟨h4,h5,h6⟩,h7,h8,h9,h10⟩:=h;simp only at h1 h4 h5 h6 h7 h8 h9 h10;subst h1;obtain⟨d1,d2⟩:=ZD (z:=(n:Int)) DH DH;obtain⟨v1,v2⟩:=ZD h4.1 h4.2;obtain⟨c1,c2⟩:=ZD h5.1 h5.2;obtain⟨l1,l2⟩:=ZD h6.1 h6.2;have m1:=ZhD cu.length h7;have hW:jC ⟨n,ve,ca,le,cu,di⟩=[xX,[49]] :: [xY,zE n,xZ,zE ve,x7,zE ca,x8,zE le] :: [x9,zH cu.length] :: (cu.map (qq n)++[jq] :: di.map (λr:List Int=>r.map zE)):=rfl;rw[hW];generalize hls:[xX,[49]] :: [xY,zE n,xZ,zE ve,x7,zE ca,x8,zE le] :: [x9,zH cu.length] :: (cu.map (qq n)++[jq] :: di.map (λr:List Int=>r.map zE))=ls;have hls3:ls=[[xX,[49]],[xY,zE n,xZ,zE ve,x7,zE ca,x8,zE le],[x9,zH cu.length]]++(cu.map (qq n)++[jq] :: di.map (λr:List Int=>r.map zE)):=by rw[<-hls];rfl
 have q0:zS ls 0=[xX,[49]]:=by rw[<-hls];rfl
 have q1:zS ls 1=[xY,zE n,xZ,zE ve,x7,zE ca,x8,zE le]:=by rw[<-hls];rfl
 have q2:zS ls 2=[x9,zH cu.length]:=by rw[<-hls];rfl
 have q3:yQ ls 3 cu.length=cu.map (qq n):=by
  unfold yQ zS;rw[hls3];have:(List.range cu.length).map (λi=>([[xX,[49]],[xY,zE n,xZ,zE ve,x7,zE ca,x8,zE le],[x9,zH cu.length]]++(cu.map (qq n)++[jq] :: di.map (λr:List Int=>r.map zE))).getD (3+i) [])=(List.range (cu.map (qq n)).length).map λi=>(cu.map (qq n)++[jq] :: di.map (λr:List Int=>r.map zE)).getD i []:=by
   rw[List.length_map];refine AO λi _=>?_
   exact XK _ _ _ 3 rfl i
  rw[this,Zik]
 have q4:zS ls (3+cu.length)=[jq]:=by
  unfold zS;rw[hls3,XK _ _ _ 3 rfl];have:=XK (cu.map (qq n)) ([jq] :: di.map (λr:List Int=>r.map zE)) [] cu.length DI 0;rw[Bx]at this;rw[this];rfl
 have q5:yQ ls (4+cu.length) (cu.length+1)=di.map (λr:List Int=>r.map zE):=by
  unfold yQ zS;have:(List.range (cu.length+1)).map (λi=>ls.getD (4+cu.length+i) [])=(List.range (di.map (λr:List Int=>r.map zE)).length).map λi=>(di.map (λr:List Int=>r.map zE)++[]).getD i []:=by
   rw[List.length_map,h9];refine AO λi _=>?_
   rw[hls3,show 4+cu.length+i=3+(cu.length+(1+i)) by omega,XK _ _ _ 3 rfl,XK _ _ _ cu.length DI,AH];have:=XK [[jq]] (di.map (λr:List Int=>r.map zE)) [] 1 rfl i;exact this
  rw[this,Zik]
 have q6:ls.length=5+2*cu.length:=by rw[hls3];simp;omega
 have n1:qa (zS ls 1) [xY,xZ,x7,x8]=some [(n:Int),ve,ca,le]:=by
  rw[q1];unfold qa;rw[if_pos (by simp[JC,AL]),WQ (by intro w hw;simp[xB,AL]at hw;grind)];simp[xB,AL,d2,v2,c2,l2]
 have n2:qa (zS ls 2) [x9]=some [(cu.length:Int)]:=by
  rw[q2];unfold qa;rw[if_pos (by simp[JC]),WQ (by intro w hw;simp[xB,AL]at hw;rw[hw,m1];rfl)];simp[xB,AL,yO,m1]
 have hc:∀c∈cu,wd n (qq n c)=some (c,true):=λc hc=>Zsb h2 h3 (h8 c hc)
 have r1:(cu.map (qq n)).all (λl=>(wd n l).isSome)=true:=by
  rw[Ay];intro l hl;obtain⟨c,hcm,rfl⟩:=Al.1 hl;rw[hc c hcm];rfl
 have hrow:∀r∈di,(jB (r.map zE)).isSome=true/\(r.map zE).map yO=r:=by
  intro r hr;have hz:=(h10 r hr).2;refine⟨?_,?_⟩
  ·rw[WQ];rfl;intro w hw;obtain⟨z,hzm,rfl⟩:=Al.1 hw;exact(ZD (hz z hzm).1 (hz z hzm).2).1
  ·rw[BU];refine(AO λz hzm=>?_).trans (C4 _);exact(ZD (hz z hzm).1 (hz z hzm).2).2
 have r2:(di.map (λr:List Int=>r.map zE)).all (vf (cu.length+1))=true:=by
  rw[Ay];intro l hl;obtain⟨r,hr,rfl⟩:=Al.1 hl;simp[vf,(hrow r hr).1,(h10 r hr).1]
 have tn:((cu.length:Nat):Int).toNat=cu.length:=DI
 unfold YX;rw[if_pos q0,n1];simp only;rw[n2];simp only[tn,q3,q5,q4];rw[if_pos ⟨r1,trivial,r2,q6⟩];have e1:(cu.map (qq n)).map (λl=>(w9 n l).1)=cu:=by
  rw[BU];refine(AO λc hcm=>?_).trans (C4 _);simp only[Function.comp_apply,w9,hc c hcm];rfl
 have e2:(di.map (λr:List Int=>r.map zE)).map (λl=>l.map yO)=di:=by
  rw[BU];refine(AO λr hr=>?_).trans (C4 _);exact(hrow r hr).2
 have e3:((cu.map (qq n)).all λl=>(w9 n l).2)=true:=by
  rw[Ay];intro l hl;obtain⟨c,hcm,rfl⟩:=Al.1 hl;simp only[w9,hc c hcm];rfl
 rw[e1,e2,e3]
theorem Zsd:∀w∈[xX,xY,xZ,x7,x8,x9,vN,QO,ui,uJ,jq,[49]],Zy w:=by
 intro w hw;rw[<-Zay];revert w;decide
theorem Zse(n p:Nat)(h:1<=n):Zy (qy n p):=by
 have:=Zij n p h;simp only[wG,Aw,decide_eq_true_eq,Ay]at this;exact⟨this.1,λc hc=>by grind⟩
theorem Zsf{x:Inst}{n:Nat}(h:InstT x n):(∀l∈jC x,l≠[])/\∀l∈jC x,∀w∈l,Zy w:=by
 have A:∀w,w∈[xX,xY,xZ,x7,x8,x9,vN,QO,ui,uJ,jq,[49]]->Zy w:=Zsd;have hn1:=h.n1;have hnd:x.days.toNat=n:=by have:=h.days;omega
 constructor
 ·intro l hl;simp only[jC,As,AB,Al]at hl;rcases hl with rfl | rfl | rfl | ⟨c,hc,rfl⟩ | rfl | ⟨r,hr,rfl⟩
  ·simp
  ·simp
  ·simp
  ·grind[qq]
  ·simp
  ·intro e;have:=(h.row r hr).1
   simp_all
 ·intro l hl w hw;simp only[jC,As,AB,Al]at hl;rcases hl with rfl | rfl | rfl | ⟨c,hc,rfl⟩ | rfl | ⟨r,hr,rfl⟩
  ·grind
  ·simp only[As,A7,or_false]at hw;rcases hw with rfl | rfl | rfl | rfl | rfl | rfl | rfl | rfl
   all_goals first | exact QG _ | simp_all
  ·grind[QG]
  ·unfold qq at hw;split at hw
   ·simp only[As,Al]at hw;rcases hw with rfl | rfl | ⟨p,hp,rfl⟩
    ·exact A _ DI
    ·exact QG _
    simp_all[Zse]
   ·simp only[As,A7,or_false]at hw;rcases hw with rfl | rfl | rfl | rfl | rfl | rfl
    ·simp_all
    ·exact QG _
    ·exact QG _
    ·exact QG _
    ·split<;>simp_all
    ·exact QG _
  ·simp_all
  ·obtain⟨z,_,rfl⟩:=Al.1 hw;exact QG _
theorem Zsg{x:Inst}{n:Nat}(h:InstT x n)(hm:jo x=true):qp (yd (jC x))=(x,0):=by grind[Zsf,qp,ZqR,Zsc]
open Go Go.Proofs
abbrev U8(b:UInt8):PV:=.sc (.int .u8 (b.toNat:Int))
theorem Zsh(l:List UInt8):strOfNums (l.map λb=>(b.toNat:Int))=bs l:=by simp[strOfNums,AO]
theorem QQ(a b:List UInt8)(h:a.length+b.length<=9223372036854775807):qV .add (bs a) (bs b)=some (.string (bs (a++b))):=by simp_all[qV,wZ,ZqF]
theorem Zil{P:Program}{w:World}{src dst e b off len cap:Nat}{l:List UInt8}(hs:P.underlying src=some (.slice e))(he:P.underlying e=some (.int .u8))(hd:P.underlying dst=some .string)(hlen:l.length=len)
  (hcell:∀(i:Nat) (u:UInt8),l[i]?=some u->w.cell? ⟨b,off+i,none⟩=some (.int .u8 (u.toNat:Int))):(convert src dst (.slice (some ⟨b,off,none⟩) len cap)).run P w=.ok (.string (bs l)) w:=by
 have:=run_convert_bytes_arg (P:=P) w src e hs he b off len cap (l.map λb=>(b.toNat:Int)) (by simpa using hlen) (λi hi=>by
  have hil:i<l.length:=DH
  rw[hcell i l[i] (Ae hil)];simp[Aa,Ae hil]) dst hd
 simp_all[Zsh]
theorem Zim{P:Program}{o:Oper}{src dst:TypeId}{x:Operand}{a:Act}{w:World}{v:Value}(ho:o.op=.convert src dst x)(h:(convert src dst (a.eval x)).run P w=.ok v w):(execOp a.eval o).run P w=.ok (.value v) w:=by simp_all[execOp]
theorem Zsi{P:Program}{n:Nat}{F:Nat->PV}{S:Store}{o:Oper}{src dst e:TypeId}{x:Operand}{l:List UInt8}{K:PV->Store->Prop}(ho:o.op=.convert src dst x)(hs:P.underlying src=some (.slice e))(he:P.underlying e=some (.int .u8))(hd:P.underlying dst=some .string)
  (hx:ev F x=.lst l.length (l.map U8)) (hK:K (T (bs l)) S):PO P qW n o F S K:=by
 intro G hG C w a N st next Q' hnext;have e1:=st.ev x;rw[(hG x (by simp[ho,Op.operands])).trans hx]at e1;have hnd:∀c,o.op≠.defer c:=by intro c hc;rw[ho]at hc;cases hc
 have hrun:(convert src dst (a.eval x)).run P w=.ok (.string (bs l)) w:=by
  generalize a.eval x=v at e1;generalize hm:l.length=m at e1;generalize hcs:l.map U8=cs at e1;cases e1 with
  | lst0 =>
   rename_i cap ad;obtain rfl:l=[]:=Au hm;cases ad with
   | none=>exact run_convert_bytes_nil w src e hs he 0 cap dst hd
   | some ad =>
    have:=run_bytesToString (P:=P) w ad 0 cap [] (by simp[loadCells,loadCellsFrom]);rw[run_convert_bytes_string w src dst e _ 0 cap hs he hd,this];rfl
  | lst1 hn hmx hb hM hsz h1 hr =>
   rename_i cap b off c et fz;refine Zil hs he hd hm λi u hu=>?_
   have hi:i<l.length:=(Ac.1 hu).1;have hp:cs[i]?=some (U8 u):=by rw[<-hcs,Ai,hu];rfl
   have hcl:cs.length=l.length:=by rw[<-hcs,List.length_map]
   have hsz':=hsz (by intro h;rw[h]at hcl;simp at hcl;omega);have hv:=hr i _ _ hp (AK DH);generalize hq:c[off+i]' DH=q at hv;cases hv
   grind[World.cell?]
 exact yT hnd (Zim ho hrun) (hnext _ _ _ _ _ hK (.sc _) st.sim (Step.refl _ _ _))
theorem Zin{P:Program}{n:Nat}{F:Nat->PV}{S:Store}{o:Oper}{src dst e:TypeId}{x:Operand}{l:List UInt8}{id ver et off:Nat}{cs:List PV}{K:PV->Store->Prop}(ho:o.op=.convert src dst x)(hs:P.underlying src=some (.slice e))(he:P.underlying e=some (.int .u8))(hd:P.underlying dst=some .string)
  (hx:ev F x=.sl id ver 1 off l.length) (hid:S id=.cells ver et cs) (hl:∀(i:Nat) (u:UInt8),l[i]?=some u->cs[off+i]?=some (U8 u)) (h0:0<l.length) (hK:K (T (bs l)) S):PO P qW n o F S K:=by
 intro G hG C w a N st next Q' hnext;have e1:=st.ev x;rw[(hG x (by simp[ho,Op.operands])).trans hx]at e1;have hnd:∀c,o.op≠.defer c:=by intro c hc;rw[ho]at hc;cases hc
 have hrun:(convert src dst (a.eval x)).run P w=.ok (.string (bs l)) w:=by
  generalize a.eval x=v at e1;generalize hm:l.length=m at e1;cases e1 with
  | sl h1 h2 h3 =>
   rcases (h3 ver (by rw[hid];rfl)).2 rfl with ⟨_,z2,_,_⟩ | ⟨b,k,ad,cap,z1,z2,z3,z4⟩
   ·omega
   ·obtain rfl:=z4 DH;subst z2;rcases st.sim.cells id ver et cs hid with ⟨hn,_⟩ | ⟨b2,k2,c,g1,g2,g3,g4,g5,g6⟩
    ·rw[hn]at z1;cases z1
    ·rw[g1]at z1;cases z1;refine Zil hs he hd hm λi u hu=>?_
     have hp:=hl i u hu;have hi:off+i<cs.length:=(Ac.1 hp).1;have hv:=g6 (off+i) _ _ hp (AK DH);generalize hq:c[off+i]' DH=q at hv;cases hv
     grind[World.cell?]
 exact yT hnd (Zim ho hrun) (hnext _ _ _ _ _ hK (.sc _) st.sim (Step.refl _ _ _))
theorem Zsj{P:Program}{n:Nat}{F:Nat->PV}{S:Store}{o:Oper}{t e m id ver et k:Nat}{x lo:Operand}{cs:List PV}{K:PV->Store->Prop}(ho:o.op=.slice t x (some lo) none none)(ht:P.underlying t=some (.array m e))(hc:P.cellsOf e=1)(hx:ev F x=.ptr id ver 0)(hlo:ev F lo=I (k:Int))(h0:0<k)(hk:k<m)(hid:S id=.cells ver et cs)(hm:m<=1048576)(hK:K (.sl id ver 1 k (m-k)) S):PO P qW n o F S K:=by
 intro G hG C w a N st next Q' hnext;have e1:=st.ev x;rw[(hG x (by simp[ho,Op.operands])).trans hx]at e1;have e2:=st.ev lo;rw[(hG lo (by simp[ho,Op.operands])).trans hlo]at e2;have hnd:∀c,o.op≠.defer c:=by intro c hc;rw[ho]at hc;cases hc
 generalize hv:a.eval x=v at e1;generalize hu:a.eval lo=u at e2;cases e2;cases e1 with
 | ptr h1 h2 h3 =>
  obtain⟨b,q,hl,rfl⟩:=(h3 ver (by rw[hid];rfl)).2 rfl;have hrun:(execOp a.eval o).run P w=.ok (.value (.slice (some ⟨b,k,none⟩) (m-k) (m-k))) w:=by
   unfold execOp;simp[ho,hv,hu,Instr.sliceAt,run_underlying ht,Instr.sureAddr,Instr.sliceBounds,Instr.sliceBound,asIntOf,wL (show P.cellsOf e≠0 by omega),hc];rw[if_pos (Dw hk),if_neg DH,Addr.add_plain];simp
  refine yT hnd hrun (hnext _ _ _ _ _ hK (.sl ⟨_,_,rfl,Ag _,by unfold jE;omega,by unfold maxLen;omega,λ_=>⟨_,_,rfl⟩⟩ h2 λv0 hv0=>?_) st.sim (Step.refl _ _ _));obtain⟨a1,a2⟩:=h3 v0 hv0;refine⟨a1,λhvv=>?_⟩;exact .inr ⟨b,q,_,_,hl,rfl,λh=>absurd h DH,λ_=>rfl⟩
open Go Go.Proofs Go.RowKit Go.Shelf
theorem Zsk{C:Ctx}{S:Store}{w:World}{b:UInt8}{v:Value}(h:Rel C S w (U8 b) v):v=.int .u8 (b.toNat:Int):=by cases h;rfl
theorem Zsl(k:Nat)(hk:2<=k):liesAt prog prog.depth 113 (k / prog.cellsOf 113) 0 113 1=true:=by
 have hc:prog.cellsOf 113=2:=DK
 have hl:sameLayout prog prog.depth 113 113=true:=DK
 obtain⟨d,hd⟩:∃d,prog.depth=d+1:=⟨prog.depth-1,by kernel_rfl⟩;have h1:1<=k / 2:=DH
 simp_all[liesAt,rowAt]
theorem Zsm(b k:Nat)(w:World)(h0:w.cell? ⟨b,0,none⟩=some (.pointer none))(hsh:w.shape? b=some (113,k))(hk:2<=k)(hfz:w.frozen? ⟨b,0,none⟩=false):
  Calls prog 98 #[.pointer (some ⟨b,0,none⟩)] w λe w'=>e=.returned (.tuple #[])/\w'=w.setCell ⟨b,0,none⟩ (.pointer (some ⟨b,0,none⟩)):=by
 obtain⟨j,hj,hjs⟩:∃j,prog.info? 113=some j/\j.size=2:=by
  have:(prog.info? 113).map (·.size)=some 2:=DK
  exact Ao.1 this
 go_enter func98,ntmps98
 go_wp2
 rw[Lib.run_to_unsafe w ⟨b,0,none⟩ underlying110 underlying191 hj (by rw[hjs];decide) hsh (by show 0<k;omega)];simp only[Result.andThen];rw[Oper.upon_value]
 go_wp2
 rw[run_callFunc_extern func134 DK DK DK (e:=Extern.AbiNoEscape.same) DK];rw[Lib.run_noEscape];simp only[Result.andThen];rw[Oper.upon_value]
 go_wp2
 rw[Lib.run_from_unsafe w ⟨b,0,none⟩ underlying191 underlying110 hj hsh (Zsl k hk)];simp only[Result.andThen];rw[Oper.upon_value]
 go_wp2
 go_end0
 simp
theorem Yi(S:Store)(o:Nat)(x:Ob)(h:S o=x):S.set o x=S:=by grind[Store.set]
theorem Zdi{vs:Array Value}(h:1=vs.size):∃v,vs=#[v]:=by
 match vs,h with
 | ⟨[v]⟩,_=>simp
theorem Zio{vs:Array Value}(h:2=vs.size):∃u v,vs=#[u,v]:=by
 match vs,h with
 | ⟨[u,v]⟩,_=>simp
theorem Zdj{C:Ctx}{S:Store}{w:World}(hS:Sim C S w){id v e:Nat}{p s:PV}(h:S id=.cells v e [p,s]):∃(b k:Nat) (c:Array Value) (c0 c1:Value),C.loc id=some (b,k)/\w.heap[b]?=some (.cells c e (0,0))/\c.size=k/\2<=k/\c[0]?=some c0/\c[1]?=some c1/\Rel C S w p c0/\Rel C S w s c1 /\
  (∀(i:Nat) (u:Value),i<2->c[i]?=some u->u.oneCell'=true):=by
 rcases hS.cells id v e _ h with ⟨_,hn⟩ | ⟨b,k,c,g1,g2,g3,g4,g5,g6⟩
 ·cases hn
 ·simp only[Ad,Ah]at g4;have e0:c[0]?=some (c[0]' DH):=AK DH
  grind
theorem Zip{S:Store}{id v:Nat}{p s:PV}(hS:S id=.cells v 113 [p,s])(hp:p=.sc (.pointer none)\/p=.ptr id v 0):
  Spec prog 98 [.ptr id v 0] S (λ_ S'=>S'=S.set id (.cells v 113 [.ptr id v 0,s])):=by
 refine⟨qe func98 DM rfl,?_⟩;intro C w vs hC hl hr;obtain⟨u,rfl⟩:=Zdi hl;have hu:=hr 0 _ u rfl rfl;cases hu with
 | ptr h1 h2 h3 =>
  obtain⟨b,k,hloc,rfl⟩:=(h3 v (by rw[hS];rfl)).2 rfl;obtain⟨b',k',c,c0,c1,g1,g2,g3,g4,e0,e1,r0,r1,g5⟩:=Zdj hC hS;rw[hloc]at g1;cases g1;have hcell:w.cell? ⟨b,0,none⟩=some c0:=by simp[World.cell?,g2,e0]
  have hself:Rel C S w (.ptr id v 0) (.pointer (some ⟨b,0,none⟩)):=.ptr h1 h2 h3;rcases hp with rfl | rfl
  ·cases r0;refine(Zsm b k w hcell (by simp_all[World.shape?]) g4 (by simp_all[World.frozen?])).mono ?_;rintro e w' ⟨rfl,rfl⟩;have hh:(w.setCell ⟨b,0,none⟩ (.pointer (some ⟨b,0,none⟩))).heap[b]?=some (.cells (c.setIfInBounds 0 (.pointer (some ⟨b,0,none⟩))) 113 (0,0)):=by
    simp[World.setCell,Bz,g2]
   obtain⟨t1,t2⟩:=hC.turn (l:=C.loc id) (ver':=v) (cs':=[.ptr id v 0,s]) hS (Ag _) (λ_=>rfl) (w':=w.setCell ⟨b,0,none⟩ (.pointer (some ⟨b,0,none⟩)))
    (by rw[hloc];exact⟨⟨rfl,rfl,rfl,by simp,λj _ hj=>by grind[World.setCell]⟩,Ag _⟩)
    (.inr ⟨b,k,_,hloc,.inr (by rw[hloc];rfl),hh,by simp[g3],g4,λi u hi hu=>by
      match i,hi with
      | 0,_=>rw[BX DH]at hu;cases hu;rfl
      | 1,_=>grind,
     λi q u hq hu=>by grind⟩)
   exact⟨.junk,_,_,_,rfl,rfl,.junk _,t1,t2⟩
  ·have hc0:c0=.pointer (some ⟨b,0,none⟩):=by
    cases r0 with
    | ptr i1 i2 i3 =>
     obtain⟨b2,k2,hl2,rfl⟩:=(i3 v (by rw[hS];rfl)).2 rfl
     simp_all
   subst hc0;refine(Any.Builder_copyCheck_used { lays156 with } Builder_Extra_156.toX72 b w hcell).mono ?_;rintro e w' ⟨rfl,rfl⟩;exact⟨.junk,_,_,_,rfl,(Yi S id _ hS).symm,.junk _,hC,.refl _ _ _⟩
theorem Sim.lose{C:Ctx}{S:Store}{w w':World}{id:Nat}(h:Sim C S w)(hne:S id≠.dead)(hg:w.grownBy w' ((C.loc id).map (·.1))/\w.drawn<=w'.drawn):Sim C (S.set id .dead) w'/\Step C S w C (S.set id .dead) w':=by
 have hold:∀o,(S.set id .dead) o≠.dead->o≠id/\(S.set id .dead) o=S o:=by
  intro o ho
  by_cases e:o=id
  ·simp_all
  ·simp_all[q10]
 have hfar:∀i b k,i≠id->S i≠.dead->C.loc i=some (b,k)->some b≠(C.loc id).map (·.1):=by
  intro i b k hi hd hb he;cases ho:C.loc id with
  | none=>simp_all
  | some x =>
   obtain⟨b2,k2⟩:=x;rw[ho]at he;cases he;exact hi (h.dist i id _ _ _ hd hne hb ho)
 have st:Step C S w C (S.set id .dead) w':=by
  refine⟨hg.1.os,⟨hg.1.tape,hg.2⟩,hg.1.output,hg.1.size,Ag _,Ag _,λb hlt hM=>⟨hg.1.block b hlt λe=>?_,?_⟩,λo v1 hv=>?_⟩
  ·cases ho:C.loc id with
   | none=>simp_all
   | some x =>
    obtain⟨b2,k2⟩:=x;rw[ho]at e;cases e;exact hM ⟨id,k2,hne,ho⟩
  ·rintro⟨o,k,ho,hl⟩;obtain⟨e1,e2⟩:=hold o ho;rw[e2]at ho;exact hM ⟨o,k,ho,hl⟩
  ·obtain⟨e1,e2⟩:=hold o (by intro e;rw[e]at hv;cases hv)
   simp_all
 refine⟨⟨λo ho=>?_,λo v hv=>?_,λo o' b k k' h1 h2 h3 h4=>?_,λo v e cs ho=>?_,λo v es ho=>?_⟩,st⟩
 ·obtain⟨e1,e2⟩:=hold o ho;rw[e2]at ho;exact h.lt o ho
 ·obtain⟨e1,e2⟩:=hold o (by intro e;rw[e]at hv;cases hv);rw[e2]at hv;exact h.clk o v hv
 ·obtain⟨e1,e2⟩:=hold o h1;obtain⟨e3,e4⟩:=hold o' h2;rw[e2]at h1;rw[e4]at h2;exact h.dist o o' b k k' h1 h2 h3 h4
 ·obtain⟨e1,e2⟩:=hold o (by rw[ho];simp);rw[e2]at ho;rcases h.cells o v e cs ho with hn | ⟨b,k,c,g1,g2,g3,g4,g5,g6⟩
  ·exact .inl hn
  ·exact .inr ⟨b,k,c,g1,(hg.1.block b (qi g2) (hfar o b k e1 (by rw[ho];simp) g1)).trans g2,g3,g4,g5,λi p u hp hu=>(g6 i p u hp hu).mono st⟩
 ·obtain⟨e1,e2⟩:=hold o (by rw[ho];simp);rw[e2]at ho;obtain⟨b,k,ms,cl,g1,g2,g3,g4⟩:=h.maps o v es ho;exact⟨b,k,ms,cl,g1,(hg.1.block b (qi g2) (hfar o b k e1 (by rw[ho];simp) g1)).trans g2,g3,λi x m he hm=>⟨(g4 i x m he hm).1,(g4 i x m he hm).2.mono st⟩⟩
theorem Zsn(b g cap:Nat)(c cur:Array Value)(l:List UInt8)(w:World)(hbk:w.heap[b]?=some (.cells c 113 (0,0)))(h1:c[1]?=some (.slice (some ⟨g,0,none⟩) l.length cap))(h0:l≠[])(hlen:l.length<=140737488355328)
  (hg:w.heap[g]?=some (.cells cur 5 (0,0))) (hcur:l.length<=cur.size) (hcap:l.length<=cap) (hcell:∀(j:Nat) (x:UInt8),l[j]?=some x->cur[j]?=some (.int .u8 (x.toNat:Int))) :
  Calls prog 64 #[.pointer (some ⟨b,0,none⟩)] w λe w'=>e=.returned (.string (bs l))/\w'=w.drew.freeze ⟨g,0,none⟩ l.length:=by
 have hl0:l.length≠0:=by simpa using h0
 have c1:w.drew.cell? ⟨b,1,none⟩=some (.slice (some ⟨g,0,none⟩) l.length cap):=by
  have:w.drew.heap[b]?=some (.cells c 113 (0,0)):=hbk;rw[Lib.cell_of_heap this];exact h1
 have hg':w.drew.heap[g]?=some (.cells cur 5 (0,0)):=hg;have hSD:(Builtin.unsafeSliceData_ #[111] 161 #[.slice (some ⟨g,0,none⟩) l.length cap]).run prog w.drew=.ok (.pointer (some ⟨g,0,none⟩)) w.drew :=
  Lib.run_unsafeSliceData_row _ _ _ _ _ _ DH
 have hUS:(Builtin.unsafeString_ #[161,3] 9 #[.pointer (some ⟨g,0,none⟩),.int .i64 l.length]).run prog w.drew=.ok (.string (bs l)) (w.drew.freeze ⟨g,0,none⟩ l.length):=by
  refine Lib.run_unsafeString_row w.drew 161 3 9 5 underlying161 DI g cur.size (by simp_all[World.shape?]) l h0 hcur DH ?_;intro j x hx;rw[Addr.add_plain,AS];simp[World.cell?,hg',hcell j x hx]
 go_enter func64,ntmps64
 go_wp2
 go_region
 all_goals (go_wp2;go_ret;simp)
theorem Zdk{S:Store}{id v ib w0:Nat}{p:PV}(l:List UInt8)(hS:S id=.cells v 113 [p,.sl ib w0 1 0 l.length])(hB:S ib=.cells w0 5 (l.map U8))(h0:l≠[])(hlen:l.length<=140737488355328):
  Spec prog 64 [.ptr id v 0] S (λq S'=>q=T (bs l)/\S'=S.set ib .dead):=by
 refine⟨qe func64 DM rfl,?_⟩;intro C w vs hC hl hr;obtain⟨u,rfl⟩:=Zdi hl;have hu:=hr 0 _ u rfl rfl;have hl0:l.length≠0:=by simpa using h0
 cases hu with
 | ptr h1 h2 h3 =>
  obtain⟨b,k,hloc,rfl⟩:=(h3 v (by rw[hS];rfl)).2 rfl;obtain⟨b',k',c,c0,c1,g1,g2,g3,g4,e0,e1,r0,r1,g5⟩:=Zdj hC hS;rw[hloc]at g1;cases g1;cases r1 with
  | sl i1 i2 i3 =>
   rcases (i3 w0 (by rw[hB];rfl)).2 rfl with ⟨_,q,_⟩ | ⟨g,kg,ad,cap,hlg,rfl,hq0,hq1⟩
   ·omega
   obtain⟨rfl,hq⟩:=hq0 rfl;obtain⟨a1,cp,e2,c3,_⟩:=i1;cases e2;rcases hC.cells ib w0 _ _ hB with ⟨hn,_⟩ | ⟨b2,k2,cur,f1,f2,f3,f4,f5,f6⟩
   ·simp_all
   rw[hlg]at f1;cases f1;rw[List.length_map]at f4;have hcell:∀(j:Nat) (x:UInt8),l[j]?=some x->cur[j]?=some (.int .u8 (x.toNat:Int)):=by
    intro j x hx;have hj:=(Ac.1 hx).1;have hc:=AK (xs:=cur) (i:=j) DH;rw[hc,Zsk (f6 j (U8 x) _ DO hc)]
   refine(Zsn b g cap c cur l w g2 e1 h0 hlen f2 DH c3 hcell).mono ?_;rintro e w' ⟨rfl,rfl⟩;obtain⟨t1,t2⟩:=hC.lose (id:=ib) (w':=w.drew.freeze ⟨g,0,none⟩ l.length) (by rw[hB];simp) (by
    rw[hlg];unfold World.freeze;rw[if_neg hl0];exact⟨⟨rfl,rfl,rfl,by simp,λj _ hj=>by
     rw[Bz,if_neg (λe=>hj (by rw[<-e];rfl))];rfl⟩,CF _⟩)
   exact⟨_,_,_,_,rfl,⟨rfl,rfl⟩,.sc _,t1,t2⟩
open Go Go.Proofs
theorem Zdl(k:Nat)(h:k<256):IntKind.u8.wrap (k:Int)=k:=by
 have e:IntKind.u8.wrap (k:Int)=(k:Int) % 256:=by simp[IntKind.wrap,IntKind.bits,IntKind.signed]
 rw[e];omega
theorem Ziq(n:Nat)(hn:n<=4611686018427387904):Pure prog 53 [I n] (T (bs (zH n))):=by
 induction n using Nat.strongRecOn with
 | _ n ih =>
  have hr:((n:Int)).tmod 10=((n % 10:Nat):Int):=by rw[Be DH];omega
  have hq:((n:Int)).tdiv 10=((n / 10:Nat):Int):=by rw[BN DH];omega
  have hs1:n<10->zH n=[UInt8.ofNat (48+n % 10)]:=λh=>by rw[QF h,CP h]
  have hs2:¬n<10->zH n=zH (n / 10)++[UInt8.ofNat (48+n % 10)]:=Jw;have hu:=Ya (k:=n % 10) DH;have hr9:n % 10<10:=DH
  have hm9:n / 10<=n/\(¬n<10->n / 10<n):=DH
  generalize UInt8.ofNat (48+n % 10)=u at *;generalize n % 10=r at *;generalize n / 10=m at *;have hw:W (m:Int)=m:=by simp only[W,AC];omega
  have hw2:W (48+(r:Int))=(u.toNat:Int):=by rw[hu];simp only[W,AC];omega
  have hw3:=Zdl u.toNat DH;have h0:¬(n:Int)<0:=DH
  refine zt func53 ntmps53 results53 λS nx hd=>?_
  refine DQ ?_
  repeat apply za
  refine ze [] h0 ?_;refine zm DI ?_;refine zh (za (ze [] (zF hr hw2 hw3) ?_));refine λhsuf=>Zsi (e:=5) (l:=[u]) rfl DI DI DI DI ?_
  refine⟨_,_,rfl,zG hsuf ?_⟩
  repeat apply za
  refine zb ?_;refine zv rfl (λh=>?_) (λh=>?_)
  ·simp at h;have hdec:=ih m (hm9.2 DH) DH;have hsz:=QQ (zH m) [u] (by have:=Zax m 18 (by omega);simp;omega);refine za (ze [] (zo hq hw) ?_);refine qm [] hdec hsz ?_;exact zg (zi hd DJ (by rw[hs2 (by omega)];rfl))
  ·simp at h;refine zh (DQ ?_);exact zg (zi hd DJ (by rw[hs1 (by omega)];rfl))
def uk(l:List Nat):List ByteArray:=l.map λn=>bs (zH n)
theorem Zdm(l:List Nat)(hl:l.length<=1048576)(hn:∀n∈l,n<=4611686018427387904):Pure prog 52 [L (l.map λn:Nat=>(n:Int))] (L (uk l)):=by
 obtain⟨zs,hzs⟩:∃zs:List Int,zs=l.map λn:Nat=>(n:Int):=⟨_,rfl⟩
 have hzl:zs.length=l.length:=by rw[hzs,List.length_map]
 have hat:∀(k n:Nat),l[k]?=some n->zs[k]?=some (n:Int):=λk n e=>by rw[hzs,Ai,e];rfl
 rw[<-hzs];refine zt func52 ntmps52 results52 λS nx hd=>?_
 refine DQ ?_;refine DQ ?_;refine jg 3 9 1 rfl λv3=>?_
 repeat apply za
 refine zb ?_;refine zj (zD (λs:Nat × Nat=>s.1<=zs.length) (λ(k,w)=>[(0,L zs),(3,.sl nx w 1 0 k),(4,I k)]) (λ(k,w)=>[.cells w 9 ((uk (l.take k)).flatMap Enc.enc)]) (λs=>zs.length-s.1) (0,v3) [] DI DI (by simp[uk]) ?_);rintro⟨k,w⟩ hk;simp only at hk ⊢
 repeat apply za
 refine zb ?_;refine zv rfl (λhc=>?_) (λhc=>?_)
 ·simp at hc;obtain⟨n,hn1⟩:∃n,l[k]?=some n:=⟨_,Ae DH⟩;obtain⟨z,tl,b1,b2,b3,f0⟩:=zJ rfl zs k hc;obtain rfl:z=(n:Int):=by have:=hat k n hn1;rw[b1]at this;exact Option.some.inj this
  have hdec:=Ziq n (hn n (Ab hn1));have hnx:uk (l.take (k+1))=uk (l.take k)++[bs (zH n)]:=by rw[AI,hn1];simp[uk]
  have hf:(uk (l.take k)).length=k:=by simp[uk];omega
  have hf2:((uk (l.take k)).flatMap Enc.enc:List PV).take k=(uk (l.take k)).flatMap Enc.enc:=Af (by rw[Zav];omega);generalize uk (l.take k)=ws at *;refine zh (za (zj (ze [] (zo f0 hc) ?_)));refine qm [] hdec (zo hf hf2) ?_;refine⟨by omega,?_⟩;refine zb ?_;exact zq (k+1,w+1) [] hc DL (by simp[zu k (by omega)]) rfl (by simp[hnx])
 ·simp at hc;obtain rfl:k=zs.length:=DH
  refine zx (yb 0 rfl ?_);refine DQ ?_;exact zg (zi hd DJ (by rw[hzl,Ak];simp[zp,uk]))
theorem Zso(ws:List (List UInt8))(w:List UInt8):zO (ws++[w])=(if ws=[] then [] else zO ws++[32])++w:=by
 cases ws with
 | nil=>rfl
 | cons v vs=>rw[Zhs,if_neg DI];simp
theorem Zsp(ws:List (List UInt8))(hl:ws.length<=1048576)(hw:(zO ws).length<=1099511627776)(hp:∀k,(zO (ws.take k)).length<=1099511627776):Pure prog 42 [L (ws.map bs)] (T (bs (zO ws++[10]))):=by
 refine zt func42 ntmps42 results42 λS nx hd=>?_
 refine DQ ?_;refine DQ ?_
 repeat apply za
 refine zb ?_;refine zj (zD (λk:Nat=>k<=ws.length) (λk=>[(0,L (ws.map bs)),(3,T (bs (zO (ws.take k)))),(4,I k)]) (λ_=>[]) (λk=>ws.length-k) 0 [] DI (by simp[zO]) DI ?_);rintro k hk
 repeat apply za
 refine zb ?_;refine zv rfl (λhc=>?_) (λhc=>?_)
 ·simp at hc;obtain⟨w,tl,b1,b2,b3,f0⟩:=zJ rfl (ws.map bs) k (by simpa using hc);obtain⟨u,hu,rfl⟩:∃u,ws[k]?=some u/\bs u=w:=by rw[Ai]at b1;simpa using b1
  have hnx:zO (ws.take (k+1))=(if ws.take k=[] then [] else zO (ws.take k)++[32])++u:=by rw[AI,hu];exact Zso _ _
  have hpk:=hp k;have hpk1:=hp (k+1);have hul:u.length<=(zO (ws.take (k+1))).length:=by rw[hnx,Aq];omega
  have hkl:k<ws.length:=by simpa using hc
  refine zh (za (zj ?_))
  by_cases h0:0<k
  ·have e:¬ws.take k=[]:=by intro h;have:=congrArg List.length h;rw[Ax,Ah]at this;omega
   rw[if_neg e]at hnx;have hlen:=congrArg List.length hnx;simp only[Aq,Bm]at hlen;have s1:=QQ (zO (ws.take k)) [32] (by simp only[Bm];omega);have s2:=QQ (zO (ws.take k)++[32]) u (by simp only[Aq,Bm];omega);generalize zO (ws.take k)=J0 at *
   repeat apply za
   refine ze [] h0 ?_;refine zn (by simp[h0]) ?_;refine ze [] s1 ?_;refine ze [] (zF f0 hkl s2) ?_;refine zb ?_;exact zq (k+1) [] hkl DH (by simp[zu k (by omega),hnx]) rfl DI
  ·have e:ws.take k=[]:=by rw[show k=0 by omega];rfl
   rw[if_pos e]at hnx;rw[e,show zO ([]:List (List UInt8))=[] from rfl];have s2:=QQ [] u (by simp only[Ah];omega);rw[AT]at hnx s2
   repeat apply za
   refine ze [] h0 ?_;refine zm (by simp[h0]) ?_;refine zh (ze [] (zF f0 hkl s2) ?_);refine zb ?_;exact zq (k+1) [] hkl DH (by simp[zu k (by omega),hnx]) rfl DI
 ·simp at hc;obtain rfl:k=ws.length:=DH
  have hs:=QQ (zO ws) [10] (by simp only[Bm];omega);refine zx (Wi (λ_=>.inl rfl) ?_);rw[Ak];refine za (ze [] hs ?_);exact DR hd
open Go Go.Proofs Go.RowKit Go.Shelf
theorem Zsq(b n:Nat)(c:Array Value)(w:World)(hbk:w.heap[b]?=some (.cells c 113 (0,0)))(h1:c[1]?=some (.slice none 0 0))(hn:n<=281474976710656):
  Calls prog 188 #[.pointer (some ⟨b,0,none⟩),.int .i64 n] w λe w'=>e=.returned (.tuple #[])/\∃cs:Array Value,(n<=maxLen->cs.size<=maxLen)/\w'=((w.alloc (.cells cs 5)).setCell ⟨b,1,none⟩ (.slice (some ⟨w.heap.size,0,none⟩) 0 cs.size)).drew.drew.drew:=by
 obtain⟨cs,hrun,hle,hmax⟩:=Lib.run_makeNoZero (P:=prog) w.drew #[3] 111 5 underlying111 n hn;have hw:IntKind.i64.wrap (n:Int)=n:=by
  rw[AC];omega
 have hcall:(callFunc 221 #[.int .i64 (IntKind.i64.wrap (n:Int))]).run prog w.drew=.ok (.value (.slice (some ⟨w.drew.heap.size,0,none⟩) n cs.size)) (w.drew.drew.drew.alloc (.cells cs 5)):=by
  rw[hw,run_callFunc_extern func221 DK DK DK (e:=Extern.BytealgMakeNoZero.makeNoZero #[3] #[111]) DK,hrun];rfl
 have hlt:b<w.heap.size:=qi hbk;have c1:w.drew.cell? ⟨b,1,none⟩=some (.slice none 0 0):=by
  have:w.drew.heap[b]?=some (.cells c 113 (0,0)):=hbk;rw[Lib.cell_of_heap this];exact h1
 have c2:(w.alloc (.cells cs 5)).cell? ⟨b,1,none⟩=some (.slice none 0 0):=by
  rw[Lib.cell_of_heap ((Lib.alloc_old w _ b hlt).trans hbk)];exact h1
 have f2:(w.alloc (.cells cs 5)).frozen? ⟨b,1,none⟩=false:=Lib.frozen_of_heap ((Lib.alloc_old w _ b hlt).trans hbk) 1;have hcopy:∀W:World,(Builtin.copy_ #[111,111] 3 #[.slice (some ⟨w.heap.size,0,none⟩) 0 cs.size,.slice none 0 0]).run prog W=.ok (goInt 0) W :=
  λW=>run_copy_none W 111 111 3 5 _ _ 0 cs.size 0 0 underlying111 DK rfl
 clear hw hlt
 go_enter func188,ntmps188
 go_wp2
 go_region
 all_goals (go_wp2;go_end0;exact⟨rfl,cs,hmax,rfl⟩)
theorem Zsr{S:Store}{id v nx:Nat}{p:PV}(n:Nat)(hn:n<=140737488355328)(hS:S id=.cells v 113 [p,.sc (.slice none 0 0)])(hd:S nx=.dead):
  Spec prog 188 [.ptr id v 0,I n] S (λ_ S'=>∃w0,S'=(S.set nx (.cells w0 5 [])).set id (.cells v 113 [p,.sl nx w0 1 0 0])):=by
 refine⟨qe func188 DM rfl,?_⟩;intro C w vs hC hl hr;obtain⟨u,u2,rfl⟩:=Zio hl;have hu:=hr 0 _ u rfl rfl;have hu2:=hr 1 _ u2 rfl rfl;cases hu2;cases hu with
 | ptr h1 h2 h3 =>
  obtain⟨b,k,hloc,rfl⟩:=(h3 v (by rw[hS];rfl)).2 rfl;obtain⟨b',k',c,c0,c1,g1,g2,g3,g4,e0,e1,r0,r1,g5⟩:=Zdj hC hS;rw[hloc]at g1;cases g1;cases r1;refine(Zsq b n c w g2 e1 DH).mono ?_;rintro e w' ⟨rfl,cs,hmax,rfl⟩;have hlt:b<w.heap.size:=qi g2;have hne:id≠nx:=by rintro rfl;rw[hS]at hd;cases hd
  obtain⟨a1,a2⟩:=hC.object' (o:=nx) (ver:=C.clock) ⟨hd,.inr (Ag _)⟩ 5 cs [] (Cj _) (λi u hi=>absurd hi (Nat.not_lt_zero _)) (λi q u hq=>by simp at hq);have hS1:(S.set nx (.cells C.clock 5 [])) id=.cells v 113 [p,.sc (.slice none 0 0)]:=(q10 _ _ _ _ hne).trans hS;have hloc1:(C.put nx C.clock (some (w.heap.size,cs.size))).loc id=some (b,k):=by simp[Ctx.put,hne,hloc]
  have hg2:(w.alloc (.cells cs 5)).heap[b]?=some (.cells c 113 (0,0)):=(uR w _ b hlt).trans g2;have hsl:Rel (C.put nx C.clock (some (w.heap.size,cs.size))) (S.set nx (.cells C.clock 5 [])) (w.alloc (.cells cs 5)) (.sl nx C.clock 1 0 0) (.slice (some ⟨w.heap.size,0,none⟩) 0 cs.size):=by
   refine .sl ⟨_,_,rfl,Cj _,Cj _,hmax (by unfold maxLen;omega),λh=>absurd rfl h⟩ ⟨by simp only[Ctx.put];omega,by simp only[Ctx.put];omega⟩ λv0 hv0=>?_
   rw[q11]at hv0;cases hv0;exact⟨Ag _,λ_=>.inr ⟨w.heap.size,cs.size,_,_,by simp[Ctx.put],rfl,λ_=>⟨rfl,BS _⟩,λ_=>rfl⟩⟩
  have hh:((w.alloc (.cells cs 5)).setCell ⟨b,1,none⟩ (.slice (some ⟨w.heap.size,0,none⟩) 0 cs.size)).heap[b]?=some (.cells (c.setIfInBounds 1 (.slice (some ⟨w.heap.size,0,none⟩) 0 cs.size)) 113 (0,0)):=by
   simp only[World.setCell,Bz,if_true,hg2,A9];rfl
  obtain⟨t1,t2⟩:=a1.turn (l:=(C.put nx C.clock (some (w.heap.size,cs.size))).loc id) (ver':=v) (cs':=[p,.sl nx C.clock 1 0 0]) hS1 (Ag _) (λ_=>rfl) (w':=(w.alloc (.cells cs 5)).setCell ⟨b,1,none⟩ (.slice (some ⟨w.heap.size,0,none⟩) 0 cs.size))
   (by rw[hloc1];exact⟨⟨rfl,rfl,rfl,by simp[World.setCell],λj _ hj=>by
      show ((w.alloc (.cells cs 5)).heap.modify b _)[j]?=_
      rw[Bz,if_neg (λe=>hj (by rw[<-e];rfl))]⟩,Ag _⟩)
   (.inr ⟨b,k,_,hloc1,.inr (by rw[hloc1];rfl),hh,by simp[g3],g4,λi u hi hu=>by
     match i,hi with
     | 0,_=>rw[CJ DH]at hu;exact g5 0 u DH hu
     | 1,_=>rw[BX DH]at hu;cases hu;rfl,
    λi q u hq hu=>by
     match i,hq with
     | 0,hq=>cases hq;rw[CJ DH,e0]at hu;cases hu;exact r0.mono a2
     | 1,hq=>cases hq;rw[BX DH]at hu;cases hu;exact hsl⟩)
  obtain⟨d1,d2⟩:=t1.drew;obtain⟨d3,d4⟩:=d1.drew;obtain⟨d5,d6⟩:=d3.drew;exact⟨.junk,_,_,_,rfl,⟨_,rfl⟩,.junk _,d5,(((a2.trans t2).trans d2).trans d4).trans d6⟩
theorem Zss{P:Program}{r:Rd}{n:Nat}{F:Nat->PV}{S:Store}{o:Oper}{x:Operand}{t e:TypeId}{K:PV->Store->Prop}(ho:o.op=.call { callee:=.builtin .cap,args:=#[x],argTypes:=#[t] })(ht:P.underlying t=some (.slice e))(hx:ev F x=.sc (.slice none 0 0))(hK:K (I 0) S):PO P r n o F S K:=by
 intro G hG C w a N st next Q' hnext;have e1:=st.ev x;rw[(hG x (by simp[ho,Op.operands,Call.operands])).trans hx]at e1;have hnd:∀c,o.op≠.defer c:=by intro c hc;rw[ho]at hc;cases hc
 generalize hv:a.eval x=v at e1;cases e1;have hrun:(execOp a.eval o).run P w=.ok (.value (.int .i64 0)) w:=by
  unfold execOp;simp[ho,resolve,invoke,builtin,hv,Builtin.cap_,goInt,run_underlying ht]
 exact yT hnd hrun (hnext _ _ _ _ _ hK (.sc _) st.sim (Step.refl _ _ _))
open Go Go.Proofs
theorem qE{S:Store}{nx id:Nat}{o:Ob}(hd:zW nx S)(h:S id=o)(hne:o≠.dead):id<nx:=by
 rcases Bh id nx with q | q
 ·exact q
 ·rw[hd id q]at h;exact absurd h.symm hne
theorem qz{S:Store}{nx id:Nat}(hd:zW nx S)(hlt:id<nx)(o:Ob):zW nx (S.set id o):=λi hi=>by rw[q10 _ _ _ _ DH];exact hd i hi
theorem Zst(l:List UInt8):((bs l).data.toList.map λb=>(.sc (.int .u8 (b.toNat:Int)):PV))=l.map U8:=rfl
abbrev Yj(id v ib w n:Nat):List PV:=[.ptr id v 0,.sl ib w 1 0 n]
theorem Zdn{S:Store}{id v ib w0:Nat}{p:PV}(l m:List UInt8)(hS:S id=.cells v 113 [p,.sl ib w0 1 0 l.length])(hp:p=.sc (.pointer none)\/p=.ptr id v 0)(hB:S ib=.cells w0 5 (l.map U8))(hlen:l.length+m.length<=140737488355328):
  Spec prog 61 [.ptr id v 0,T (bs m)] S (λq S'=>q=.tup [I m.length,.sc .nilIface]/\S'=(S.set ib (.cells (w0+1) 5 ((l++m).map U8))).set id (.cells v 113 (Yj id v ib (w0+1) (l++m).length))):=by
 have hne:id≠ib:=by rintro rfl;rw[hS]at hB;cases hB
 have hsz:=wZ m;have hcc:=λS (h:S id=_)=>Zip (S:=S) (id:=id) (v:=v) (p:=p) (s:=.sl ib w0 1 0 l.length) h hp
 refine yi func61 ntmps61 results61 λnx hd=>?_
 have hlt:id<nx:=qE hd hS DI;have hlt2:ib<nx:=qE hd hB DI;refine DQ ?_;refine DQ ?_;refine λhsuf=>((hcc _ ((zB hlt).trans hS)).mono ?_).v
 rintro _ _ rfl;refine⟨_,_,yZ _ hlt,zG hsuf ?_⟩;obtain⟨A,hA⟩:∃A,A=Ob.cells v 113 [.ptr id v 0,.sl ib w0 1 0 l.length]:=⟨_,rfl⟩;have x1:∀obs,ext (S.set id A) nx obs id=.cells v 113 [.ptr id v 0,.sl ib w0 1 0 l.length]:=λobs=>by rw[zB hlt,q11,hA]
 have x2:∀obs,ext (S.set id A) nx obs ib=.cells w0 5 (l.map U8):=λobs=>(zB hlt2).trans ((q10 _ _ _ _ (Ne.symm hne)).trans hB)
 have x3:∀B obs,ext ((S.set id A).set ib B) nx obs id=.cells v 113 [.ptr id v 0,.sl ib w0 1 0 l.length]:=λB obs=>by rw[zB hlt,q10 _ _ _ _ hne,q11,hA]
 rw[<-hA];have g1:¬nx<=id:=DH
 have g2:¬nx<=ib:=DH
 have g3:m.length<=9223372036854775807:=DH
 have htk:(l.map U8).take l.length=l.map U8:=Af DI;refine za (ze [] (yl x1 x2 x3 hsz g1 (zF g2 g3 Zst)) ?_);refine⟨by omega,?_⟩;refine za (ze [] hsz ?_);have hfin:((S.set id A).set ib (.cells (w0+1) 5 (l.map U8++m.map U8))).set id (.cells v 113 [.ptr id v 0,.sl ib (w0+1) 1 0 (l.length+m.length)])=(S.set ib (.cells (w0+1) 5 ((l++m).map U8))).set id (.cells v 113 (Yj id v ib (w0+1) (l++m).length)):=by
  rw[List.map_append,Aq,<-Store.set_comm S ib id _ _ (hne),Store.set_set]
 refine zg ⟨_,_,by simp;rfl,⟨by simp[zp],by rw[htk];exact hfin⟩,zR ?_⟩;exact qz (qz (qz hd hlt _) hlt2 _) hlt _
theorem Zsu{S:Store}{id v nx:Nat}(n:Nat)(h0:0<n)(hn:n<=140737488355328)(hS:S id=.cells v 113 [.sc (.pointer none),.sc (.slice none 0 0)])(hd:zW nx S):
  Spec prog 133 [.ptr id v 0,I n] S (λ_ S'=>∃w0,S'=(S.set nx (.cells w0 5 [])).set id (.cells v 113 (Yj id v nx w0 0))):=by
 have hlt:id<nx:=qE hd hS DI;have hcc:=λS (h:S id=_)=>Zip (S:=S) (id:=id) (v:=v) (p:=.sc (.pointer none)) (s:=.sc (.slice none 0 0)) h (.inl rfl)
 refine ut hd func133 ntmps133 results133 ?_;refine DQ ?_;refine λhsuf=>((hcc _ ((zB hlt).trans hS)).mono ?_).v
 rintro _ _ rfl;refine⟨_,_,yZ _ hlt,zG hsuf ?_⟩;obtain⟨A,hA⟩:∃A,A=Ob.cells v 113 [.ptr id v 0,.sc (.slice none 0 0)]:=⟨_,rfl⟩;have x1:∀obs,ext (S.set id A) nx obs id=.cells v 113 [.ptr id v 0,.sc (.slice none 0 0)]:=λobs=>by rw[zB hlt,q11,hA]
 rw[<-hA];have g1:¬nx<=id:=DH
 repeat apply za
 refine zb ?_;refine zm DI ?_;refine zh ?_;have hgr:=λS (h:S id=_) (hd:S nx=.dead)=>Zsr (S:=S) (id:=id) (v:=v) (nx:=nx) (p:=.ptr id v 0) n hn h hd
 refine za (zz (some [id]) (Row.pures [0,1,2,3,5,6,7,8,9,11] (.alt 4 (Row.pures [10,12] .done) .stop)) mixed (zo x1 g1) ?_);refine⟨by rfl,(Zss rfl underlying111 DI ?_)⟩;refine⟨by simp[yH],ju trivial ?_⟩;refine zn DL ?_;refine zb ?_;refine λhsuf=>((hgr _ (x1 []) (uU (nx:=nx) (obs:=[]))).mono ?_).v
 rintro _ _ ⟨w0,rfl⟩;have hne:id≠nx:=DH
 have e1:((ext (S.set id A) nx []).set nx (.cells w0 5 [])).set id (.cells v 113 [.ptr id v 0,.sl nx w0 1 0 0])=ext (S.set id (.cells v 113 [.ptr id v 0,.sl nx w0 1 0 0])) nx [.cells w0 5 []]:=by
  have:=qG (S:=S.set id A) (nx:=nx) (obs:=[]) (.cells w0 5 []);simp only[Ah,Bx,AT]at this;rw[this,yZ _ hlt,Store.set_set]
 refine⟨_,_,e1,zG hsuf ?_⟩;have e2:(S.set nx (.cells w0 5 [])).set id (.cells v 113 (Yj id v nx w0 0))=ext (S.set id (.cells v 113 [.ptr id v 0,.sl nx w0 1 0 0])) nx [.cells w0 5 []]:=by
  have:=qG (S:=S) (nx:=nx) (obs:=[]) (.cells w0 5 []);simp only[Ah,Bx,AT,qB hd]at this;rw[this,yZ _ hlt]
 exact⟨_,_,rfl,⟨w0,e2.symm⟩,λo=>.inl rfl⟩
theorem WS:∀ws:List (List UInt8),(zO ws).length=(ws.map List.length).sum+(ws.length-1)
 | []=>rfl
 | [w]=>by simp[zO]
 | w :: v :: ws=>by
  have:=WS (v :: ws);rw[XB,Aq,Ad,this];simp only[AA,BM,Ad];omega
theorem Zir(l:List Nat)(k:Nat):(l.take k).sum<=l.sum:=by
 conv=>rhs;rw[<-List.take_append_drop k l]
 rw[List.sum_append];omega
def ZF(ws:List (List UInt8))(k:Nat):Nat:=((ws.take k).map List.length).sum
theorem Zis(ws:List (List UInt8))(k:Nat):ZF ws k<=(ws.map List.length).sum:=by unfold ZF;rw[List.map_take];exact Zir _ k
theorem Zsv{ws:List (List UInt8)}{k:Nat}{u:List UInt8}(h:ws[k]?=some u):ZF ws (k+1)=ZF ws k+u.length:=by unfold ZF;rw[AI,h];simp
theorem wr2{S:Store}{nx:Nat}{A B A2 B2:Ob}:((ext S nx [A,B]).set (nx+1) B2).set nx A2=ext S nx [A2,B2]:=by
 rw[yc _ DH DI,yc _ DH DI];simp
theorem Zdp:∀(w:List UInt8) (rs:List (List UInt8)),zO (w :: rs)=w++(rs.map λu=>32 :: u).flatten
 | w,[]=>by simp[zO]
 | w,v :: rs=>by rw[XB,Zdp v rs];simp
def vO(w0:List UInt8)(rs:List (List UInt8))(k:Nat):List UInt8:=w0++((rs.take k).map λu=>32 :: u).flatten
theorem Zsw(w0:List UInt8)(rs:List (List UInt8)):vO w0 rs 0=w0:=by simp[vO]
theorem Zsx{w0:List UInt8}{rs:List (List UInt8)}{k:Nat}{u:List UInt8}(h:rs[k]?=some u):vO w0 rs (k+1)=(vO w0 rs k++[32])++u:=by unfold vO;rw[AI,h];simp
theorem Zsy(w0:List UInt8)(rs:List (List UInt8)):vO w0 rs rs.length=zO (w0 :: rs):=by unfold vO;rw[Ak,Zdp]
theorem Zsz(w0:List UInt8)(rs:List (List UInt8))(k:Nat):(vO w0 rs k).length<=(zO (w0 :: rs)).length:=by
 rw[Zdp];unfold vO;simp;exact Zir _ k
theorem ZsA(ws:List (List UInt8))(hl:ws.length<=1048576)(hw:(zO ws).length<=140737488355328):Pure prog 97 [L (ws.map bs),T (bs [32])] (T (bs (zO ws))):=by
 match ws,hl,hw with
 | [],_,_ =>
  refine zt func97 ntmps97 results97 λS nx hd=>?_
  refine DQ ?_
  repeat apply za
  refine zb ?_;refine zj (DQ ?_);refine zn DI ?_;refine DQ ?_;exact DR hd
 | [w],_,_ =>
  refine zt func97 ntmps97 results97 λS nx hd=>?_
  refine DQ ?_
  repeat apply za
  refine zb ?_;refine zj (DQ ?_);refine zm DI ?_;refine DQ ?_;refine zn DI ?_;refine DQ ?_;exact DR hd
 | w0 :: v0 :: r0,hl,hw =>
 obtain⟨rs,hrs⟩:∃rs,rs=v0 :: r0:=⟨_,rfl⟩;obtain⟨ws,hws⟩:∃ws,ws=w0 :: rs:=⟨_,rfl⟩;obtain⟨mm,hm⟩:∃mm,ws.length=mm+1:=⟨rs.length,by rw[hws];rfl⟩;have hmm:1<=mm:=by rw[hws,hrs]at hm;simp at hm;omega
 have hrm:rs.length=mm:=by rw[hws]at hm;simpa using hm
 rw[<-hrs,<-hws]at hl hw ⊢;have hjl:=WS ws;rw[hm]at hl hjl;have hs1:(bs [32]).size=1:=rfl;have w1:IntKind.i64.wrap ((ws.length:Int)-1)=(mm:Int):=by rw[AC];omega
 have q0:¬(mm:Int)=0:=DH
 have q0n:¬mm=0:=DH
 have q1:¬IntKind.i64.wrap ((9223372036854775807:Int).tdiv mm)<=1:=by
  rw[BN DH];have h1:(9223372036854775807:Int) / mm<=9223372036854775807:=Int.ediv_le_self _ DH;have h2:2<=(9223372036854775807:Int) / mm:=(Int.le_ediv_iff_mul_le DH).2 DH;rw[AC];omega
 have w2:IntKind.i64.wrap (mm:Int)=mm:=wr _ DH DH;have hnil:¬ws=[]:=by intro h;rw[h]at hm;simp at hm
 clear hrs;refine zt func97 ntmps97 results97 λS nx hd=>?_
 refine DQ ?_
 repeat apply za
 refine zb ?_;refine zj (DQ ?_);refine zm (by simp[hnil]) ?_;refine DQ ?_;refine zm DL ?_;refine zh (DQ ?_)
 repeat apply za
 refine ze [] hs1 ?_;refine zn DI ?_
 repeat apply za
 refine ze [] (yE hs1 w1 q0 q0n q1) ?_;refine zm DI ?_;refine zh (ze [] (zF hs1 w1 w2) ?_)
 repeat apply za
 refine zb ?_;refine zj (zD (λk:Nat=>k<=ws.length) (λk=>[(0,L (ws.map bs)),(1,T (bs [32])),(5,I ((mm+ZF ws k:Nat):Int)),(39,L (ws.map bs)),(40,I ws.length),(41,I k)]) (λ_=>[]) (λk=>ws.length-k) 0 [] DI (by simp[ZF]) DI ?_)
 ·rintro k hk;have hsk:=Zis ws k;refine DQ ?_;refine za (zv rfl (λhc=>?_) (λhc=>?_))
  ·simp at hc;obtain⟨t,tl,b1,b2,b3,f0⟩:=zJ rfl (ws.map bs) k (by simpa using hc);obtain⟨u,hu,rfl⟩:∃u,ws[k]?=some u/\bs u=t:=by rw[Ai]at b1;simpa using b1
   have hsk1:=Zis ws (k+1);have hsum:=Zsv hu;have husz:=wZ u;rw[hsum]at hsk1;generalize ZF ws k=c0 at *;have hkl:k<ws.length:=by simpa using hc
   have hbd:mm+c0+u.length<=140737488355328:=DH
   have v1:IntKind.i64.wrap (9223372036854775807-((mm:Int)+c0))=9223372036854775807-((mm:Int)+c0):=by rw[AC];omega
   have v2:¬(9223372036854775807-((mm:Int)+c0))<u.length:=DH
   have v3:IntKind.i64.wrap ((mm:Int)+c0+u.length)=(mm:Int)+c0+u.length:=by rw[AC];omega
   refine zh (za (zj (za (ze [] (zo f0 hkl) ?_))))
   repeat apply za
   refine ze [] (zF husz v1 v2) ?_;refine zm DI ?_;refine zh (ze [] (zo husz v3) ?_);refine zb ?_;exact zq (k+1) [] hkl DH (by simp[zu k (by omega),hsum];try omega) rfl DI
  ·simp at hc;obtain rfl:k=ws.length:=DH
   refine zx ?_;have hls:ZF ws ws.length=(ws.map List.length).sum:=by unfold ZF;rw[Ak]
   obtain⟨c,hcd⟩:∃c,c=mm+(ws.map List.length).sum:=⟨_,rfl⟩;have hci:((mm:Int)+(ZF ws ws.length:Int))=(c:Int):=by rw[hls,hcd];rfl
   have hc0:0<c:=DH
   have hcn:c<=140737488355328:=DH
   have hgs:=λ(v:Nat) S (h:S nx=.cells v 113 [.sc (.pointer none),.sc (.slice none 0 0)]) (hd:zW (nx+1) S)=>Zsu (S:=S) (id:=nx) (v:=v) (nx:=nx+1) c hc0 hcn h hd
   refine za (ze [] hci ?_);intros;rename_i v;have g1:¬nx+1<=nx:=DH
   have hdd:∀A,zW (nx+1) (ext S nx [A]):=λA=>jF (obs:=[A])
   refine DQ ?_;refine λhsuf=>((hgs v _ (by rw[xQ];rfl) (hdd _)).mono ?_).v
   rintro _ _ ⟨wx,rfl⟩;have e1:∀A B A',((ext S nx [A]).set (nx+1) B).set nx A'=ext S nx [A',B]:=λA B A'=>by
    have:=qG (S:=S) (nx:=nx) (obs:=[A]) B;simp only[Bm,List.singleton_append]at this;rw[this,yc _ DH DI];simp
   refine⟨_,_,e1 _ _ _,zG hsuf ?_⟩;obtain⟨t,tl,b1,b2,b3,f0⟩:=zJ rfl (ws.map bs) 0 DL;obtain rfl:bs w0=t:=by rw[hws]at b1;simpa using b1
   have hwl:0<ws.length:=DH
   have hwa:∀(S:Store) (wx:Nat) (l m:List UInt8),(zO ws).length<=140737488355328->l.length+m.length<=(zO ws).length->S nx=.cells v 113 (Yj nx v (nx+1) wx l.length)->S (nx+1)=.cells wx 5 (l.map U8)->_:=λS wx l m hw hl h1 h2=>Zdn (S:=S) (id:=nx) (v:=v) (ib:=nx+1) (w0:=wx) l m h1 (.inr rfl) h2 DH
   have hcl:∀k,(vO w0 rs k).length<=(zO ws).length:=λk=>by rw[hws];exact Zsz w0 rs k
   have hc0':=Zsw w0 rs;have hcl0:=hcl 0;rw[hc0']at hcl0;refine za (ze [] (zo f0 hwl) ?_);refine λhsuf=>((hwa _ wx [] w0 hw (by simpa using hcl0) (by rw[xQ];rfl) (by rw[zQ];rfl)).mono ?_).v
   rintro _ _ ⟨rfl,rfl⟩;refine⟨_,_,wr2,zG hsuf ?_⟩;have hwl1:1<=ws.length:=hwl;have ht1:ws.length-1=rs.length:=by rw[hws];rfl
   have htl:List.take rs.length (List.flatMap Enc.enc (ws.map bs)).tail=(rs.map bs).flatMap Enc.enc:=by
    have:(List.flatMap Enc.enc (ws.map bs)).tail=(rs.map bs).flatMap Enc.enc:=by rw[hws];rfl
    rw[this];exact Af (by rw[j4];simp[Enc.sz])
   have hlr:(PV.lst rs.length ((rs.map bs).flatMap Enc.enc))=L (rs.map bs):=by unfold L;rw[List.length_map]
   repeat apply za
   refine ze [] (zF hwl1 ht1 htl) ?_;rw[<-hc0'];refine zj (zD (λk:Nat=>k<=rs.length) (λk=>[(1,T (bs [32])),(8,.ptr nx v 0),(63,L (rs.map bs)),(64,I rs.length),(65,I k)]) (λk=>[.cells v 113 (Yj nx v (nx+1) (wx+1+2*k) (vO w0 rs k).length),.cells (wx+1+2*k) 5 ((vO w0 rs k).map U8)]) (λk=>rs.length-k) 0 [] DI (by simp[hlr]) DI ?_);rintro k hk;refine DQ ?_;refine za (zv rfl (λhc=>?_) (λhc=>?_))
   ·simp at hc;obtain⟨t,tl,b1,b2,b3,f0⟩:=zJ rfl (rs.map bs) k (by simpa using hc);obtain⟨u,hu,rfl⟩:∃u,rs[k]?=some u/\bs u=t:=by rw[Ai]at b1;simpa using b1
    have hkl:k<rs.length:=by simpa using hc
    have hcs:=Zsx (w0:=w0) hu;have hk1:=hcl (k+1);rw[hcs]at hk1;simp only[Aq,Bm]at hk1;refine zh (za (zj (za (ze [] (zo f0 hkl) ?_))));refine DQ ?_;refine λhsuf=>((hwa _ _ (vO w0 rs k) [32] hw DL (by rw[xQ];rfl) (by rw[zQ];rfl)).mono ?_).v
    rintro _ _ ⟨rfl,rfl⟩;obtain⟨mid,hmid⟩:∃mid,mid=vO w0 rs k++[32]:=⟨_,rfl⟩;rw[<-hmid]at hcs ⊢;have hml:mid.length=(vO w0 rs k).length+1:=by rw[hmid];simp
    refine⟨_,_,wr2,zG hsuf ?_⟩;refine zb ?_;refine λhsuf=>((hwa _ _ mid u hw (by rw[hml];omega) (by rw[xQ];rfl) (by rw[zQ];rfl)).mono ?_).v
    rintro _ _ ⟨rfl,rfl⟩;rw[<-hcs];refine⟨_,_,wr2,zG hsuf ?_⟩;refine zb ?_;exact zq (k+1) [] hkl DH (by simp[zu k (by omega)];try omega) rfl (by simp only[show wx+1+2*(k+1)=wx+1+2*k+1+1 by omega,AH])
   ·simp at hc;obtain rfl:k=rs.length:=DH
    refine zx ?_;rw[Zsy,<-hws];have hne0:zO ws≠[]:=by intro h;rw[h]at hjl;simp only[Ah]at hjl;omega
    refine DQ ?_;refine λhsuf=>((Zdk (id:=nx) (v:=v) (ib:=nx+1) (w0:=wx+1+2*rs.length) (p:=.ptr nx v 0) (zO ws) (by rw[xQ];rfl) (by rw[zQ];rfl) hne0 hw).mono ?_).v
    rintro _ _ ⟨rfl,rfl⟩;rw[yc _ DH DI];refine⟨_,_,rfl,zG hsuf ?_⟩;exact DR hd
theorem XL(ws:List (List UInt8))(hl:ws.length<=1048576)(hw:(zO ws).length<=1048576):Pure prog 59 [L (ws.map bs)] (T (bs (zO ws++[10]))):=by
 have hj:=ZsA ws hl DH;have hs:=QQ (zO ws) [10] (by simp only[Bm];omega);refine zt func59 ntmps59 results59 λS nx hd=>?_
 refine DQ ?_;refine DQ ?_;refine qm [] hj hs ?_;exact DR hd
open Go Go.Proofs
theorem Yk{z:Int}(h:zP z):(zE z).length<=20:=by
 unfold zP at h;unfold zE;have:=Zax z.toNat 18 DH;omega
abbrev vg:Wd:=[111,117,116,99,111,109,101]
abbrev Zdq:Wd:=[109,97,108,102,111,114,109,101,100]
abbrev ZsB:Wd:=[114,97,110,103,101]
abbrev JD:Wd:=[110,111,110,101]
abbrev ZG:Wd:=[98,111,117,110,100]
abbrev ZH:Wd:=[112,108,97,110]
abbrev ZaN:Wd:=[99,111,115,116]
abbrev ZaO:Wd:=[104,111,108,100,105,110,103]
abbrev vk:Wd:=[100,97,121]
abbrev Zdr:Wd:=[116,111,117,114]
structure Rep where
 out:Int
 bound:Int
 cost:Int
 hold:Int
 days:List Int
 plan:zA
abbrev WT(r:Rep):List PV:=[I r.out,I r.bound,I r.cost,I r.hold,L r.days,L r.plan]
def xM(t:zL):Ln:=Zdr :: zH t.length :: t.flatMap λs=>[zE s.c,zE s.q]
def Yl(d:zk):List Ln:=[vk,zH d.length] :: d.map xM
def uK(p:zA):List Ln:=[ZH,zH p.length] :: p.flatMap Yl
def YY(l:List Int):List Ln:=(List.range l.length).map λi=>[vk,zH i,zE (l.getD i 0)]
def YZ(r:Rep):List Ln :=
 if r.out=1 then [[vg,Zdq]] else if r.out=2 then [[vg,ZsB]]
 else if r.out=3 then [[vg,JD],[ZG,zE r.bound]]
 else if r.out=4 then [vg,ZH] :: [ZG,zE r.bound] :: [ZaN,zE r.cost] :: [ZaO,zE r.hold] :: (YY r.days++uK r.plan)
 else []
theorem ZsC{m r:Nat}{l:List UInt8}(h:zH m=zH r++l):(r<10->zH m=UInt8.ofNat (48+r % 10) :: l)/\(¬r<10->zH m=zH (r / 10)++UInt8.ofNat (48+r % 10) :: l):=by
 constructor
 ·intro hr;rw[h,QF hr,CP hr];rfl
 ·intro hr;rw[h,Jw hr];simp
theorem ZaP{ls:List Ln}{m:Nat}(h:∀l∈ls,(zO l).length+1<=m):(yd ls).length<=m*ls.length:=by
 induction ls with
 | nil=>simp[yd]
 | cons a ls ih =>
  rw[Yb];have h1:=h a DI;have h2:=ih λl hl=>h l (by simp[hl])
  simp only[Aq,Ad,Nat.mul_add,BS];omega
theorem ZsD{l:List Nat}{m:Nat}(h:∀z∈l,z<=m):l.sum<=m*l.length:=by
 induction l with
 | nil=>simp
 | cons a l ih =>
  have h1:=h a DI;have h2:=ih λz hz=>h z (by simp[hz])
  simp only[BM,Ad,Nat.mul_add,BS];omega
theorem XM{ws:Ln}{m:Nat}(h:∀w∈ws,w.length<=m):(zO ws).length<=(m+1)*ws.length:=by
 rw[WS];have:=ZsD (l:=ws.map List.length) (m:=m) λz hz=>by obtain⟨w,hw,rfl⟩:=Al.1 hz;exact h w hw
 rw[List.length_map]at this;rw[Nat.add_mul];omega
theorem Zit(a b:List Ln):yd (a++b)=yd a++yd b:=by simp[yd]
theorem we{n:Nat}(h:n<10000000000000000000):(zH n).length<=20:=by have:=Zax n 19 DH;omega
structure PlanTold (p:zA):Prop where
 n:p.length<=1000
 d:∀d∈p,d.length<=1000
 t:∀d∈p,∀t∈d,t.length<=1000
 s:∀d∈p,∀t∈d,∀s∈t,(0<=s.c/\s.c<=1000000000000000000)/\0<=s.q/\s.q<=1000000000000000000
theorem Ziu(t:zL):(xM t).length=2+2*t.length:=by
 unfold xM;simp only[Ad,List.length_flatMap,Ah];have:(t.map λ_=>0+1+1).sum=2*t.length:=by
  induction t with
  | nil=>rfl
  | cons a t ih=>rw[AA,BM,ih,Ad];omega
 omega
theorem ZsE{t:zL}(hl:t.length<=1000)(h:∀s∈t,(0<=s.c/\s.c<=1000000000000000000)/\0<=s.q/\s.q<=1000000000000000000):∀w∈xM t,w.length<=20:=by
 intro w hw;unfold xM at hw;simp only[As,BG,A7,or_false]at hw;rcases hw with rfl | rfl | ⟨s,hs,rfl | rfl⟩
 ·decide
 ·exact we DH
 ·have:=h s hs;exact Yk (by unfold zP;omega)
 ·have:=h s hs;exact Yk (by unfold zP;omega)
theorem Ziv{t:zL}(hl:t.length<=1000)(h:∀s∈t,(0<=s.c/\s.c<=1000000000000000000)/\0<=s.q/\s.q<=1000000000000000000):(zO (xM t)).length<=42042:=by
 have h1:=XM (ZsE hl h);rw[Ziu]at h1;omega
theorem ZsF{p:zA}(h:PlanTold p){d:zk}(hd:d∈p):∀l∈Yl d,(zO l).length+1<=42043:=by
 intro l hl;unfold Yl at hl;rcases As.1 hl with rfl | hl
 ·have:=we (n:=d.length) (by have:=h.d d hd;omega);have:=XM (ws:=[vk,zH d.length]) (m:=20) (by intro w hw;simp only[As,A7,or_false]at hw;rcases hw with rfl | rfl;decide;exact this);simp at this ⊢;omega
 ·obtain⟨t,ht,rfl⟩:=Al.1 hl;have:=Ziv (h.t d hd t ht) (h.s d hd t ht);omega
theorem ZsG{p:zA}(h:PlanTold p):(uK p).length<=1+1001*p.length:=by
 have:∀q:zA,(∀d∈q,d.length<=1000)->(q.flatMap Yl).length<=1001*q.length:=by
  intro q
  induction q with
  | nil=>intro _;simp
  | cons a q ih =>
   intro h;have h1:=h a DI;have h2:=ih λd hd=>h d (by simp[hd])
   simp only[Az,Aq,Ad,Yl,List.length_map,Nat.mul_add,BS];omega
 have:=this p h.d;unfold uK;rw[Ad];omega
theorem ZsH{p:zA}(h:PlanTold p):∀l∈uK p,(zO l).length+1<=42043:=by
 intro l hl;unfold uK at hl;rcases As.1 hl with rfl | hl
 ·have:=we (n:=p.length) (by have:=h.n;omega);have:=XM (ws:=[ZH,zH p.length]) (m:=20) (by intro w hw;simp only[As,A7,or_false]at hw;rcases hw with rfl | rfl;decide;exact this);simp at this ⊢;omega
 ·obtain⟨d,hd,hl⟩:=BG.1 hl;exact ZsF h hd l hl
theorem Ziw{p:zA}(h:PlanTold p):(yd (uK p)).length<=100000000000:=by
 have h1:=ZaP (ZsH h);have h2:=ZsG h;have h3:=h.n;have:42043*(uK p).length<=42043*1001001:=B8 _ DH;omega
open Go Go.Proofs
theorem ZsI(k:Nat)(u:UInt8)(l:List UInt8):ye (List.replicate (k+1) (U8 0)++l.map U8) k [U8 u]=List.replicate k (U8 0)++(u :: l).map U8:=by
 have e:List.replicate (k+1) (U8 0)++l.map U8=List.replicate k (U8 0)++(U8 0 :: l.map U8):=by rw[CV];simp
 unfold ye;rw[e,Dv DI,Cl,Ba DI];simp
theorem JE(m:Nat)(hm:m<9223372036854775808):Pure prog 62 [I m] (T (bs (zH m))):=by
 have hlen:=Zax m 18 DH;have c1:IntKind.u64.wrap (m:Int)=m:=by rw[IntWalk.u64_in _ DH]
 have c2:¬(m:Int)<0:=DH
 refine zt func62 ntmps62 results62 λS nx hd=>?_
 refine DQ ?_;refine DQ ?_;intro v0;refine za (ze [] c1 ?_)
 repeat apply za
 refine zb ?_;refine zm DI ?_;refine zh ?_;have hz0:yS 20 (.int .u8 0)=List.replicate 20 (U8 0)++([]:List UInt8).map U8:=rfl;refine za (qS (nx:=nx) (σ:=List UInt8) (λl=>zH m=l) (λl=>[(0,I m),(3,.ptr nx v0 0),(5,I ((20-l.length:Nat):Int))]) (λ_=>S) (λl=>[.cells v0 154 (List.replicate (20-l.length) (U8 0)++l.map U8)]) ?_ ?_)
 ·refine zj (zD (λs:Nat × List UInt8=>zH m=zH s.1++s.2/\s.1<=m) (λ(r,l)=>[(0,I m),(3,.ptr nx v0 0),(4,U r),(5,I ((20-l.length:Nat):Int))]) (λ(r,l)=>[.cells v0 154 (List.replicate (20-l.length) (U8 0)++l.map U8)]) (λs=>s.1) (m,[]) [] DI DI (by simp[hz0]) ?_);rintro⟨r,l⟩ ⟨hr,hrm⟩;simp only at hr hrm ⊢;have hrl:(zH r).length+l.length<=19:=by rw[hr,Aq]at hlen;exact hlen
  have hr1:1<=(zH r).length:=BI.2 (Zaw r);obtain⟨s1,s2⟩:=ZsC hr;have hu:=Ya (k:=r % 10) DH;obtain⟨k,hk⟩:∃k,20-l.length=k+1:=⟨19-l.length,by omega⟩;have hset:=ZsI k (UInt8.ofNat (48+r % 10)) l;generalize UInt8.ofNat (48+r % 10)=u at *;have e1:((r:Int)).tmod 10=((r % 10:Nat):Int):=by rw[Be DH];omega
  have e2:((r:Int)).tdiv 10=((r / 10:Nat):Int):=by rw[BN DH];omega
  have hd10:r / 10<=r/\(r / 10=0<->r<10)/\(¬r<10->r / 10<r):=DH
  have hm10:r % 10<10:=DH
  generalize r % 10=d at *;generalize r / 10=q at *;have w0:IntKind.i64.wrap (((k+1:Nat):Int)-1)=(k:Int):=by rw[AC];omega
  have w1:IntKind.u64.wrap (48+(d:Int))=(u.toNat:Int):=by rw[IntWalk.u64_in _ DH,hu];rfl
  have w2:=Zdl u.toNat DH;have w3:IntKind.u64.wrap (q:Int)=q:=by rw[IntWalk.u64_in _ DH]
  have hk20:k<20:=DH
  have w4:IntKind.i64.wrap (k:Int)=k:=wr _ DH DH;have w5:(k:Int)<20:=DH
  rw[hk];refine zj (za (ze [] (zo w0 w4) ?_));refine za (ze [] (yl e1 w1 w2 hk20 w4 (zo w5 hset)) ?_);refine za (ze [] (zo e2 w3) ?_);refine DQ ?_;have hkl:20-(u :: l).length=k:=DL
  have hkl2:19-l.length=k:=DH
  by_cases h10:r<10
  ·have hq0:q=0:=hd10.2.1.2 h10;refine zn (by simp[hq0]) ?_;exact zx (z8 (u :: l) [] (s1 h10) (by simp[hkl2]) rfl (by simp only[hkl,AH,AA]))
  ·have hq0:¬q=0:=λh=>h10 (hd10.2.1.1 h)
   refine zm (by simp[hq0]) ?_;exact zh (zq (q,u :: l) [] ⟨s2 h10,by omega⟩ DH (by simp[hkl2]) rfl (by simp only[hkl,AH,AA]))
 ·rintro l hl;rw[hl]at hlen ⊢;have hl1:1<=l.length:=by rw[<-hl];exact BI.2 (Zaw m)
  clear hl;obtain⟨k,hk⟩:∃k,20-l.length=k:=⟨_,rfl⟩;rw[hk]
  repeat apply za
  refine zb ?_;refine zm DI ?_;refine zh (DQ ?_);refine λhsuf=>Zsj (k:=k) (m:=20) (id:=nx) (ver:=v0) rfl underlying154 DI rfl rfl DH DH (by rw[xQ];rfl) DH ?_
  refine⟨_,_,rfl,zG hsuf ?_⟩;refine λhsuf=>Zin (e:=5) (l:=l) (off:=k) (id:=nx) (ver:=v0) rfl DI DI DI DL (by rw[xQ];rfl) (λi u h=>by rw[Aj DI,BW,AG,Ai,h];rfl) DH ?_
  refine⟨_,_,rfl,zG hsuf ?_⟩;exact DR hd
theorem ZsJ(w:Wd)(hw:w.length<=20)(m:Nat)(hm:m<9223372036854775808):Pure prog 60 [T (bs w),I m] (T (bs (zO [w,zH m]++[10]))):=by
 have hde:=JE m hm;have hq:=we (n:=m) DH;have hl:Pure prog 59 [.lst 2 [T (bs w),T (bs (zH m))]] (T (bs (zO [w,zH m]++[10]))):=XL [w,zH m] DI (by simp[zO];omega);generalize zO [w,zH m]++[10]=r at *;generalize zH m=dm at *;refine zt func60 ntmps60 results60 λS nx hd=>?_
 refine DQ ?_;refine DQ ?_;refine zr hde ?_;refine zr hl ?_;exact DR hd
open Go Go.Proofs
theorem Zix(l:List UInt8)(k:Nat):(bs l)[k]?=l[k]?:=by
 by_cases h:k<l.length
 ·rw[Ae h,getElem?_pos (bs l) k (by rw[wZ];exact h)];rfl
 ·rw[An DH,getElem?_neg (bs l) k (by rw[wZ];omega)]
theorem Zds{a b:ByteArray}(h:a.toList=b.toList):a=b:=by
 rw[Lib.toList_data,Lib.toList_data]at h;cases a;cases b;simp at h;congr
theorem Zdt{a b:ByteArray}(h:a≠b):qV .eql a b=some (.bool false):=by
 have h2:¬a.toList=b.toList:=λe=>h (Zds e)
 simp[qV,h2]
theorem Ziy{w:List UInt8}:bs w=bs []<->w=[]:=by
 constructor
 ·intro h;have:=congrArg ByteArray.size h;rw[wZ,wZ]at this;exact Au (by simpa using this)
 ·rintro rfl;rfl
theorem ZsK(w:List UInt8)(hl:w.length<=1099511627776):Pure prog 138 [T (bs w)] (B (Zz w)):=by
 have hsz:=wZ w;refine zt func138 ntmps138 results138 λS nx hd=>?_
 refine DQ ?_
 repeat apply za
 refine ze [] hsz ?_;refine zj (zD (λk:Nat=>k<=w.length/\∀c∈w.take k,33<=c.toNat/\c.toNat<=126) (λk=>[(0,T (bs w)),(5,I w.length),(6,I k)]) (λ_=>[]) (λk=>w.length-k) 0 [] DI DI DI ?_);rintro k ⟨hk,ha⟩;refine DQ ?_;refine za (zv rfl (λhc=>?_) (λhc=>?_))
 ·simp at hc;obtain⟨c,hc1⟩:∃c,w[k]?=some c:=⟨_,Ae hc⟩;have hg:=(Zix w k).trans hc1;refine zh (za (zj (DQ ?_)))
  by_cases h3:c.toNat<33
  ·have h3':(c.toNat:Int)<33:=DH
   refine za (ze [(4,13)] (zV hg h3 h3' zN) ?_);refine zn (by simp[*]) ?_;refine DQ ?_;exact zg (zi hd DJ (by rw[Zhy hc1 (by omega)];rfl))
  have h3':¬(c.toNat:Int)<33:=DH
  by_cases h4:126<c.toNat
  ·have h4':126<(c.toNat:Int):=DH
   refine za (ze [(4,13)] (yE hg h3 h4 h3' h4') ?_);refine zn (by simp[*]) ?_;refine DQ ?_;exact zg (zi hd DJ (by rw[Zhy hc1 (by omega)];rfl))
  have h4':¬126<(c.toNat:Int):=DH
  refine za (ze [(4,13)] (yE hg h3 h4 h3' h4') ?_);refine zm (by simp[*]) ?_;refine zh (zb ?_);have hnx:w.take (k+1)=w.take k++[c]:=by rw[AI,hc1];rfl
  exact zq (k+1) [] ⟨hc,by rw[hnx];intro d hd;rw[AB,A3]at hd;exact hd.elim (ha d) (λe=>by subst e;omega)⟩ DH (by simp[zu k (by omega)]) rfl DI
 ·simp at hc;obtain rfl:k=w.length:=DH
  rw[Ak]at ha;refine zx (Wi (λ_=>.inl rfl) ?_)
  by_cases h0:w=[]
  ·subst h0;refine za (jP [] DM DM λK Gc Gh hK hGc hGh X hX0 hX=>?_);simp -implicitDefEqProofs [hX0,hX,qV]
   try clear hX0 hX X
   refine hK _ _ _ ?_;clear hK hGc hGh;clear K Gc Gh;exact DR hd
  ·have hne:bs w≠bs []:=λe=>h0 (Ziy.1 e)
   have hq:qV .neq (bs w) ⟨#[]⟩=some (.bool true):=by
    have h2:¬(bs w).toList=(bs []).toList:=λe=>hne (Zds e)
    have h3:((bs w).toList == (bs []).toList)=false:=by simpa using h2
    show some (Value.bool (!((bs w).toList == (bs []).toList)))=_
    rw[h3];rfl
   have hw:Zz w=true:=(Zay w).2 ⟨h0,ha⟩;refine za (ze [] hq ?_);exact zg (zi hd DJ (by simp[zp,hw]))
def XN(o:Option Nat):PV:=match o with
 | none=>.tup [I 0,B false]
 | some n=>.tup [I n,B true]
theorem Ziz(w:List UInt8)(hl:w.length<=1099511627776):Pure prog 109 [T (bs w)] (XN (jV w)):=by
 rcases w with _ | ⟨c0,wt⟩
 ·refine zt func109 ntmps109 results109 λS nx hd=>?_
  refine DQ ?_
  repeat apply za
  refine jP [(2,8),(6,12)] DM DM λK Gc Gh hK hGc hGh X hX0 hX=>?_
  simp -implicitDefEqProofs [hX0,hX,qV,undef]
  try clear hX0 hX X
  refine hK _ _ _ ?_;clear hK hGc hGh;clear K Gc Gh;refine zn DI ?_;refine DQ ?_;exact DR hd
 obtain⟨w,hw⟩:∃w,w=c0 :: wt:=⟨_,rfl⟩;have hc0:w[0]?=some c0:=by rw[hw];rfl
 have hne:w≠[]:=by rw[hw];simp
 have hod:Jx w=(decide (c0.toNat=48) && decide (1<w.length)):=by rw[hw];cases wt<;>simp[Jx]
 rw[<-hw]at hl ⊢;clear hw wt;obtain⟨B,hB⟩:∃B,B=bs w:=⟨_,rfl⟩;have hsz:B.size=w.length:=by rw[hB,wZ]
 have hg:∀k,B[k]?=w[k]?:=λk=>by rw[hB];exact Zix w k
 have hg0:=(hg 0).trans hc0;have he:qV .eql B ⟨#[]⟩=some (.bool false):=by
  have:B≠⟨#[]⟩:=by intro h;have:=congrArg ByteArray.size h;rw[hsz]at this;exact hne (Au (by simpa[ByteArray.size] using this))
  exact Zdt this
 rw[<-hB]
 by_cases hodd:Jx w=true
 ·have hr:jV w=none:=by unfold jV;rw[if_pos hodd]
  rw[hr];rw[hod]at hodd;simp only[Aw,decide_eq_true_eq]at hodd;obtain⟨q1,q2⟩:=hodd;have h3:(c0.toNat:Int)=48:=DH
  refine zt func109 ntmps109 results109 λS nx hd=>?_
  refine DQ ?_
  repeat apply za
  refine ze [(2,8),(6,12)] (yl hsz hg0 he h3 q1 (zo q2 zN)) ?_;refine zn DL ?_;refine DQ ?_;exact DR hd
 have hcond:(c0.toNat=48/\¬1<w.length)\/¬c0.toNat=48:=by
  rw[hod]at hodd;simp only[Aw,decide_eq_true_eq,not_and]at hodd
  by_cases h1:c0.toNat=48
  ·exact .inl ⟨h1,hodd h1⟩
  ·exact .inr h1
 have hnum:jV w=if YP w=true then some (wF w) else none:=by unfold jV;rw[if_neg hodd]
 rw[hnum];clear hnum hodd hod;refine zt func109 ntmps109 results109 λS nx hd=>?_
 refine DQ ?_;rcases hcond with ⟨h1,h2⟩ | h1
 have h3:(c0.toNat:Int)=48:=DH
 repeat apply za
 refine ze [(2,8),(6,12)] (yl hsz hg0 he h3 h2 zN) ?_;refine zm DL ?_
 rotate_left
 have h3:¬(c0.toNat:Int)=48:=DH
 repeat apply za
 refine ze [(2,8),(6,12)] (yE hsz hg0 he h3 zN) ?_;refine zm (by simp[*]) ?_
 all_goals
  clear h1 h3 he hg0 hc0;refine zh (DQ ?_)
  repeat apply za
  refine ze [] hsz ?_;refine zj (zD (λk:Nat=>k<=w.length/\∀c∈w.take k,48<=c.toNat/\c.toNat<=57) (λk=>[(0,T B),(4,I (wF (w.take k))),(19,I w.length),(20,I k)]) (λ_=>[]) (λk=>w.length-k) 0 [] DI (by simp[wF]) DI ?_);rintro k ⟨hk,ha⟩;refine DQ ?_;refine za (zv rfl (λhc=>?_) (λhc=>?_))
  ·simp at hc;obtain⟨c,hc1⟩:∃c,w[k]?=some c:=⟨_,Ae hc⟩;have hgk:=(hg k).trans hc1;have hs57:=ZhC (w.take k) λc hc=>(ha c hc).2
   refine zh (za (zj (DQ ?_)))
   by_cases h3:c.toNat<48
   ·have h3':(c.toNat:Int)<48:=DH
    repeat apply za
    refine ze [(4,27)] (zV hgk h3 h3' zN) ?_;refine zn (by simp[*]) ?_;refine DQ ?_;exact zg (zi hd DJ (by rw[ZhB hc1 (by omega)];rfl))
   have h3':¬(c.toNat:Int)<48:=DH
   by_cases h4:57<c.toNat
   ·have h4':57<(c.toNat:Int):=DH
    repeat apply za
    refine ze [(4,27)] (yE hgk h3 h3' h4 h4') ?_;refine zn (by simp[*]) ?_;refine DQ ?_;exact zg (zi hd DJ (by rw[ZhB hc1 (by omega)];rfl))
   have h4':¬57<(c.toNat:Int):=DH
   repeat apply za
   refine ze [(4,27)] (yE hgk h3 h3' h4 h4') ?_;refine zm (by simp[*]) ?_;refine zh ?_;have htk:w.take (k+1)=w.take k++[c]:=by rw[AI,hc1];rfl
   have hnx:wF (w.take (k+1))=if 100000000000000000<=wF (w.take k) then 1000000000000000000 else 10*wF (w.take k)+(c.toNat-48):=by rw[htk];exact ZcX _ _
   have ha':∀d∈w.take (k+1),48<=d.toNat/\d.toNat<=57:=by rw[htk];intro d hd;rw[AB,A3]at hd;exact hd.elim (ha d) (λe=>by subst e;omega)
   obtain⟨d1,hd1⟩:∃d1,wF (w.take (k+1))=d1:=⟨_,rfl⟩;rw[hd1]at hnx;generalize wF (w.take k)=d0 at *
   by_cases w5:100000000000000000<=d0
   ·rw[if_pos w5]at hnx;have w5':100000000000000000<=(d0:Int):=DH
    refine za (ze [] (zo w5 w5') ?_);refine zn (by simp[*]) ?_;refine zb ?_;refine zb ?_;exact zq (k+1) [] ⟨hc,ha'⟩ DH (by simp[zu k (by omega),hd1,hnx]) rfl DI
   ·rw[if_neg w5]at hnx;have w5':¬100000000000000000<=(d0:Int):=DH
    have w1:W ((d0:Int)*10)=(d0:Int)*10:=by simp only[W,AC];omega
    have w2:IntKind.u8.wrap ((c.toNat:Int)-48)=(c.toNat:Int)-48:=by
     have e:IntKind.u8.wrap ((c.toNat:Int)-48)=((c.toNat:Int)-48) % 256:=by simp[IntKind.wrap,IntKind.bits,IntKind.signed]
     rw[e];omega
    have w3:W ((c.toNat:Int)-48)=(c.toNat:Int)-48:=by simp only[W,AC];omega
    have w4:W ((d0:Int)*10+((c.toNat:Int)-48))=d1:=by simp only[W,AC];omega
    refine za (ze [] (zo w5 w5') ?_);refine zm (by simp[*]) ?_;refine ze [] (yE hgk w1 w2 w3 w4) ?_;refine zb ?_;exact zq (k+1) [] ⟨hc,ha'⟩ DH (by simp[zu k (by omega),hd1]) rfl DI
  ·simp at hc;obtain rfl:k=w.length:=DH
   refine zx (Wi (λ_=>.inl rfl) ?_);rw[Ak]at ha ⊢;have hdg:YP w=true:=by unfold YP;rw[Ay];intro c hc;simpa using ha c hc
   refine DQ ?_;exact zg (zi hd DJ (by simp[zp,hdg,XN]))
end Go.Proofs.YtcocagkbfpgmiaaGreatDoor.Pv
