/- Part of a proof, packed. -/
import Derived.Test.YtdjbbndbalhekaaGreatDoorG6
open Go.Proofs.Tryz
set_option linter.defProp false
set_option maxRecDepth 100000
set_option maxHeartbeats 3200000
namespace Go.Proofs.YtdjbbndbalhekaaGreatDoor.Pv
open Go Go.Proofs Hp
def bt(b:Wd)(h:b.length<=1048576):PP 50 [T (bs b)] (.tup [I (zT b),B (yF b).isSome]):=by
 have:=Zzp b EA;unfold zT;cases a:yF b with
 |none=>rw[a]at this;exact this
 |some n=>rw[a]at this;exact this
def ZzT{l:Ln}{k:Nat}{w:Wd}(h:l[k]?=some w)(a:(yF w).isSome=false):jg l=none:=ET h (by simpa using a)
theorem HK(p:Nat->Bool):∀n:Nat,∃i,i<=n/\(∀k,k<i->p k=true)/\(i<n->p i=false)
 |0=>⟨0,Af _,λk h=>absurd h EA,λh=>absurd h EA⟩
 |n+1=>by
  obtain⟨i,h1,h2,h3⟩:=HK p n;by_cases h:i<n;exact⟨i,by omega,h2,λ_=>h3 h⟩;obtain rfl:i=n:=EA;cases q:p i with
  |false=>exact⟨i,by omega,h2,λ_=>q⟩
  |true=>exact⟨i+1,Af _,λk c=>by obtain a|a:=Bo k i;exact h2 k a;obtain rfl:k=i:=EA;exact q,λb=>absurd b EA⟩
def ZzU(l:Ln)(hl:l.length<=1048576/\∀w∈l,w.length<=1048576):∃t,PP 51 [L (l.map bs)] (.tup [.agg [L t],B (jB l).isSome])/\∀t',jB l=some t'->t=t':=by
 have b:jB l=none->(∃t:zM,PP 51 [L (l.map bs)] (.tup [.agg [L t],B false]))->∃t,PP 51 [L (l.map bs)] (.tup [.agg [L t],B (jB l).isSome])/\∀t',jB l=some t'->t=t':=by rintro h ⟨t,q⟩;exact⟨t,by rw[h];exact q,λt' e=>by rw[h]at e;cases e⟩
 match l,hl,b with
 |[],_,b =>
 refine b rfl ⟨[],?_⟩;refine zt func51 ntmps51 results51 λS nx f=>?_;refine EK ?_;intro v0;refine EK ?_;intro v1;repeat apply za
 refine ze [(3,15)] zE ?_;refine aD ?_;refine EK ?_;refine yn 0 0 rfl rfl ?_;exact EL f
 |[w],_,b =>
 refine b (by show (if w=wB then _ else none)=none;split<;>rfl) ⟨[],?_⟩;refine zt func51 ntmps51 results51 λS nx f=>?_;refine EK ?_;intro v0;refine EK ?_;intro v1;repeat apply za
 refine ze [(3,15)] zE ?_;refine aD ?_;refine EK ?_;refine yn 0 0 rfl rfl ?_;exact EL f
 |w::a::ws,hl,b =>
 have o:(0:Int)<(ws.length:Int)+1+1:=EA;have a0:(1:Int)<(ws.length:Int)+1+1:=EA;have p:¬(ws.length:Int)+1+1<2:=EA;have d7:=hl.1;simp only[Ab]at d7;by_cases ha:w=wB
 .subst ha;have k1:qD .neq (bs wB) ⟨#[116,111,117,114]⟩=some (.bool false):=Xe _;have c:=bt a (hl.2 a EB);have e8:=lM a;have c7:zT a<=1000000000000000000:=by
   unfold zT;cases e:yF a with
   |none=>simp
   |some n=>have:=J9 e;simp;omega
  cases hz:(yF a).isSome with
  |false =>
  refine b (by simp[jB,ZzT (l:=a::ws) (k:=0) rfl hz]) ⟨[],?_⟩;rw[hz]at c;refine zt func51 ntmps51 results51 λS nx f=>?_;refine EK ?_;intro v0;refine EK ?_;intro v1;repeat apply za
  refine ze [(3,15)] (zD o p k1) ?_;refine aC (aF [] a0 ?_);refine zq c ?_;repeat apply za
  refine ze [(2,31),(8,37)] zE ?_;refine aD ?_;refine EK ?_;refine yn 0 0 rfl rfl ?_;exact EL f
  |true =>
  rw[hz]at c;have w1:IntKind.i64.wrap (2*zT a)=2*zT a:=wr _ EA EA;have w2:IntKind.i64.wrap (2*zT a+2)=2*zT a+2:=wr _ EA EA;have a2:jB (wB::a::ws)=if (ws.all λw=>(yF w).isSome)=true/\(ws.length:Int)=2*zT a then some (vG (ws.map zT)) else none:=by unfold jB jg;simp only[if_true,CZ,hz,CE,Ap];by_cases h1:(ws.all λw=>(yF w).isSome)=true;simp[h1];simp[h1]
  by_cases j:(ws.length:Int)=2*zT a;obtain⟨n,hn⟩:∃n:Nat,zT a=n:=⟨(zT a).toNat,by omega⟩;rw[hn]at c w1 w2 a2 j c7;have c8:ws.length=2*n:=EA;obtain⟨us,a6⟩:∃us,us=(wB::a::ws).map bs:=⟨_,rfl⟩;have e5:us.length=2*n+2:=by rw[a6];simp;omega
  have d0:∀k u,ws[k]?=some u->us[k+2]?=some (bs u):=λk u h=>by rw[a6];simp[h]
  obtain⟨ps,a7⟩:∃ps,ps=vG (ws.map zT):=⟨_,rfl⟩;have d1:(ws.map zT).length=2*n:=by simpa using c8
  have d8:ps.length=n:=by rw[a7];exact Hm n d1
  have d9:∀k u v,k<n->ws[2*k]?=some u->ws[2*k+1]?=some v->ps[k]?=some ⟨zT u,zT v⟩:=λk u v hk h1 h2=>by rw[a7,Hn k d1 hk,List.getD_eq_getElem?_getD,List.getD_eq_getElem?_getD,Ai,Ai,h1,h2];rfl
  obtain⟨i0,e6,r,a4⟩:=HK (λk=>(yF (ws.getD (2*k) [])).isSome&&(yF (ws.getD (2*k+1) [])).isSome) n;have d:∀k u,ws[k]?=some u->ws.getD k []=u:=λk u h=>by rw[List.getD_eq_getElem?_getD,h];rfl
  have a8:(jB (wB::a::ws)).isSome=decide (i0=n)/\∀t',jB (wB::a::ws)=some t'->ps.take i0=t':=by
   rw[a2];by_cases d2:i0=n;subst d2;have d3:(ws.all λw=>(yF w).isSome)=true:=by rw[Ay];intro u hu;obtain⟨k,hk,e⟩:=List.mem_iff_getElem.1 hu;have h1:=r (k/2) EA;rw[Aw]at h1;have e':ws.getD k []=u:=d k u (by rw[Ac hk,e]);obtain q|q:=Nat.mod_two_eq_zero_or_one k;rw[show 2*(k/2)=k by omega]at h1;rw[e']at h1;exact h1.1;rw[show 2*(k/2)+1=k by omega]at h1;rw[e']at h1;exact h1.2
   rw[if_pos ⟨d3,j⟩];exact⟨by simp,λt' e=>by rw[<-Option.some.inj e,<-a7];exact Ae EA⟩;have hb:=a4 EA;have a9:¬(ws.all λw=>(yF w).isSome)=true:=λq=>by have g:=λk (hk:k<ws.length)=>Ay.1 q _ (AZ hk);have g1:=g (2*i0) EA;have g2:=g (2*i0+1) EA;rw[d _ _ (Ac (show 2*i0<ws.length by omega)),d _ _ (Ac (show 2*i0+1<ws.length by omega)),g1,g2]at hb;cases hb
   rw[if_neg (λq=>a9 q.1)];exact⟨by simp[d2],λt' e=>by cases e⟩
  refine⟨ps.take i0,?_,a8.2⟩;rw[a8.1];have b7:=eq_true (show (ws.length:Int)+1+1=2*n+2 by omega);have b8:=eq_true j;have c6:=eq_true c8;have e0:¬(ws.length:Int)+1+1<n:=EA;have e7:n<=1048576:=EA;clear a8 a2 b;refine zt func51 ntmps51 results51 λS nx f=>?_;refine EK ?_;intro v0;refine EK ?_;intro v1;repeat apply za
  refine ze [(3,15)] (zD o p k1) ?_;refine aC (aF [] a0 ?_);refine zq c ?_;repeat apply za
  refine ze [(2,31),(8,37)] (zU e0 w1 w2 b7 b8 c6) ?_;refine aC ?_;repeat apply za
  refine zb ?_;refine qy 1 0 101 2 rfl rfl λv2=>?_;refine zj (zC (λs:Nat × Nat=>s.1<=i0) (λ(i,w)=>[(0,L us),(2,.ptr nx v0 0),(4,.ptr (nx+1) v1 0),(5,I n),(7,I i)]) (λ(i,w)=>[.cells v0 99 [yE],.cells v1 99 [.sl (nx+2) w 2 0 i],.cells w 101 ((ps.take i).flatMap Enc.enc)]) (λs=>n-s.1) (0,v2) [] EB (by simp[a6]) EB ?_);rintro⟨i,w⟩ e1;simp only at e1 ⊢;repeat apply za
  refine zb ?_;refine zv rfl (λhc=>?_) (λhc=>?_)
  .simp at hc;obtain⟨u,hu⟩:∃u,ws[2*i]?=some u:=⟨_,Ac EA⟩;obtain⟨v,hv⟩:∃v,ws[2*i+1]?=some v:=⟨_,Ac EA⟩;obtain⟨x,tl,a1,-,-,f0⟩:=zF rfl us (2*i+2) EA;obtain⟨y,e9,b1,-,-,f1⟩:=zF rfl us (2*i+3) EA;obtain rfl:x=bs u:=by rw[d0 _ _ hu]at a1;exact(Option.some.inj a1).symm
   obtain rfl:y=bs v:=by rw[d0 _ _ hv]at b1;exact(Option.some.inj b1).symm
   have m:=bt u (hl.2 u (by simp[Aa hu]));have z:=bt v (hl.2 v (by simp[Aa hv]));have u1:IntKind.i64.wrap (2*(i:Int))=2*(i:Int):=wr _ EA EA;have u2:IntKind.i64.wrap (2+2*(i:Int))=2+2*(i:Int):=wr _ EA EA;have u3:IntKind.i64.wrap (3+2*(i:Int))=3+2*(i:Int):=wr _ EA EA;have t2:(2+2*(i:Int)).toNat=2*i+2:=EA;have t3:(3+2*(i:Int)).toNat=2*i+3:=EA;have p2:(0:Int)<=2+2*(i:Int):=EA;have p3:(0:Int)<=3+2*(i:Int):=EA;have l2:2+2*(i:Int)<us.length:=EA;have l3:3+2*(i:Int)<us.length:=EA;have m2:2*i+2<us.length:=EA;have m3:2*i+3<us.length:=EA;refine zh (aA ?_);by_cases d4:i<i0;have hg:=r i d4;rw[d _ _ hu,d _ _ hv,Aw]at hg;rw[hg.1]at m;rw[hg.2]at z;have hs:=d9 i u v hc hu hv;have e2:(ps.take (i+1)).flatMap Enc.enc=(ps.take i).flatMap Enc.enc++[I (zT u),I (zT v)]:=by rw[AE,hs,Ar];rfl
   have e3:((ps.take i).flatMap Enc.enc:List PV).length=i*2:=by rw[Qa,Az,d8];omega
   have d5:List.take (i*2) ((ps.take i).flatMap Enc.enc)=((ps.take i).flatMap Enc.enc:List PV):=Ae (by rw[e3];exact Af _);refine aF [] (zU u1 u2 t2 p2 l2 (zn m2 f0)) ?_;refine zq m ?_;refine aF [] (zU u1 u3 t3 p3 l3 (zn m3 f1)) ?_;refine zq z ?_;repeat apply za
   refine ze [(2,73)] trivial ?_;refine aC (ze [] d5 ?_);refine⟨by omega,?_⟩;refine zb ?_;exact zr (i+1,w+1) [] d4 EA (by simp[zu i EA]) rfl (by simp only[e2,AA]);obtain rfl:i=i0:=EA;have hb:=a4 hc;rw[d _ _ hu,d _ _ hv]at hb;have d6:decide (i=n)=false:=EF;have a3:min i ps.length=i:=EA;cases q1:(yF u).isSome with
   |false =>
   rw[q1]at m;refine aF [] (zU u1 u2 t2 p2 l2 (zn m2 f0)) ?_;refine zq m ?_;refine aF [] (zU u1 u3 t3 p3 l3 (zn m3 f1)) ?_;refine zq z ?_;repeat apply za
   refine ze [(2,73)] zE ?_;refine aD ?_;refine zY 2 rfl ?_;refine EK ?_;exact zg (zi f EC (by simp[zp,a3,d6]))
   |true =>
   rw[q1]at hb m;have q2:(yF v).isSome=false:=hb;rw[q2]at z;refine aF [] (zU u1 u2 t2 p2 l2 (zn m2 f0)) ?_;refine zq m ?_;refine aF [] (zU u1 u3 t3 p3 l3 (zn m3 f1)) ?_;refine zq z ?_;repeat apply za
   refine ze [(2,73)] trivial ?_;refine aD ?_;refine zY 2 rfl ?_;refine EK ?_;exact zg (zi f EC (by simp[zp,a3,d6]))
  simp at hc;obtain rfl:i=i0:=EA;obtain rfl:i=n:=EA;have a3:min i ps.length=i:=EA;refine zx (zY 2 rfl ?_);refine EK ?_;exact zg (zi f EC (by simp[zp,a3]));have e4:¬(ws.length:Int)+1+1=2*zT a+2:=EA;refine b (by rw[a2,if_neg (λq=>j q.2)]) ⟨[],?_⟩;by_cases a5:(ws.length:Int)+1+1<zT a;refine zt func51 ntmps51 results51 λS nx f=>?_;refine EK ?_;intro v0;refine EK ?_;intro v1;repeat apply za
  refine ze [(3,15)] (zD o p k1) ?_;refine aC (aF [] a0 ?_);refine zq c ?_;repeat apply za
  refine ze [(2,31),(8,37)] (zn a5 zE) ?_;refine aD ?_;refine EK ?_;refine yn 0 0 rfl rfl ?_;exact EL f;refine zt func51 ntmps51 results51 λS nx f=>?_;refine EK ?_;intro v0;refine EK ?_;intro v1;repeat apply za
  refine ze [(3,15)] (zD o p k1) ?_;refine aC (aF [] a0 ?_);refine zq c ?_;repeat apply za
  refine ze [(2,31),(8,37)] (zR a5 w1 w2 e4) ?_;refine aD ?_;refine EK ?_;refine yn 0 0 rfl rfl ?_;exact EL f
 have k1:qD .neq (bs w) ⟨#[116,111,117,114]⟩=some (.bool true):=Xf (Wm ha);refine b (by simp[jB,ha]) ⟨[],?_⟩;refine zt func51 ntmps51 results51 λS nx f=>?_;refine EK ?_;intro v0;refine EK ?_;intro v1;repeat apply za
 refine ze [(3,15)] (zD o p k1) ?_;refine aD ?_;refine EK ?_;refine yn 0 0 rfl rfl ?_;exact EL f
def ug:List Ln->zy × Bool
 |[]=>([],false)
 |l::r=>match wD ji l with
  |none=>([],false)
  |some n=>match qr n r with
   |none=>([],false)
   |some q=>(q.2,decide (q.1=[]))
def ZzV(ls:List Ln):xL ls=if (ug ls).2=true then some (ug ls).1 else none:=by
 cases ls with
 |nil=>rfl
 |cons l r =>
 obtain h|⟨n,h⟩:=DK (wD ji l);simp[xL,ug,h];obtain h2|⟨⟨a,b⟩,h2⟩:=DK (qr n r);simp[xL,ug,h,h2];cases a<;>simp[xL,ug,h,h2]
variable {n d:Nat}{r q:List Ln}
def VA{m:Nat}{f:List Ln × zy->List Ln × zy}(h:qr n r=(qr m q).map f)(hm:m=d+1)(a:xY q=none):qr n r=none:=by rw[h,hm];simp[qr,a]
def ZzW{m:Nat}{a:List Ln}{p t}(h:qr n r=(qr m q).map λx=>(x.1,p++x.2))(hm:m=d+1)(b:xY q=some (a,t)):qr n r=(qr d a).map λx=>(x.1,(p++[t])++x.2):=by rw[h,hm];simp[qr,b,CP,Function.comp_def]
def ZzX{m:Nat}{l:Ln}{f:List Ln × zo->List Ln × zo}(h:qe n r=(qe m (l::q)).map f)(hm:m=d+1)(a:jB l=none):qe n r=none:=by rw[h,hm];simp[qe,a]
def ZzY{m:Nat}{l:Ln}{p:zo}{t:zM}(h:qe n r=(qe m (l::q)).map λx=>(x.1,p++x.2))(hm:m=d+1)(a:jB l=some t):qe n r=(qe d q).map λx=>(x.1,(p++[t])++x.2):=by rw[h,hm];simp[qe,a,CP,Function.comp_def]
theorem ZzZ(t:List UInt8)(hl:t.length<=1048576):PP 13 [T (bs t)] (match y9 t with
  |none=>.tup [.agg [L ([]:zy)],B false]
  |some ls=>.tup [.agg [L (ug ls).1],B (ug ls).2]):=by
 have f:=ZzK t hl;refine zt func13 ntmps13 results13 λS nx hd=>?_;refine EK ?_;intro v0;refine EK ?_;intro v1 v2;cases hz:y9 t with
 |none =>
 rw[hz]at f;simp only[Yo]at f;refine EK ?_;refine zq f ?_;repeat apply za
 refine ze [(2,25),(7,30),(14,37)] zE ?_;refine aD ?_;refine EK ?_;refine yn 0 0 rfl rfl ?_;exact EL hd
 |some ls =>
 rw[hz]at f;simp only[Yo]at f;have h:=lO hz hl;simp only;refine EK ?_;refine zq f ?_
 match ls,h with
 |[],_ =>
 repeat apply za
 refine ze [(2,25),(7,30),(14,37)] zE ?_;refine aD ?_;refine EK ?_;refine yn 0 0 rfl rfl ?_;exact zg (zi hd EC (by simp[ug,zp]))
 |l::r,h =>
 have b8:(0:Int)<(r.length:Int)+1:=EA;have e2:¬(r.length:Int)+1=0:=EA;by_cases h2:l.length=2
 .match l,h2,h with
  |[a,b],_,h =>
  by_cases ha:a=ji
  .subst ha;have k1:qD .neq (bs ji) ⟨#[112,108,97,110]⟩=some (.bool false):=Xe _;have a6:=bt b ((h.l [ji,b] EB).2 b EB);repeat apply za
   refine ze [(2,25),(7,30),(14,37)] (zD b8 e2 k1) ?_;refine aC ?_;cases a8:yF b with
   |none =>
   have hb:ug ([ji,b]::r)=([],false):=by simp[ug,wD,a8]
   rw[a8]at a6;refine aF [] b8 ?_;refine zq a6 ?_;repeat apply za
   refine zb ?_;refine aD ?_;refine EK ?_;refine yn 0 0 rfl rfl ?_;exact zg (zi hd EC (by simp[hb,zp]))
   |some n =>
   have h7:=J9 a8;have f6:zT b=(n:Nat):=by unfold zT;rw[a8];rfl
   rw[a8,f6]at a6;obtain⟨V,hV⟩:∃V,V=ug ([ji,b]::r):=⟨_,rfl⟩;have d2:V=match qr n r with|none=>([],false)|some q=>(q.2,decide (q.1=[])):=by rw[hV];simp[ug,wD,a8]
   rw[<-hV];have a9:qr n r=none->V=([],false):=λe=>by rw[d2,e]
   clear hV;obtain⟨ls,c6⟩:∃ls,ls=[ji,b]::r:=⟨_,rfl⟩;have f7:ls.drop 1=r:=by rw[c6];rfl
   obtain⟨j,e3⟩:∃j,j=wl ls:=⟨_,rfl⟩;have h9:j.length=ls.length:=by rw[e3,List.length_map]
   have i5:ls.length<=1048576:=by rw[c6];exact h.n
   have f8:1<=ls.length:=by rw[c6];simp
   have d9:∀(k:Nat) (l:Ln),ls[k]?=some l->j[k]?=some (l.map bs):=λk l e=>by rw[e3,Ai,e];rfl
   have e0:∀(k:Nat) (l:Ln),ls[k]?=some l->l.length<=1048576/\∀w∈l,w.length<=1048576:=λk l e=>h.l l (by rw[<-c6];exact Aa e);refine qy 2 0 96 1 rfl rfl λv3=>?_;refine aF [] b8 ?_;refine zq a6 ?_;repeat apply za
   refine zb ?_;refine aC (EK ?_);repeat apply za
   refine zb ?_;refine zj (zC (λs:Nat × Nat × zy × Nat=>s.1<=n/\s.1<s.2.1/\s.2.1<=ls.length/\s.2.2.1.length=s.1/\qr n r=(qr (n-s.1) (ls.drop s.2.1)).map (λp=>(p.1,s.2.2.1++p.2))) (λ(d,c,p,w)=>[(2,.ptr nx v0 0),(4,.ptr (nx+1) v1 0),(5,.ptr (nx+2) v2 0),(6,L j),(8,I n),(10,I c),(11,I d)]) (λ(d,c,p,w)=>[.cells v0 31 [yE],.cells v1 31 [yE],.cells v2 31 [.sl (nx+3) w 1 0 d],.cells w 96 (p.flatMap Enc.enc)]) (λs=>n-s.1) (0,1,[],v3) [] ⟨BO _,by simp,f8,rfl,by simp[f7]⟩ (by simp[e3,c6]) EB ?_);rintro⟨d,c,p,w⟩ ⟨f9,g0,g1,d3,i⟩;simp only at f9 g0 g1 d3 i ⊢;repeat apply za
   refine zb ?_;refine zv rfl (λhc=>?_) (λhc=>?_);simp at hc;have a0:n-d=(n-(d+1))+1:=EA;refine zh (aA ?_);by_cases e4:c<ls.length;obtain⟨l,a7⟩:∃l,ls[c]?=some l:=⟨_,Ac e4⟩;have o:ls.drop c=l::ls.drop (c+1):=by rw[AG e4];rw[Ac e4]at a7;rw[Option.some.inj a7]
   obtain⟨g,tl,a1,-,-,f0⟩:=zF rfl j c EA;obtain rfl:g=l.map bs:=by rw[d9 _ _ a7]at a1;exact(Option.some.inj a1).symm
   have u:c<j.length:=EA;have z:(c:Int)<j.length:=EA;have a3:¬(j.length:Int)<=c:=EA;have a4:¬j.length<=c:=EA;by_cases h3:l.length=2
   .match l,h3 with
    |[x,y],_ =>
    by_cases hx:x=qv
    .subst hx;have k2:qD .neq (bs qv) ⟨#[100,97,121]⟩=some (.bool false):=Xe _;have c7:=bt y ((e0 _ _ a7).2 y EB);have w1:IntKind.i64.wrap ((c:Int)+1)=((c+1:Nat):Int):=zu c EA;cases b7:yF y with
     |none =>
     have hb:=a9 (VA i a0 (by rw[o];simp[xY,wD,b7]));rw[b7]at c7;repeat apply za
     refine ze [(4,67),(12,75)] (zU f0 u z a3 a4 k2) ?_;refine aC (aF [] (zD z u f0) ?_);refine zq c7 ?_;refine EK ?_;repeat apply za
     refine ze [(2,99)] zE ?_;refine aD ?_;refine EK ?_;refine yn 0 0 rfl rfl ?_;exact zg (zi hd EC (by simp[hb,zp]))
     |some m =>
     have h8:=J9 b7;have g3:zT y=(m:Nat):=by unfold zT;rw[b7];rfl
     rw[b7,g3]at c7;have e5:xY (ls.drop c)=qe m (ls.drop (c+1)):=by rw[o];simp[xY,wD,b7]
     have w2:IntKind.i64.wrap ((j.length:Int)-((c:Int)+1))=(j.length:Int)-((c:Int)+1):=wr _ EA EA;by_cases e1:(j.length:Int)-((c:Int)+1)<m;have hb:=a9 (VA i a0 (by
      rw[e5];cases e:qe m (ls.drop (c+1)) with
      |none=>rfl
      |some q=>have:=(bp (r:=q.1) (d:=q.2) e).2;rw[Bq]at this;omega))
     repeat apply za
     refine ze [(4,67),(12,75)] (zU f0 u z a3 a4 k2) ?_;refine aC (aF [] (zD z u f0) ?_);refine zq c7 ?_;refine aF [] w1 ?_;repeat apply za
     refine ze [(2,99)] (zn w2 e1) ?_;refine aD ?_;refine EK ?_;refine yn 0 0 rfl rfl ?_;exact zg (zi hd EC (by simp[hb,zp]));have e9:(p.flatMap Enc.enc:List PV).length=d:=(jJ p).trans d3;have f1:List.take d (p.flatMap Enc.enc)=(p.flatMap Enc.enc:List PV):=Ae EA;repeat apply za
     refine ze [(4,67),(12,75)] (zU f0 u z a3 a4 k2) ?_;refine aC (aF [] (zD z u f0) ?_);refine zq c7 ?_;refine aF [] w1 ?_;repeat apply za
     refine ze [(2,99)] (zn w2 e1) ?_;refine aC (EK ?_);intro v4;refine qy 4 0 99 1 rfl rfl λv5=>?_;repeat apply za
     refine zb ?_;refine zj (zC (λs:Nat × Nat × zo × Nat=>s.1<=m/\c+1<=s.2.1/\s.2.1+(m-s.1)<=ls.length/\s.2.2.1.length=s.1/\qe m (ls.drop (c+1))=(qe (m-s.1) (ls.drop s.2.1)).map (λp=>(p.1,s.2.2.1++p.2))/\s.1<s.2.1) (λ(k,e,dt,w5)=>[(2,.ptr nx v0 0),(4,.ptr (nx+1) v1 0),(5,.ptr (nx+2) v2 0),(6,L j),(8,I n),(10,I e),(11,I d),(12,I m),(14,.ptr (nx+4) v4 0),(15,I k)]) (λ(k,e,dt,w5)=>[.cells v0 31 [yE],.cells v1 31 [yE],.cells v2 31 [.sl (nx+3) w 1 0 d],.cells w 96 (p.flatMap Enc.enc),.cells v4 96 [.sl (nx+5) w5 1 0 k],.cells w5 99 (dt.flatMap Enc.enc)]) (λs=>m-s.1) (0,c+1,[],v5) [] ⟨BO _,by simp,by simp only;omega,rfl,by simp,by simp⟩ EB EB ?_);rintro⟨k,e,dt,w5⟩ ⟨g4,g5,g6,d4,a5,g7⟩;simp only at g4 g5 g6 d4 a5 g7 ⊢;repeat apply za
     refine zb ?_;refine zv rfl (λd5=>?_) (λd5=>?_)
     .simp at d5;have f3:m-k=(m-(k+1))+1:=EA;have e6:e<ls.length:=EA;obtain⟨l2,d6⟩:∃l2,ls[e]?=some l2:=⟨_,Ac e6⟩;have d7:ls.drop e=l2::ls.drop (e+1):=by rw[AG e6];rw[Ac e6]at d6;rw[Option.some.inj d6]
      obtain⟨g2,i6,a2,-,-,f2⟩:=zF rfl j e EA;obtain rfl:g2=l2.map bs:=by rw[d9 _ _ d6]at a2;exact(Option.some.inj a2).symm
      have f4:e<j.length:=EA;have f5:(e:Int)<j.length:=EA;have w3:IntKind.i64.wrap ((e:Int)+1)=((e+1:Nat):Int):=zu e EA;obtain⟨t0,d8,g8⟩:=ZzU l2 (e0 _ _ d6);rw[d7]at a5;have g9:(dt.flatMap Enc.enc:List PV).length=k:=(jJ dt).trans d4;have h0:List.take k (dt.flatMap Enc.enc)=(dt.flatMap Enc.enc:List PV):=Ae EA;refine zh (aA ?_);cases c8:jB l2 with
      |none =>
      have hb:=a9 (VA i a0 (by rw[e5];exact ZzX a5 f3 c8));rw[c8]at d8;refine aF [] (zD f4 f5 f2) ?_;refine zq d8 ?_;intro v6;refine aF [] w3 ?_;repeat apply za
      refine zb ?_;refine aD ?_;refine EK ?_;refine yn 0 0 rfl rfl ?_;exact zg (zi hd EC (by simp[hb,zp]))
      |some tt =>
      obtain rfl:=g8 tt c8;rw[c8]at d8;have e7:(dt++[t0]).flatMap Enc.enc=dt.flatMap Enc.enc++[L t0]:=by rw[Ar];rfl
      refine aF [] (zD f4 f5 f2) ?_;refine zq d8 ?_;intro v6;refine aF [] w3 ?_;repeat apply za
      refine zb ?_;refine aC (ze [] (zn g9 h0) ?_);refine⟨by omega,?_⟩;refine zb ?_;exact zr (k+1,e+1,dt++[t0],w5+1) [_] ⟨d5,by simp only;omega,by simp only;omega,by simp[d4],ZzY a5 f3 c8,by simp only;omega⟩ (by simp only;omega) (by simp[zu k EA]) rfl (by simp only[e7];rfl)
     simp at d5;obtain rfl:k=m:=EA;rw[Bs]at a5;simp only[qe,AR,AA]at a5;have e8:∀id v cs,(dt.flatMap Enc.enc).map (qz id v cs)=(dt.flatMap Enc.enc:List PV):=λid v cs=>J4 id v cs dt;have h4:∀id v cs,(p.flatMap Enc.enc).map (qz id v cs)=(p.flatMap Enc.enc:List PV):=λid v cs=>J4 id v cs p;have e7:(p++[dt]).flatMap Enc.enc=p.flatMap Enc.enc++[L dt]:=by rw[Ar];rfl
     refine zx (zY 5 rfl ?_);simp only[Ap,A8,AO,AW,xy,e8,h4];refine ze [] (zn e9 f1) ?_;refine⟨by omega,?_⟩;refine zb ?_;exact zr (d+1,e,p++[dt],w+1) [_,_] ⟨hc,by simp only;omega,by simp only;omega,by simp[d3],ZzW i a0 (by rw[e5,a5])⟩ (by simp only;omega) (by simp[zu d EA]) rfl (by simp only[e7];simp[d4];exact⟨rfl,rfl⟩)
    have k2:qD .neq (bs x) ⟨#[100,97,121]⟩=some (.bool true):=Xf (Wm hx);have hb:=a9 (VA i a0 (by rw[o];simp[xY,wD,hx]));repeat apply za
    refine ze [(4,67),(12,75)] (zU f0 u z a3 a4 k2) ?_;refine aD ?_;refine EK ?_;refine yn 0 0 rfl rfl ?_;exact zg (zi hd EC (by simp[hb,zp]))
   have hb:=a9 (VA i a0 (by
    rw[o];have:wD qv l=none:=by unfold wD;split;simp at h3;rfl
    simp[xY,this]))
   have h5:¬(l.length:Int)=2:=EA;repeat apply za
   refine ze [(4,67),(12,75)] (zU f0 u z a3 a4 (zD h3 h5 zE)) ?_;refine aD ?_;refine EK ?_;refine yn 0 0 rfl rfl ?_;exact zg (zi hd EC (by simp[hb,zp]));have hb:=a9 (VA i a0 (by rw[BW EA];rfl));have a3:(j.length:Int)<=c:=EA;have a4:j.length<=c:=EA;repeat apply za
   refine ze [(4,67),(12,75)] (zD a3 a4 zE) ?_;refine aD ?_;refine EK ?_;refine yn 0 0 rfl rfl ?_;exact zg (zi hd EC (by simp[hb,zp]));simp at hc;obtain rfl:d=n:=EA;rw[Bs]at i;simp only[qr,AR,AA]at i;rw[i]at d2;simp only at d2;have e8:∀id v cs,(p.flatMap Enc.enc).map (qz id v cs)=(p.flatMap Enc.enc:List PV):=λid v cs=>J4 id v cs p;have d0:(c=j.length)=(ls.drop c=[]):=by rw[CO];apply propext;omega
   have d1:((c:Int)=(j.length:Int))=(ls.drop c=[]):=by rw[<-d0];apply propext;omega
   refine zx (zY 3 rfl ?_);simp only[Ap,A8,AO,AW,xy,e8];refine aF [] (zn d1 d0) ?_;exact zg (zi hd EC (by simp[zp,d2,d3,d0,d1]))
  have k1:qD .neq (bs a) ⟨#[112,108,97,110]⟩=some (.bool true):=Xf (Wm ha);have hb:ug ([a,b]::r)=([],false):=by simp[ug,wD,ha]
  repeat apply za
  refine ze [(2,25),(7,30),(14,37)] (zD b8 e2 k1) ?_;refine aD ?_;refine EK ?_;refine yn 0 0 rfl rfl ?_;exact zg (zi hd EC (by simp[hb,zp]))
 have hb:ug (l::r)=([],false):=by
  have:wD ji l=none:=by unfold wD;split;simp at h2;rfl
  simp[ug,this]
 have h6:¬(l.length:Int)=2:=EA;repeat apply za
 refine ze [(2,25),(7,30),(14,37)] (yx b8 e2 h2 h6 zE) ?_;refine aD ?_;refine EK ?_;refine yn 0 0 rfl rfl ?_;exact zg (zi hd EC (by simp[hb,zp]))
def HL(z:Int)(h0:0<=z)(h:z<=1000000000000000000):PP 29 [I z] (T (bs (zz z))):=by have:=J3 z.toNat EA;rwa[CF h0]at this
def xg(a b:List UInt8)(h:a.length+b.length<=9223372036854775807):∃q,q=a++b/\qD .add (bs a) (bs b)=some (.string (bs q)):=⟨_,rfl,QB a b h⟩
def Xl(t:List Stop):List UInt8:=t.flatMap λs=>32::zz s.c++32::zz s.q
def Zz0(t:zM):zP (ju t)=wB++32::zH t.length++Xl t:=by
 unfold ju;rw[dY];have:∀l:List Stop,((l.flatMap λs=>[zz s.c,zz s.q]).map λu=>(32:UInt8)::u).flatten=Xl l:=λl=>by
  induction l with
  |nil=>rfl
  |cons a l b=>simp only[Ax,List.map_append,List.flatten_append,b];simp[Xl]
 rw[Ap,Bh,this];simp
def HN(p:zy)(y:PlanTold p):PP 12 [.agg [L p]] (.tup [T (bs (zN (yR p))),B true]):=by
 have c8:=eG y;have v:zN (yR p)=(([112,108,97,110,32]++zH p.length)++[10])++zN (p.flatMap xW):=by unfold yR;rw[vW];simp[zP]
 generalize zN (yR p)=Z at *;have hn:=y.n;have z:=J3 p.length EA;have a9:=xI (n:=p.length) EA;obtain⟨u,r,f⟩:=xg [112,108,97,110,32] (zH p.length) EF;obtain⟨c0,e2,o⟩:=xg u [10] (by rw[r];simp;omega);rw[<-r,<-e2]at v;refine zt func12 ntmps12 results12 λS nx hd=>?_;refine EK ?_;intro v0;refine EK ?_;refine EK ?_;refine yP [] z (zn f o) ?_;repeat apply za
 refine zb ?_;refine zj (zC (λs:Nat × List UInt8=>s.1<=p.length/\Z=s.2++zN ((p.drop s.1).flatMap xW)) (λ(k,c)=>[(1,.ptr nx v0 0),(4,B true),(5,T (bs c)),(6,I k)]) (λ_=>[.cells v0 31 [L p]]) (λs=>p.length-s.1) (0,c0) [] (by simp[v]) EB EB ?_);clear v r e2 f o z a9;rintro⟨k,c⟩ ⟨hk,l⟩;simp only at hk l ⊢;repeat apply za
 refine zb ?_;refine zv rfl (λhc=>?_) (λhc=>?_);simp at hc;obtain⟨d,tl,b1,b2,b3,f0⟩:=zF rfl p k hc;have w:=Aa b1;have d0:=y.d d w;have a0:=J3 d.length EA;have b:Z=(((c++[100,97,121,32])++zH d.length)++[10])++(zN (d.map ju)++zN ((p.drop (k+1)).flatMap xW)):=by rw[l,b2,Ax,Vx];unfold xW;rw[vW];simp[zP]
 obtain⟨R,hR⟩:∃R,R=zN ((p.drop (k+1)).flatMap xW):=⟨_,rfl⟩;rw[<-hR]at b;have a:=congrArg List.length b;simp only[Ak]at a;obtain⟨u,r,f⟩:=xg c [100,97,121,32] (by simp at a ⊢;omega);obtain⟨q2,e2,o⟩:=xg u (zH d.length) (by rw[r];simp at a ⊢;omega);obtain⟨c1,e3,a3⟩:=xg q2 [10] (by rw[e2,r];simp at a ⊢;omega);rw[<-r,<-e2,<-e3]at b;clear a l r e2 e3;generalize zH d.length=dd at *;refine zh (aA (aF [] (zD f0 hc f) ?_));refine yP [] a0 (yx f0 hc f o a3) ?_;refine EK ?_;refine zj (zC (λs:Nat × List UInt8=>s.1<=d.length/\Z=s.2++(zN ((d.drop s.1).map ju)++R)) (λ(j,c)=>[(1,.ptr nx v0 0),(4,B true),(5,T (bs c)),(6,I k),(7,I j)]) (λ_=>[.cells v0 31 [L p]]) (λs=>d.length-s.1) (0,c1) [] (by simp[b]) EB EB ?_);clear b f o a3 a0;rintro⟨j,c⟩ ⟨hj,l⟩;simp only at hj l ⊢;repeat apply za
 refine ze [] (zn f0 hc) ?_;refine zv rfl (λm=>?_) (λm=>?_);simp at m;obtain⟨t,d1,r,e2,e3,g0⟩:=zF rfl d j m;have a5:=Aa r;have d2:=y.t d w t a5;have b7:=y.s d w t a5;have a6:=J3 t.length EA;have b:Z=((c++[116,111,117,114,32])++zH t.length)++(Xl t++([10]++(zN ((d.drop (j+1)).map ju)++R))):=by rw[l,e2,Ap,vW,Zz0];simp
 obtain⟨R2,a7⟩:∃R2,R2=zN ((d.drop (j+1)).map ju)++R:=⟨_,rfl⟩;rw[<-a7]at b;have a:=congrArg List.length b;simp only[Ak]at a;obtain⟨u,e,f⟩:=xg c [116,111,117,114,32] (by simp at a ⊢;omega);obtain⟨c1,g,o⟩:=xg u (zH t.length) (by rw[e];simp at a ⊢;omega);rw[<-e,<-g]at b;clear a l e g;generalize zH t.length=dt at *;refine zh (aA (aF [] (zR f0 hc g0 m) ?_));refine aF [] f ?_;refine yP [] a6 (zn f o) ?_;repeat apply za
 refine zb ?_;refine zj (zC (λs:Nat × List UInt8=>s.1<=t.length/\Z=s.2++(Xl (t.drop s.1)++([10]++R2))) (λ(i,c)=>[(1,.ptr nx v0 0),(4,B true),(5,T (bs c)),(6,I k),(7,I j),(8,L t),(9,I i)]) (λ_=>[.cells v0 31 [L p]]) (λs=>t.length-s.1) (0,c1) [] (by simp[b]) EB EB ?_);clear b f o a6;rintro⟨i,c⟩ ⟨hi,l⟩;simp only at hi l ⊢;repeat apply za
 refine zb ?_;refine zv rfl (λh=>?_) (λh=>?_);simp at h;obtain⟨s,d3,s1,s2,s3,s4,h0⟩:=el 2 rfl t i h;have h1:=s4 1 EA;obtain⟨⟨p1,p2⟩,p3,p4⟩:=b7 s (Aa s1);have b8:=HL s.c p1 p2;have c6:=HL s.q p3 p4;have b:Z=(((((c++[32])++zz s.c)++[32])++zz s.q))++(Xl (t.drop (i+1))++([10]++R2)):=by rw[l,s2];simp[Xl]
 have a:=congrArg List.length b;simp only[Ak]at a;obtain⟨u,e,f⟩:=xg c [32] (by simp at a ⊢;omega);obtain⟨q2,g,o⟩:=xg u (zz s.c) (by rw[e];simp at a ⊢;omega);obtain⟨q3,x,a3⟩:=xg q2 [32] (by rw[g,e];simp at a ⊢;omega);obtain⟨q4,a8,a4⟩:=xg q3 (zz s.q) (by rw[x,g,e];simp at a ⊢;omega);rw[<-e,<-g,<-x,<-a8]at b;clear a l s4 e g x a8;generalize zz s.c=dc at *;generalize zz s.q=dq at *;refine zh (aA (aF [] (zD h0 h1 h) ?_));refine aF [] (zD h0 h1 h) ?_;refine aF [(1,81),(5,85),(9,89),(13,93)] (zR p1 p2 p3 p4) ?_;refine ze [] f ?_;refine yP [] b8 (zD f o a3) ?_;refine yP [] c6 (zR f o a3 a4) ?_;refine zb ?_;exact zr (i+1,q4) [] ⟨h,b⟩ EA (by simp[zu i EA]) rfl rfl;simp at h;obtain rfl:i=t.length:=EA;refine zx ?_;have b:Z=(c++[10])++R2:=by rw[l];simp[Xl]
 have a:=congrArg List.length b;simp only[Ak]at a;obtain⟨u,e,f⟩:=xg c [10] (by simp at a ⊢;omega);rw[<-e]at b;refine ze [] f ?_;refine zb ?_;exact zr (j+1,u) [] ⟨m,by rw[b,a7]⟩ EA (by simp[zu j EA]) rfl rfl;simp at m;obtain rfl:j=d.length:=EA;refine zx (zb ?_);exact zr (k+1,c) [] ⟨hc,by rw[l,hR];simp[zN]⟩ EA (by simp[zu k EA]) rfl rfl;simp at hc;obtain rfl:k=p.length:=EA;have c7:c=Z:=by rw[l];simp[zN]
 rw[c7];refine zx ?_;repeat apply za
 refine zb ?_;refine aC (EK ?_);exact EL hd
def eX(z:Int)(h0:0<=z/\z<=9223372036854775807):PP 29 [I z] (T (bs (zz z))):=by have:=J3 z.toNat EA;rwa[CF h0.1]at this
abbrev HO:List UInt8:=[111,117,116,99,111,109,101,32,112,108,97,110]
abbrev HR:List UInt8:=[10,98,111,117,110,100,32]
abbrev HU:List UInt8:=[99,111,115,116,32]
abbrev HV:List UInt8:=[10,104,111,108,100,105,110,103,32]
def HW(r:Rep)(h4:r.out=4)(h:RepTold r):PP 17 [.agg (Xg r)] (T (bs (zN (qg r)))):=by
 obtain⟨o,bd,co,ho,ds,p⟩:=r;obtain rfl:o=4:=h4;obtain⟨hb,hc,hh,hn,q,hp⟩:=h;simp only at hb hc hh hn q hp;have f:zN (qg ⟨4,bd,co,ho,ds,p⟩)=((((((HO++((HR++zz bd)++[10]))++HU)++zz co)++HV)++zz ho)++[10])++(zN (jN ds)++zN (yR p)):=by unfold qg;simp[vW,Vx,zP]
 have x:(zN (qg ⟨4,bd,co,ho,ds,p⟩)).length<=100000100500:=by
  have b:=eG hp;have e2:=We (ls:=jN ds) (m:=64) λl hl=>by
   obtain⟨i,hi,rfl⟩:=Aj.1 hl;have q1:=xI (n:=i) (by have:=AN.1 hi;omega);have q2:=wX (z:=ds.getD i 0) (by
    rw[List.getD_eq_getElem?_getD];cases e:ds[i]? with
    |none=>simp;unfold zL;omega
    |some z=>have:=q z (Aa e);simp;unfold zL;omega)
   generalize zz (ds.getD i 0)=u at *;generalize zH i=v at *;simp[zP];omega
  have d:(jN ds).length=ds.length:=by simp[jN]
  have b1:=wX (z:=bd) (by unfold zL;omega);have b2:=wX (z:=co) (by unfold zL;omega);have b3:=wX (z:=ho) (by unfold zL;omega);rw[f];simp;omega
 generalize zN (qg ⟨4,bd,co,ho,ds,p⟩)=Z at *;have a0:=eX bd hb;have a9:=eX co hc;have b7:=eX ho hh;have b8:=HN p hp;have a:=congrArg List.length f;simp only[Ak]at a;obtain⟨q1,b,w⟩:=xg HR (zz bd) (by simp at a ⊢;omega);obtain⟨q2,e2,y⟩:=xg q1 [10] (by rw[b];simp at a ⊢;omega);obtain⟨q3,d,a3⟩:=xg HO q2 (by rw[e2,b];simp at a ⊢;omega);obtain⟨q4,g,a4⟩:=xg q3 HU (by rw[d,e2,b];simp at a ⊢;omega);obtain⟨q5,j,a5⟩:=xg q4 (zz co) (by rw[g,d,e2,b];simp at a ⊢;omega);obtain⟨q6,e6,a6⟩:=xg q5 HV (by rw[j,g,d,e2,b];simp at a ⊢;omega);obtain⟨q7,e7,a7⟩:=xg q6 (zz ho) (by rw[e6,j,g,d,e2,b];simp at a ⊢;omega);obtain⟨q8,e8,a8⟩:=xg q7 [10] (by rw[e7,e6,j,g,d,e2,b];simp at a ⊢;omega);rw[<-b,<-e2,<-d,<-g,<-j,<-e6,<-e7,<-e8]at f;clear a b e2 d g j e6 e7 e8;generalize zN (yR p)=R at *;generalize zz bd=db at *;generalize zz co=dc at *;generalize zz ho=dh at *
 show Pure _ _ [.agg [I 4,I bd,I co,I ho,L ds,L p]] _;refine zt func17 ntmps17 results17 λS nx hd=>?_;refine EK ?_;intro v0;repeat apply za
 refine zb ?_;refine aC ?_;repeat apply za
 refine zb ?_;refine aC (EK ?_);refine yP [] a0 (zn w y) ?_;repeat apply za
 refine zb ?_;refine aC (aG (some [nx]) R8 mixed (zn a3 a4) ?_);refine zJ (a9) (zR a3 a4 a5 a6) ?_;refine zJ (b7) (zU a3 a4 a5 a6 a7 a8) ?_;repeat apply za
 refine zb ?_;have c6:∀k,k<ds.length->((List.range ds.length).drop k).map (λi=>[qv,zH i,zz (ds.getD i 0)])=[qv,zH k,zz (ds.getD k 0)]::((List.range ds.length).drop (k+1)).map (λi=>[qv,zH i,zz (ds.getD i 0)]):=λk hk=>by rw[AG (by simpa using hk)];simp
 refine zj (zC (λs:Nat × List UInt8=>s.1<=ds.length/\Z=s.2++(zN (((List.range ds.length).drop s.1).map (λi=>[qv,zH i,zz (ds.getD i 0)]))++R)) (λ(k,c)=>[(1,.ptr nx v0 0),(3,T (bs c)),(4,I k)]) (λ_=>[.cells v0 33 [I 4,I bd,I co,I ho,L ds,L p]]) (λs=>ds.length-s.1) (0,q8) [] (by simp[f,jN]) EB EB ?_);clear f w y a3 a4 a5 a6 a7 a8;rintro⟨k,c⟩ ⟨hk,hZ⟩;simp only at hk hZ ⊢;repeat apply za
 refine zb ?_;refine zv rfl (λhc=>?_) (λhc=>?_);simp at hc;obtain⟨z,tl,b1,b2,b3,f0⟩:=zF rfl ds k hc;have hz:=q z (Aa b1);have c7:=J3 k EA;have c8:=eX z hz;have d0:ds.getD k 0=z:=by rw[List.getD_eq_getElem?_getD,b1];rfl
 rw[c6 k hc,d0,vW]at hZ;have t:Z=(((((c++[100,97,121,32])++zH k)++[32])++zz z)++[10])++(zN (((List.range ds.length).drop (k+1)).map (λi=>[qv,zH i,zz (ds.getD i 0)]))++R):=by rw[hZ];simp[zP]
 have a:=congrArg List.length t;simp only[Ak]at a;obtain⟨q1,b,w⟩:=xg c [100,97,121,32] (by simp at a ⊢;omega);obtain⟨q2,e2,y⟩:=xg q1 (zH k) (by rw[b];simp at a ⊢;omega);obtain⟨q3,d,a3⟩:=xg q2 [32] (by rw[e2,b];simp at a ⊢;omega);obtain⟨q4,g,a4⟩:=xg q3 (zz z) (by rw[d,e2,b];simp at a ⊢;omega);obtain⟨q5,j,a5⟩:=xg q4 [10] (by rw[g,d,e2,b];simp at a ⊢;omega);rw[<-b,<-e2,<-d,<-g,<-j]at t;clear a hZ b e2 d g j;generalize zH k=dk at *;generalize zz z=dz at *;refine zh (aA (zA (some [nx]) R7 mixed (zD w f0 hc) ?_));refine zJ (c7) (yx w y a3 f0 hc) ?_;refine zJ (c8) (zU w y a3 a4 a5 (zn f0 hc)) ?_;refine zb ?_;exact zr (k+1,q5) [] ⟨hc,t⟩ EA (by simp[zu k EA]) rfl rfl;simp at hc;obtain rfl:k=ds.length:=EA;refine zx ?_;have d1:Z=c++R:=by rw[hZ,AT EB];simp[zN]
 have d2:qD .add (bs c) (bs R)=some (.string (bs Z)):=by rw[d1]at x ⊢;exact QB c R (by simp at x ⊢;omega)
 refine EK ?_;refine zq b8 ?_;refine aF [] d2 ?_;exact EL hd
def VB{α:Type}[Enc α](l:List (List α))(D:Nat)(x:PV):List PV:=(l.flatMap Enc.enc).set D x
section
variable {α:Type} [Enc α]
@[simp] theorem ZEh(D:Nat)(x:PV):VB ([]:List (List α)) D x=[]:=by simp[VB]
@[simp] theorem ZEi(l:List (List α))(D:Nat)(x:PV):(VB l D x).length=l.length:=by rw[VB,BP];exact jJ l
@[simp] theorem ZEj(l:List (List α))(D:Nat)(x:PV):(VB l D x).take l.length=VB l D x:=Ae EB
end
def Zz1(z:Int):jT (zz z):=by unfold zz;first|exact YT _|(split<;>exact YT _)
def bu(r:Rep):(∀l∈qg r,l≠[])/\∀l∈qg r,∀w∈l,jT w:=by
 have k1:jT jV:=(uE _).1 EH;have h:jT eE:=(uE _).1 EH;have j:jT FH:=(uE _).1 EH;have k:jT Z0:=(uE _).1 EH;have e:jT xV:=(uE _).1 EH;have f:jT ji:=(uE _).1 EH;have m:jT QK:=(uE _).1 EH;have n:jT QL:=(uE _).1 EH;have g:jT qv:=(uE _).1 EH;have c:jT wB:=(uE _).1 EH;have hI:=Zz1;have b:=YT;have o:∀l∈jN r.days++yR r.ae,l≠[]/\∀w∈l,jT w:=by intro l hl;obtain hl|hl:=AB.1 hl;obtain⟨i,-,rfl⟩:=Aj.1 hl;simp[g,hI,b];unfold yR at hl;obtain rfl|hl:=Al.1 hl;simp[f,b];obtain⟨d,-,hl⟩:=By.1 hl;unfold xW at hl;obtain rfl|hl:=Al.1 hl;simp[g,b];obtain⟨t,-,rfl⟩:=Aj.1 hl;unfold ju;refine⟨by simp,λw a=>?_⟩;obtain rfl|a:=Al.1 a;exact c;obtain rfl|a:=Al.1 a;exact b _;obtain⟨s,-,a⟩:=By.1 a;simp at a;obtain rfl|rfl:=a<;>exact hI _
 have key:∀l∈qg r,l≠[]/\∀w∈l,jT w:=by
  intro l hl;unfold qg at hl;split at hl;simp at hl;subst hl;simp[k1,h];split at hl;simp at hl;subst hl;simp[k1,j];split at hl;simp at hl;obtain rfl|rfl:=hl<;>simp[k1,k,e,hI];split at hl;rcases Al.1 hl with rfl|hl
  simp[k1,f];obtain rfl|hl:=Al.1 hl;simp[e,hI];obtain rfl|hl:=Al.1 hl;simp[m,hI];obtain rfl|hl:=Al.1 hl;simp[n,hI];exact o l hl;cases hl
 exact⟨λl hl=>(key l hl).1,λl hl=>(key l hl).2⟩
def bw(ls:List Ln):Prop:=ls.length<=100/\∀l∈ls,l≠[]/\l.length<=100/\∀w∈l,jT w/\w.length<=20
def HY{ls:List Ln}(h:bw ls):(zN ls).length<=1048576:=by
 have:=We (ls:=ls) (m:=2101) λl hl=>by have h1:=Xh (ws:=l) (m:=20) λw a=>((h.2 l hl).2.2 w a).2;have:=(h.2 l hl).2.1;omega
 have:=h.1;omega
def Zz2{ls:List Ln}(h:bw ls):y9 (zN ls)=some ls:=Vj (λl hl=>(h.2 l hl).1) (λl hl w a=>((h.2 l hl).2.2 w a).1)
def HZ{ls:List Ln}(h:bw ls):∀q,y9 (zN ls)=some q->LnsSz q:=λq e=>by rw[Zz2 h]at e;cases e;exact⟨by have:=h.1;omega,λl hl=>by have:=(h.2 l hl).2.1;omega⟩
variable {p:zy}
def Ia(i:p.length<=7)(h:∀d∈p,d.length<=6/\∀t∈d,t.length<=6)(f:PlanTold p):(yR p).length<=50/\∀l∈yR p,l.length<=100/\∀w∈l,w.length<=20:=by
 constructor;have:∀q:zy,(∀d∈q,d.length<=6)->(q.flatMap xW).length<=7*q.length:=by
  intro q;induction q with
  |nil=>intro _;simp
  |cons a q g =>
  intro h;have h1:=h a EB;have h2:=g λd b=>h d (by simp[b]);simp only[Ax,Ak,Ab,xW,List.length_map];omega
 have:=this p λd b=>(h d b).1;unfold yR;rw[Ab];omega;intro l hl;unfold yR at hl;obtain rfl|hl:=Al.1 hl;refine⟨by simp,λw c=>?_⟩;simp at c;obtain rfl|rfl:=c;decide;exact xI EA;obtain⟨d,b,hl⟩:=By.1 hl;unfold xW at hl;obtain rfl|hl:=Al.1 hl;refine⟨by simp,λw c=>?_⟩;simp at c;obtain rfl|rfl:=c;decide;exact xI (by have:=(h d b).1;omega);obtain⟨t,e,rfl⟩:=Aj.1 hl;have j:=(h d b).2 t e;exact⟨by rw[eF];omega,FI EA (f.s d b t e)⟩
variable {bd:Int}
def Ib{co ho:Int}{ds:List Int}(e:RepTold ⟨4,bd,co,ho,ds,p⟩)(f:p.length<=7)(g:ds.length<=7)(c:∀d∈p,d.length<=6/\∀t∈d,t.length<=6):bw (qg ⟨4,bd,co,ho,ds,p⟩):=by
 have a:=bu ⟨4,bd,co,ho,ds,p⟩;obtain⟨b1,b2,b3,b4,b5,b6⟩:=e;simp only at b1 b2 b3 b4 b5 b6;obtain⟨c1,c2⟩:=Ia f c b6;have e2:qg ⟨4,bd,co,ho,ds,p⟩=[jV,ji]::[xV,zz bd]::[QK,zz co]::[QL,zz ho]::(jN ds++yR p):=rfl;rw[e2]at a ⊢;have h:=wX (z:=bd) (by unfold zL;omega);have l2:=wX (z:=co) (by unfold zL;omega);have j:=wX (z:=ho) (by unfold zL;omega);have key:∀l∈[jV,ji]::[xV,zz bd]::[QK,zz co]::[QL,zz ho]::(jN ds++yR p),l.length<=100/\∀w∈l,w.length<=20:=by intro l hl;obtain rfl|hl:=Al.1 hl;exact⟨by simp,λw a=>by simp at a;obtain rfl|rfl:=a<;>decide⟩;obtain rfl|hl:=Al.1 hl;exact⟨by simp,λw a=>by simp at a;obtain rfl|rfl:=a;decide;exact h⟩;obtain rfl|hl:=Al.1 hl;exact⟨by simp,λw a=>by simp at a;obtain rfl|rfl:=a;decide;exact l2⟩;obtain rfl|hl:=Al.1 hl;exact⟨by simp,λw a=>by simp at a;obtain rfl|rfl:=a;decide;exact j⟩;obtain hl|hl:=AB.1 hl;obtain⟨i,hi,rfl⟩:=Aj.1 hl;have hi:=AN.1 hi;have k:=xI (n:=i) EA;have m:=wX (z:=ds.getD i 0) (by have:=b5 (ds.getD i 0) (by rw[List.getD_eq_getElem?_getD,Ac hi];exact AZ hi);unfold zL;omega);exact⟨by simp,λw a=>by simp only[Al,Be,or_false]at a;obtain rfl|rfl|rfl:=a;decide;exact k;exact m⟩;exact c2 l hl
 exact⟨by simp[ZzF];omega,λl hl=>⟨a.1 l hl,(key l hl).1,λw b=>⟨a.2 l hl w b,(key l hl).2 w b⟩⟩⟩
variable {x:Inst}
def Zz3(h:InstQ x n)(l:List Int):bw (qg (ud x n l))/\qg (ud x n l)≠[]:=by
 have e:=bu (ud x n l);have c:=GV h l;have k:=h.n7;unfold ud Wf at e c ⊢;split at e;rename_i hf;rw[if_pos hf]at c ⊢;have i:(xX x n l).2=0:=by unfold Zf at hf;split at hf;assumption;rename_i q;exact absurd hf q
 have g:=eI h (xJ l) (yp l 1).toNat (yp l 2) i;have f:(xX x n l).1.length=n:=g.len;exact⟨Ib c EA (by unfold qa;rw[List.length_map];omega) λd j=>by have h1:=g.s.ok d j;exact⟨h1.2.2,λt c=>by have:=(Ct c).length_le;omega⟩,by simp[qg]⟩;rename_i hf;rw[if_neg hf]at c ⊢;have hb:=wX (z:=Jn x n l) (by have:=c.b;simp only at this;unfold zL;omega);have e2:qg ⟨3,Jn x n l,0,0,[],[]⟩=[[jV,Z0],[xV,zz (Jn x n l)]]:=rfl;rw[e2]at e ⊢;refine⟨⟨by simp,λl hl=>⟨e.1 l hl,?_,λw a=>⟨e.2 l hl w a,?_⟩⟩⟩,by simp⟩;simp at hl;obtain rfl|rfl:=hl<;>simp;simp at hl;obtain rfl|rfl:=hl;simp at a;obtain rfl|rfl:=a<;>decide;simp at a;obtain rfl|rfl:=a;decide;exact hb
variable {z:Int}
def eY(h:0<=z/\z<=1000000000000000000):zT (zz z)=z:=by unfold zT;rw[lL h.1 h.2];simp;omega
abbrev bx(s:Stop):Prop:=(0<=s.c/\s.c<=1000000000000000000)/\0<=s.q/\s.q<=1000000000000000000
theorem Ic:∀t:zM,(∀s∈t,bx s)->vG ((t.flatMap λs=>[zz s.c,zz s.q]).map zT)=t
 |[],_=>rfl
 |s::t,h=>by have h1:=h s EB;have a:=Ic t λu b=>h u (by simp[b]);rw[Ax];simp only[List.cons_append,AI,Ap,vG,a,eY h1.1,eY h1.2]
def Zz4{t:zM}(hl:t.length<=1000)(h:∀s∈t,bx s):jB (ju t)=some t:=by
 have b:∀w∈zH t.length::t.flatMap (λs=>[zz s.c,zz s.q]),(yF w).isSome=true:=by intro w b;simp only[Al,By,Be,or_false]at b;obtain rfl|⟨s,hs,rfl|rfl⟩:=b;rw[eT EA];rfl;rw[lL (h s hs).1.1 (h s hs).1.2];rfl;rw[lL (h s hs).2.1 (h s hs).2.2];rfl
 have hn:zT (zH t.length)=t.length:=by unfold zT;rw[eT EA];rfl
 have a:((t.flatMap λs=>[zz s.c,zz s.q]).map zT).length=2*t.length:=by have:=eF t;unfold ju at this;simp only[Ab]at this;rw[List.length_map];omega
 unfold ju jB;dsimp only;rw[if_pos rfl,Vk b];simp only[Ap,hn];rw[if_pos (by rw[a];omega),Ic t h]
theorem Ie:∀(d:zo) (r:List Ln),(∀t∈d,t.length<=1000/\∀s∈t,bx s)->qe d.length (d.map ju++r)=some (r,d)
 |[],r,_=>rfl
 |t::d,r,h=>by obtain⟨h1,h2⟩:=h t EB;have a:=Ie d r λu b=>h u (by simp[b]);simp only[Ab,Ap,List.cons_append,qe,Zz4 h1 h2,a,AR]
def If(w:Wd)(h:n<=1000000000000000000):wD w [w,zH n]=some n:=by show (if w=w then _ else _)=_;rw[if_pos rfl];exact eT h
def Zz5{d:zo}(r:List Ln)(hl:d.length<=1000)(h:∀t∈d,t.length<=1000/\∀s∈t,bx s):xY (xW d++r)=some (r,d):=by unfold xW xY;simp only[List.cons_append,If qv (show d.length<=1000000000000000000 by omega)];exact Ie d r h
theorem Ig:∀(p:zy) (r:List Ln),(∀d∈p,d.length<=1000/\∀t∈d,t.length<=1000/\∀s∈t,bx s)->qr p.length (p.flatMap xW++r)=some (r,p)
 |[],r,_=>rfl
 |d::p,r,h=>by obtain⟨h1,h2⟩:=h d EB;have a:=Ig p r λu b=>h u (by simp[b]);rw[Ax,List.append_assoc];simp only[Ab,qr,Zz5 _ h1 h2,a,AR]
def Ih(h:PlanTold p):xL (yR p)=some p:=by have:=Ig p [] λd a=>⟨h.d d a,λt b=>⟨h.t d a t b,h.s d a t b⟩⟩;rw[AA]at this;unfold yR xL;simp only[If ji (show p.length<=1000000000000000000 by have:=h.n;omega),this]
structure RepLow (r:Rep):Prop where
 out:r.out=4
 b:0<=r.bound/\r.bound<=1000000000000000000
 c:0<=r.cost/\r.cost<=1000000000000000000
 h:0<=r.U/\r.U<=1000000000000000000
 d:∀z∈r.days,0<=z/\z<=1000000000000000000
 p:PlanTold r.ae
def Zz6{r:Rep}(h:RepLow r):uK (qg r)=some r:=by
 obtain⟨o,b,c,a,ds,p⟩:=r;obtain⟨h1,h2,h3,g,j,k⟩:=h;simp only at h1 h2 h3 g j k;subst h1;have e:qg ⟨4,b,c,a,ds,p⟩=[jV,ji]::[xV,zz b]::[QK,zz c]::[QL,zz a]::(jN ds++yR p):=rfl;have hl:∀(w:Wd) (z:Int),0<=z/\z<=1000000000000000000->vH [w,zz z]=z:=λw z q=>eY q;have d:(qi (jN ds++yR p)).1=ds:=by
  rw[lN _ _ (Hz ds)];have:(qi (yR p)).1=[]:=by unfold yR;rw[Hk _ rfl]
  show (jN ds).map (λl=>zT (l.getD 2 []))++(qi (yR p)).1=ds;rw[this,AA];unfold jN;rw[B3];apply Bi;simp;intro i g1 f;have:=j (ds.getD i 0) (by rw[List.getD_eq_getElem?_getD,Ac f];exact AZ f);simp only[CH,CJ,Function.comp_apply];show zT (zz (ds.getD i 0))=_;rw[eY this,List.getD_eq_getElem?_getD,Ac f];rfl
 rw[e];unfold uK;rw[if_neg EB];show (match xL (qi (jN ds++yR p)).2 with
  |none=>none
  |some q=>some (⟨4,vH [xV,zz b],vH [QK,zz c],vH [QL,zz a],(qi (jN ds++yR p)).1,q⟩:Rep))=_
 rw[ZzG,Ih k,hl _ _ h2,hl _ _ h3,hl _ _ g,d]
def Zz7{t:List UInt8}{r:Rep}(c:RepLow r)(h0:(yD t).2=0):Js t (zN (qg r))=Jq (yD t).1 r:=by obtain⟨a,b⟩:=bu r;unfold Js wY;rw[Vj a b];simp only[Zz6 c];simp[h0]
def Zz8{t:List UInt8}(b:Int):Js t (zN [[jV,Z0],[xV,zz b]])=false:=by
 obtain⟨h1,h2⟩:=bu ⟨3,b,0,0,[],[]⟩;have e:qg ⟨3,b,0,0,[],[]⟩=[[jV,Z0],[xV,zz b]]:=rfl;rw[e]at h1 h2;unfold Js wY;rw[Vj h1 h2];have:uK [[jV,Z0],[xV,zz b]]=none:=by unfold uK;rw[if_pos EB]
 simp only[this];simp
def Zz9(h:InstQ x n){co ho:Int}(g:PlanG x n p)(h0:wu x p=0)(hb:0<=bd/\bd<=yN x p)(l:yN x p<=co/\co<=yN x p+1000)(o:W (yG x p x.y.length)<=ho/\ho<=W (yG x p x.y.length)+1000):
  RepTold ⟨4,bd,co,ho,qa x p,p⟩/\PP 10 [T (bs (zN (jU x))),T (bs (zN (qg ⟨4,bd,co,ho,qa x p,p⟩)))] (B (decide (co=yN x p/\ho=W (yG x p x.y.length)))):=by
 have c:=EW h.t h.m;have w:=h.n7;have y:=h.ad;have i:=g.len;obtain⟨c1,c2,c3,-⟩:=HA EA EA h0;have q:(qa x p).length=p.length:=by unfold qa;rw[List.length_map]
 have j:RepTold ⟨4,bd,co,ho,qa x p,p⟩:=by refine⟨?_,?_,?_,?_,λz c=>?_,bn g⟩;show 0<=bd/\bd<=_;omega;show 0<=co/\co<=_;omega;show 0<=ho/\ho<=_;omega;show (qa x p).length<=_;omega;have:=c3 z c;omega
 have r:RepLow ⟨4,bd,co,ho,qa x p,p⟩:=by refine⟨rfl,?_,?_,?_,λz c=>?_,bn g⟩;show 0<=bd/\bd<=_;omega;show 0<=co/\co<=_;omega;show 0<=ho/\ho<=_;omega;have:=c3 z c;omega
 have k:=Ib j EA EA λd u=>by have h1:=g.s.ok d u;exact⟨h1.2.2,λt v=>by have:=(Ct v).length_le;omega⟩
 have f:=HJ (zN (jU x)) (zN (qg ⟨4,bd,co,ho,qa x p,p⟩)) (lq h) (HY k) (HZ k);rw[Zz7 r (by rw[c]),c]at f;refine⟨j,?_⟩;have e:Jq (x,(0:Int)).1 ⟨4,bd,co,ho,qa x p,p⟩=decide (co=yN x p/\ho=W (yG x p x.y.length)):=by unfold Jq;rw[decide_eq_decide];constructor;rintro⟨-,a,b,-⟩;exact⟨a,b⟩;rintro⟨a,b⟩;exact⟨h0,a,b,rfl,hb.1,by show bd<=co;omega⟩
 rw[e]at f;exact f
def ZAa(h:InstQ x n)(l:List Int):(∃bd,ud x n l=⟨3,bd,0,0,[],[]⟩)\/∃bd p,ud x n l=⟨4,bd,yN x p,W (yG x p x.y.length),qa x p,p⟩/\PlanG x n p/\wu x p=0/\0<=bd/\bd<=yN x p:=by have hb:=lI h l;unfold ud Wf;split;rename_i hf;right;unfold Zf at hf;split at hf;rename_i a;have g:=eI h (xJ l) (yp l 1).toNat (yp l 2) a;exact⟨_,_,rfl,g,hf,hb.1,Zzn h g hf _ _⟩;rename_i a;exact absurd hf a;exact .inl ⟨_,rfl⟩
def ZAb(h:InstQ x n)(l:List Int)(e:ud x n l=⟨3,bd,0,0,[],[]⟩):PP 10 [T (bs (zN (jU x))),T (bs (zN (qg (ud x n l))))] (B false):=by obtain⟨a,-⟩:=Zz3 h l;have b:=HJ (zN (jU x)) (zN (qg (ud x n l))) (lq h) (HY a) (HZ a);have e2:qg ⟨3,bd,0,0,[],[]⟩=[[jV,Z0],[xV,zz bd]]:=rfl;rw[e,e2,Zz8]at b;rw[e,e2];exact b
def ZAc(g:p.length<=7)(h:∀d∈p,d.length<=6/\∀t∈d,t.length<=6)(c:PlanTold p):PP 13 [T (bs (zN (yR p)))] (.tup [.agg [L p],B true]):=by
 obtain⟨c1,c2⟩:=Ia g h c;obtain⟨a,b⟩:=bu ⟨4,0,0,0,[],p⟩;have e:qg ⟨4,0,0,0,[],p⟩=[jV,ji]::[xV,zz 0]::[QK,zz 0]::[QL,zz 0]::([]++yR p):=rfl;rw[e]at a b;have i:=Vj (ls:=yR p) (λl hl=>a l (by simp[hl])) (λl hl=>b l (by simp[hl]));have hl:=We (ls:=yR p) (m:=2101) λl hl=>by have h1:=Xh (ws:=l) (m:=20) (c2 l hl).2;have:=(c2 l hl).1;omega
 have:=ZzZ (zN (yR p)) EA;rw[i]at this;have hb:=ZzV (yR p);rw[Ih c]at hb;simp only at this;generalize ug (yR p)=bv at *;split at hb;rename_i f;obtain⟨q,j⟩:=bv;simp only at f hb this;cases hb;subst f;exact this;cases hb
def VC(m:Int):Int:=if m<0 then (-(m+1))%1000 else m%1000
def ZAd(m:Int):0<=VC m/\VC m<1000:=by unfold VC;split<;>omega
def ZAe(m:Int)(hm:zL m):PP 16 [I m,I 1000] (I (VC m)):=by
 unfold zL at hm;unfold VC;refine zt func16 ntmps16 results16 λS nx c=>?_;refine EK ?_;repeat apply za
 refine zb ?_;by_cases h:m<0;have d:IntKind.i64.wrap (m+1)=m+1:=wr _ EA EA;have f:IntKind.i64.wrap (-(m+1))=-(m+1):=wr _ EA EA;have a:(-(m+1)).tmod 1000=(-(m+1))%1000:=AY EA;have b:IntKind.i64.wrap ((-(m+1))%1000)=(-(m+1))%1000:=wr _ EA EA;rw[if_pos h];refine zm (by simp[h]) ?_;have e:-(m+1)=-1+-m:=EA;refine ze [] (zn d f) ?_;refine aF [] (zn a b) ?_;exact zg (zi c rfl rfl);have a:m.tmod 1000=m%1000:=AY EA;have b:IntKind.i64.wrap (m%1000)=m%1000:=wr _ EA EA;rw[if_neg h];refine zk (by simp[h]) ?_;refine zh (aF [] (zn a b) ?_);exact zg (zi c rfl rfl)
def ZAf(x:Inst)(l:List Int)(m:Int)(hm:zL m)(hx:InstOk x):PP 3 [.agg (zB x),L l,I m] (B true):=by
 have h:=ZyF;have hG:=LC x hx;have i:=ZyG l;have j:=ZAe m hm;have b7:=ZAd m;obtain⟨n,hn⟩:∃n:Nat,(yW x).days=n:=⟨(yW x).days.toNat,by have:=aI x;omega⟩;have c:=Zxv x hn;have o:=ZyA (FO c);have r:=ZyK c (Xi l);have u:=Zzd c (Xi l);have e:=λbd=>ZAb c (Xi l) (bd:=bd);have a4:=ZAa c (Xi l);have a:=λbd co ho p=>Zz9 c (bd:=bd) (co:=co) (ho:=ho) (p:=p);have h7:=c.n7;have h6:=c.ad;generalize VC m=k at *;generalize ud (yW x) n (Xi l)=rp at *;generalize zN (jU (yW x))=tx at *;generalize yW x=y at *;generalize Xi l=sl at *;obtain⟨bd,rfl⟩|⟨bd,p,rfl,b,h0,f,g⟩:=a4;have hA:=e bd rfl;generalize zN (qg ⟨3,bd,0,0,[],[]⟩)=s at *;clear c hn hx e a;refine zt func3 ntmps3 results3 λS nx v=>?_;refine EK ?_;intro v0;refine EK ?_;refine zq hG ?_;intro v1;refine EK ?_;refine zq o ?_;refine EK ?_;refine zq i ?_;refine zq r ?_;intro v2;refine EK ?_;refine zq u ?_;repeat apply za
 refine zb ?_;refine aD ?_;refine aF [(4,34)] trivial ?_;refine yP [(4,34)] hA trivial ?_;refine yP [(4,34)] h trivial ?_;exact EL v;have a9:=b.len;obtain⟨c1,c2,-,-⟩:=HA (x:=y) (p:=p) EA EA h0;obtain⟨-,w⟩:=a bd (yN y p) (W (yG y p y.y.length)) p b h0 ⟨f,g⟩ EA EA;obtain⟨z,a0⟩:=a bd (yN y p+1+k) (W (yG y p y.y.length)) p b h0 ⟨f,g⟩ EA EA;obtain⟨hT3,a1⟩:=a bd (yN y p) (W (yG y p y.y.length)+1+k) p b h0 ⟨f,g⟩ EA EA;rw[decide_eq_true ⟨rfl,rfl⟩]at w;rw[decide_eq_false (λq=>by omega)]at a0 a1;have a2:=HW _ rfl z;have a3:=HW _ rfl hT3;have a5:=HN p (bn b);have a6:=ZAc (p:=p) EA (λd v=>by have h1:=b.s.ok d v;exact⟨h1.2.2,λt ht=>by have:=(Ct ht).length_le;omega⟩) (bn b);have a7:=b.same;have a8:=b.refCost;simp only[Xg]at a2 a3;generalize zN (qg ⟨4,bd,yN y p+1+k,W (yG y p y.y.length),qa y p,p⟩)=s2 at *;generalize zN (qg ⟨4,bd,yN y p,W (yG y p y.y.length)+1+k,qa y p,p⟩)=s3 at *;generalize zN (qg ⟨4,bd,yN y p,W (yG y p y.y.length),qa y p,p⟩)=s1 at *;generalize zN (yR p)=pt at *;generalize yN y p=co at *;generalize W (yG y p y.y.length)=ho at *;generalize qa y p=ds at *;have w1:IntKind.i64.wrap (co+1)=co+1:=wr _ EA EA;have w2:IntKind.i64.wrap (co+1+k)=co+1+k:=wr _ EA EA;have w3:IntKind.i64.wrap (ho+1)=ho+1:=wr _ EA EA;have w4:IntKind.i64.wrap (ho+1+k)=ho+1+k:=wr _ EA EA;clear c hn hx e a z hT3 b h0;refine zt func3 ntmps3 results3 λS nx v=>?_;refine EK ?_;intro v0;refine EK ?_;refine zq hG ?_;intro v1;refine EK ?_;refine zq o ?_;refine EK ?_;refine zq i ?_;refine zq r ?_;intro v2;refine EK ?_;refine zq u ?_;repeat apply za
 refine zb ?_;refine aC (EK ?_);refine zq a5 ?_;refine EK ?_;refine zq a6 ?_;intro v3;repeat apply za
 refine zA (some [nx+1,nx+2,nx+3]) (Row.pures [0,1,2,3,4,5,6,7,8,9,10,11,12,13,14,15,16,17,18,19,20,21,22] .done) mixed trivial ?_;refine zJ (a7) trivial ?_;refine zJ (a8) trivial ?_;refine zJ (w) trivial ?_;refine aC (EK ?_);intro v4;refine aG (some [nx+2]) Rr mixed (zn w1 w2) ?_;refine zJ (j) (zn w1 w2) ?_;refine EK ?_;intro v5;refine aG (some [nx+2]) Rr mixed (zn w3 w4) ?_;refine zJ (j) (zn w3 w4) ?_;refine aF [(5,92),(12,99)] trivial ?_;refine yP [(5,92),(12,99)] a2 trivial ?_;refine yP [(5,92),(12,99)] a0 trivial ?_;refine yP [(5,92),(12,99)] a3 trivial ?_;refine yP [(5,92),(12,99)] a1 trivial ?_;refine yP [(5,92),(12,99)] h trivial ?_;exact EL v
end Go.Proofs.YtdjbbndbalhekaaGreatDoor.Pv
