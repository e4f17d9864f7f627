/- Part of a proof, packed. -/
import Derived.Test.YtcocagkbfpgmiaaGreatDoorB3
open Go.Proofs.Tryz
set_option maxRecDepth 100000
set_option maxHeartbeats 3200000
namespace Go.Proofs.YtcocagkbfpgmiaaGreatDoor.Pv
open Go Go.Proofs
theorem Sim.drewN{C:Ctx}{S:Store}{w:World}(h:Sim C S w):∀q:Nat,Sim C S (w.drewN q)/\Step C S w C S (w.drewN q)
 | 0=>by
  have e:w.drewN 0=w:=rfl;rw[e];exact⟨h,.refl _ _ _⟩
 | q+1=>by
  obtain⟨a,b⟩:=Sim.drewN h q;obtain⟨c,d⟩:=a.drew;have e:w.drewN (q+1)=(w.drewN q).drew:=by unfold World.drewN World.drew;simp[Nat.add_assoc]
  rw[e];exact⟨c,b.trans d⟩
theorem Zo2(zs:List Int)(c:Int)(hn:zs.length<=1048576)(hs:zs.Pairwise (·<=·)):Pure prog 353 [L zs,I c] (.tup [I (zs.countP (·<c):Nat),B (zs.contains c)]):=by
 intro S;refine⟨qx func353 DU rfl,?_⟩;intro C w vs g hl m;obtain⟨u,v,rfl⟩:∃u v,vs=#[u,v]:=Zgj hl;obtain rfl:=JJ (m 1 _ v rfl rfl);have h0:Rel C S w (.lst zs.length (zs.flatMap Enc.enc)) u:=m 0 _ u rfl rfl;have a:∀(k:Int) (b:Bool),Rel C S w (.tup [I k,B b]) (.tuple #[.int .i64 k,.bool b]):=by
  intro k b;refine .tup rfl ?_;intro i p v hc hv
  match i with
  | 0=>have hc:some (I k)=some p:=hc;have hv:some (Value.int .i64 k)=some v:=hv;cases hc;cases hv;exact .sc _
  | 1=>have hc:some (B b)=some p:=hc;have hv:some (Value.bool b)=some v:=hv;cases hc;cases hv;exact .sc _
  | i+2=>simp at hc
 rw[Zax]at h0;generalize h:zs.map I=cs at h0;generalize d:zs.length=n at h0 hn;cases h0 with
 | lst0 =>
  obtain rfl:zs=[]:=Av d;refine(slices_BinarySearch_int_empty _ _ c w).mono ?_;rintro e w' ⟨rfl,rfl⟩;exact⟨_,_,_,_,rfl,⟨rfl,rfl⟩,a 0 false,g,.refl _ _ _⟩
 | lst1 g1 g2 g3 g4 t g6 x =>
  rename_i cap b o r e fz
  by_cases s:zs=[]
  ·subst s;simp at d;subst d;refine(slices_BinarySearch_int_empty _ _ c w).mono ?_;rintro e w' ⟨rfl,rfl⟩;exact⟨_,_,_,_,rfl,⟨rfl,rfl⟩,a 0 false,g,.refl _ _ _⟩
  ·subst h;have l:=t (by simpa using s);rw[List.length_map]at l;have f:∀j,j<zs.length->w.cell? ⟨b,o+j,none⟩=some (.int .i64 (zs.getD j 0)):=by
    intro j y;have e2:r[o+j]?=some r[o+j]:=by rw[AY]
    have z:=JJ (x j (I (zs.getD j 0)) _ (by simp[y]) e2);rw[z]at e2;simp[World.cell?,g3,e2]
   refine(slices_BinarySearch_int b o n cap zs c w DO DO f (hs.sublist (List.take_sublist _ _))).mono ?_;rintro e w' ⟨rfl,q,rfl⟩;obtain⟨s1,s2⟩:=g.drewN q;rw[Af DO];exact⟨_,_,_,_,rfl,⟨rfl,rfl⟩,(a _ _).mono s2,s1,s2⟩
theorem Zo3{n k:Nat}(a:k<n)(W:Nat->List Spot)(E:List Spot)(i:Nat)(x:List PV)(h:((W k).map ZV)[i]?=some x):(((List.range n).flatMap W++E).map ZV)[((List.range k).flatMap W).length+i]?=some x:=by
 obtain⟨m,rfl⟩:∃m,n=k+(m+1):=⟨n-k-1,by omega⟩;rw[Aj]at h ⊢;rw[Dj,Aq,List.append_assoc,Ak (C8 _ _),AI,CM];have hi:i<(W k).length:=by
  rcases Bh i (W k).length with e | e
  ·exact e
  ·rw[Ao e]at h;cases h
 rw[As DT];simp only[AD,Az,By];rw[As DO];exact h
theorem Zo4(W:Nat->List Spot)(k:Nat):((List.range (k+1)).flatMap W).length=((List.range k).flatMap W).length+(W k).length:=by
 rw[AO,Aq,Am];simp
theorem Zo5(l:List Int)(c:Int):(qe l).contains c=l.contains c:=by
 rw[DF,Cx,Cx];exact(Cc l _).mem_iff
theorem Zg1{x:Inst}{s:Stop}(hx:x.cust.length<=1048576)(h:yc x [s]≠1):qv s.c:=by
 have:=ZgK h;unfold jM at this;simp only[Ar,decide_eq_true_eq]at this;unfold qv;omega
theorem Zg2(x:Inst)(d:zt)(s:Stop)(hx:x.cust.length<=1048576)(v:DayOk d)(hf:d.flatten.length<=1048576):QL prog 352 [.ip [I s.c,I s.q],.ip (ZU x d)] ((qz x d s).map ZV):=by
 have p:=WX x [s] hx DP;have g:=Zo2 (qe (d.flatten.map (·.c))) s.c (by rw[QO,List.length_map];exact hf) (WU _);rw[Zo5]at g;generalize ((qe (d.flatten.map (·.c))).countP (·<s.c):Nat)=cnt at g;obtain⟨r,a0⟩:∃r,r=decide (¬(qe (d.flatten.map (·.c))).Nodup):=⟨_,rfl⟩;have u:r=decide (¬(d.flatten.map (·.c)).Nodup):=by rw[a0];exact decide_eq_decide.2 (not_congr (Cc _ _).nodup_iff)
 obtain⟨th,w⟩:∃th,th=(d.flatten.map (·.c)).contains s.c:=⟨_,rfl⟩;rw[<-w]at g;have a6:ZU x d=Zb x d (qe (d.flatten.map (·.c))) r (d.map (yc x)) (qj x d) (d.map jN) (d.map (j6 x)):=by rw[a0]
 rw[a6];obtain⟨on,a7⟩:∃on,on=qe (d.flatten.map (·.c)):=⟨_,rfl⟩;rw[<-a7]at g ⊢;obtain⟨y,h⟩:∃y,y=yc x [s]:=⟨_,rfl⟩;rw[<-h]at p;have a1:=v.n;refine WM func352 DU rfl ntmps352 (congrArg Array.toList results352) DP λl V keep nx J f hY A0 b=>?_
 refine ze (zD (some []) (Row.pures [0,1,2,3,4,5] (.alt 6 (.alt 7 (Row.pures [8] .done) .stop) .stop)) mixed trivial ?_);refine zO (ZcA s) trivial ?_;intro v0;refine DY ?_;refine zv p ?_;refine DY ?_;refine zv g ?_
 by_cases a:yc x [s]=1\/s.c∈d.flatten.map (·.c)\/¬(d.flatten.map (·.c)).Nodup\/x.veh<d.length
 ·have hz:qz x d s=[]:=by unfold qz;rw[if_pos a]
  rw[hz]at hY ⊢
  by_cases h1:y=1
  ·repeat apply ze
   refine zi [(2,30),(5,33),(9,37)] (zq h1 zB) ?_;exact zo rfl (zj (Zu (f _ _ b) rfl (by simpa using b)))
  cases h2:th with
  | true =>
   repeat apply ze
   refine zi [(2,30),(5,33),(9,37)] (zq h1 zB) ?_;exact zo rfl (zj (Zu (f _ _ b) rfl (by simpa using b)))
  | false =>
   cases h3:r with
   | true =>
    repeat apply ze
    refine zi [(2,30),(5,33),(9,37)] (zq h1 zB) ?_;exact zo rfl (zj (Zu (f _ _ b) rfl (by simpa using b)))
   | false =>
    have h4:x.veh<d.length:=by
     rcases a with e | e | e | e
     ·exact absurd (h.trans e) h1
     ·have:th=true:=by rw[w,Cx];exact e
      rw[h2]at this;cases this
     ·have:r=true:=by rw[u];exact decide_eq_true e
      rw[h3]at this;cases this
     ·exact e
    repeat apply ze
    refine zi [(2,30),(5,33),(9,37)] (zF h1 h4 zB) ?_;exact zo rfl (zj (Zu (f _ _ b) rfl (by simpa using b)))
 have h1:¬y=1:=λe=>a (.inl (h ▸ e))
 have h2:th=false:=by
  cases e:th with
  | false=>rfl
  | true=>rw[w,Cx]at e;exact absurd (.inr (.inl e)) a
 have h3:r=false:=by
  cases e:r with
  | false=>rfl
  | true=>rw[u]at e;exact absurd (.inr (.inr (.inl (of_decide_eq_true e)))) a
 have h4:¬x.veh<d.length:=λe=>a (.inr (.inr (.inr e)))
 have a2:=Zg1 hx (s:=s) (λe=>a (.inl e));obtain⟨WW,a3⟩:∃WW:Nat->List Spot,WW=λt=>Zz x t (d.getD t []) (yc x (d.getD t [])) (qj x d) (jN (d.getD t [])) (j6 x (d.getD t [])) s:=⟨_,rfl⟩
 obtain⟨EE,z⟩:∃EE:List Spot,EE=if qj x d=0/\yc x [s]=0/\(d.length:Int)<x.veh then [⟨d.length,0,W (yN x [s.c])⟩] else []:=⟨_,rfl⟩
 have hz:qz x d s=(List.range d.length).flatMap WW++EE:=by unfold qz;rw[if_neg a,a3,z]
 rw[hz]at hY ⊢;subst h2 h3
 repeat apply ze
 refine zi [(2,30),(5,33),(9,37)] (zF h1 h4 zB) ?_;refine zp rfl (zk ?_)
 repeat apply ze
 refine zg ?_;refine zn (jX (σ:=Nat × Store) (λs'=>s'.1<=d.length/\J ((List.range s'.1).flatMap WW).length s'.2) (λs'=>[(0,xC l),(1,.ip [I s.c,I s.q]),(2,.ip (Zb x d on false (d.map (yc x)) (qj x d) (d.map jN) (d.map (j6 x)))),(4,.ptr nx v0 0),(5,I d.length),(6,I y),(44,I d.length),(45,I s'.1)]) (λs'=>s'.2)
  (λ_=>[.cells v0 42 [L [s]]]) (λs'=>d.length-s'.1) (zZ (0,A0) [] (by simpa using b) DP rfl DP) ?_)
 rintro⟨k,A⟩ ⟨hk,hJ⟩;simp only at hk hJ ⊢;refine DY ?_;refine ze (zA rfl (λhc=>?_) (λhc=>?_))
 ·simp at hc;have i:d[k]?=some d[k]:=Ac hc;have hg:d.getD k []=d[k]:=by rw[Aa,i];rfl
  have hb:yc x d[k]=13->0<qj x d:=by
   intro e;rcases B1 (qj x d) with q | q
   ·rw[QU.1 q _ (Bc hc)]at e;cases e
   ·exact q
  have hw:=ZoK x d on false (d.map (yc x)) (qj x d) (d.map jN) (d.map (j6 x)) k d[k] s (yc x d[k]) (jN d[k]) (j6 x d[k]) (AF (Zgx x d) a1) a1 i (by rw[Aj,i];rfl) (by rw[Aj,i];rfl) (by rw[Aj,i];rfl) DP DP DP hb (v.t _ (Bc hc)) (v.s _ (Bc hc)) a2;have a8:WW k=Zz x k d[k] (yc x d[k]) (qj x d) (jN d[k]) (j6 x d[k]) s:=by rw[a3];simp only[hg]
  rw[<-a8]at hw;have a4:=Zo4 WW k;refine zk (ze (zn (DY ?_)));refine DY ?_;refine λj=>((ZgA hw keep hY _ (Zo3 hc WW EE) hJ _).mono ?_)
  rintro _ _ ⟨A',rfl,m,rfl⟩;rw[List.length_map,<-a4]at m;refine⟨_,_,rfl,zR j ?_⟩;refine zp rfl (zk (zg ?_));exact zu (k+1,A') [] ⟨hc,m⟩ DT (by simp[zy k (by omega)]) rfl DP
 ·simp at hc;obtain rfl:k=d.length:=DO
  refine zC ?_
  by_cases he:qj x d=0/\yc x [s]=0/\(d.length:Int)<x.veh
  ·have hE:EE=[⟨d.length,0,W (yN x [s.c])⟩]:=by rw[z,if_pos he]
   obtain⟨e1,e2,e3⟩:=he;have a5:=WT x [s] DP (by simpa using a2);have h5:y=0:=h.trans e2;have hy:(((List.range d.length).flatMap WW++EE).map ZV)[((List.range d.length).flatMap WW).length]?=some (ZV ⟨d.length,0,W (yN x [s.c])⟩):=by
    rw[Aj,Ak (Ag _),Bz,hE];rfl
   simp only[AD,Bp]at a5;refine ze (zi [(3,58),(7,62)] (zS e1 h5 e3 zB) ?_);refine zo rfl (zg ?_);refine zv a5 ?_;refine λj=>XA rfl rfl rfl (hY _ _ _ _ hy hJ) ?_
   rintro _ ⟨A',m,rfl⟩;refine⟨_,_,rfl,zR j ?_⟩;exact Zu (f _ _ m) rfl (by rw[List.length_map,Am,hE];exact m)
  ·have hE:EE=[]:=by rw[z,if_neg he]
   have o:J (((List.range d.length).flatMap WW++EE).map ZV).length A:=by rw[hE,AH,List.length_map];exact hJ
   by_cases e1:qj x d=0
   ·by_cases e2:y=0
    ·have e3:¬(d.length:Int)<x.veh:=λe=>he ⟨e1,h ▸ e2,e⟩
     refine ze (zi [(3,58),(7,62)] (zS e1 e2 e3 zB) ?_);exact zp rfl (zk (Zu (f _ _ hJ) rfl o))
    ·refine ze (zi [(3,58),(7,62)] (zF e1 e2 zB) ?_);exact zp rfl (zk (Zu (f _ _ hJ) rfl o))
   ·refine ze (zi [(3,58),(7,62)] (zq e1 zB) ?_);exact zp rfl (zk (Zu (f _ _ hJ) rfl o))
open Go Go.Proofs
theorem Zo6(id v:Nat)(cs:List PV)(d:zt):(d.flatMap Enc.enc).map (qO id v cs)=(d.flatMap Enc.enc:List PV):=DP
theorem Zo7(id v:Nat)(cs:List PV)(d:zt)(t:Nat)(p:PV):((d.flatMap Enc.enc).set t p).map (qO id v cs)=(d.flatMap Enc.enc:List PV).set t (qO id v cs p):=DP
theorem Zg3:∀(d:zt) (t:Nat) (l:zU),(d.flatMap Enc.enc:List PV).set t (L l)=(d.set t l).flatMap Enc.enc
 | [],t,l=>rfl
 | m :: d,0,l=>rfl
 | m :: d,t+1,l=>by
  rw[AV,Az,Az,<-Zg3 d t l];rfl
theorem Zo8{S:Store}{nx m:Nat}{obs:List Ob}(x y:Ob)(hm:m=nx+obs.length):((ext S nx obs).set (m+3) x).set (m+4) y=ext S nx (obs++[.dead,.dead,.dead,x,y]):=by
 subst hm;rw[WO 3];have:=jr (S:=S) (nx:=nx) (obs:=obs++List.replicate 3 .dead++[x]) y
 grind
theorem Zo9(d:zt)(a:d.length<=1048576)(b:∀l∈d,l.length<=1048576)(S:Store)(nx:Nat)(c:yd nx S):
  Spec prog 337 [.agg [L d]] S (λp S'=>∃v,p=.agg [.sl (nx+3) v 1 0 d.length]/\S'=S.set (nx+3) (.cells v 42 (d.flatMap Enc.enc))):=by
 refine(ZcW d d.length a b DP S nx c).mono ?_;rintro _ _ ⟨v,f,ob,⟨h1,h2,-⟩,rfl,rfl⟩;obtain⟨rfl,rfl⟩:=h2 (Ag _);rw[Ai];refine⟨v,rfl,?_⟩;funext o
 by_cases e:o=nx+4
 ·subst e;rw[q11,q10 _ _ _ _ DO,c _ DO]
 simp_all[q10]
theorem Zpa(cs:List PV)(i:Nat)(p q:PV)(h:i<cs.length):yk (cs.set i p) i [q]=cs.set i q:=by
 unfold yk;rw[AE,if_pos h,AE,if_pos h];have hl:(cs.take i).length=i:=by rw[Ax];omega
 simp_all[Cs]
theorem Zg4(id v sz k:Nat)(cs:List PV)(h:k*sz=cs.length):qO id v cs (.sl id v sz 0 k)=.lst k cs:=by simp[qO,h]
theorem Zc8{α β:Type}{f:β->α->β}{b:β}{l:List α}{i:Nat}{a:α}(h:l[i]?=some a):(l.take (i+1)).foldl f b=f ((l.take i).foldl f b) a:=by grind[List.take_succ_eq_append_getElem]
theorem Zpb{x:Inst}{d:zt}{s:Stop}{b:Spot}(h:b∈qz x d s)(hb:b.t≠d.length):∃l,d[b.t]?=some l/\0<l.length/\b.p<=l.length:=by
 obtain⟨-,-,-,-,h⟩:=W6 h;rcases h with ⟨l,hl,hi,ho,-⟩ | ⟨rfl,-⟩
 ·refine⟨l,hl,?_,hi⟩;have a:yc x l=0\/yc x l=13:=by
   by_cases hf:yc x l=13
   ·exact .inr hf
   ·rw[if_neg hf]at ho;exact .inl (QU.1 DO l (Ab hl))
  have c:jD x l=true:=by
   cases e:jD x l with
   | true=>rfl
   | false=>rw[Zc2 e]at a;rcases a with h | h<;>cases h
  exact Bs.2 (ZaN c)
 ·exact absurd rfl hb
theorem Zpc{x:Inst}{d:zt}{s:Stop}{b:Spot}(h:b∈qz x d s):b.t<=d.length:=by
 obtain⟨-,-,-,-,h⟩:=W6 h;rcases h with ⟨l,hl,-⟩ | ⟨rfl,-⟩
 ·exact DE (Ad.1 hl).1
 ·exact Ag _
theorem Zc9(x:Inst)(d:zt)(s:Stop)(hx:x.cust.length<=1048576)(z:DayOk d)(hf:d.flatten.length<=1000000):Pure prog 323 [.agg (zE x),.agg [L d],.agg [I s.c,I s.q]] (.tup [.agg [L (yZ x d s).1],B (yZ x d s).2]):=by
 have hit:=Zg2 x d s hx z DO;have a5:=Zgy x d hx z DO;have k:=λh=>ZaL (l:=qz x d s) h
 have a7:∀b∈qz x d s,b.t<=d.length:=λb hb=>Zpc hb
 have a0:∀b∈qz x d s,b.t≠d.length->∃l,d[b.t]?=some l/\0<l.length/\b.p<=l.length:=λb hb=>Zpb hb
 have w:yZ x d s=bif (ZW (qz x d s)).2 then (xn d (ZW (qz x d s)).1 s,true) else (d,false):=rfl
 have a8:=Zgv (ZU x d) s rfl;rw[w];clear w;generalize qz x d s=xs at *;generalize d1:ZU x d=lk at *;have a1:=z.n;have u:∀l∈d,l.length<=1000000:=λl hl=>AF (Y8 hl).length_le hf
 refine zx func323 ntmps323 results323 λS nx hd=>?_
 refine DY ?_;intro v0 v1 v2 v3;refine DY ?_;intro v4 v5
 repeat apply ze
 refine zD none (Row.pures [0,1,2,3,4] .done) mixed trivial ?_;refine zO (a5) trivial ?_;refine zO (a8) trivial ?_;refine zn (JE (xs:=xs.map ZV) (σ:=Spot × Bool) (λi st=>st=(xs.take i).foldl Y9 (⟨0,0,0⟩,false)) [(3,.ptr nx v0 0),(4,.ptr (nx+1) v1 0),(5,.ptr (nx+2) v2 0),(6,.ptr (nx+3) v3 0),(8,.ptr (nx+4) v4 0),(9,.ptr (nx+5) v5 0)] (λ_=>S)
  (λ(b,g)=>[.cells v0 25 (zE x),.cells v1 39 [L d],.cells v2 100 [I s.c,I s.q],.cells v3 39 [yD],.cells v4 400 [I b.t,I b.p,I b.m],.cells v5 4 [B g]]) (⟨0,0,0⟩,false)
  hit rfl (by intro x hx;obtain⟨y,_,rfl⟩:=Al.1 hx;rfl) DV DP DP rfl DP DP ?_ ?_)
 ·rintro l i ⟨b,g⟩ more y o hy;simp only at o ⊢;rw[Aj]at hy;obtain⟨p,hp,rfl⟩:=Ap.1 hy;have a:=Zc8 (f:=Y9) (b:=(⟨0,0,0⟩,false)) hp;rw[<-o]at a;unfold Y9 at a;simp only at a;refine zg ?_;intro v6;refine zn ?_;cases g with
  | false =>
   rw[if_pos (.inl rfl)]at a;refine ze (zi [(2,21)] zB ?_);refine zo rfl (zg ?_);simp only[jW];exact wU (p,true) [_] a.symm rfl DQ
  | true =>
   by_cases hm:p.m<b.m
   ·rw[if_pos (.inr hm)]at a;refine ze (zi [(2,21)] (zq hm zB) ?_);refine zo rfl (zg ?_);simp only[jW];exact wU (p,true) [_] a.symm rfl DQ
   ·rw[if_neg (by simp[hm])]at a;refine ze (zi [(2,21)] (zq hm zB) ?_);refine zp rfl (zk ?_);simp only[jW];exact wU (b,true) [_] a.symm rfl DQ
 ·rintro⟨b,g⟩ o;simp only[List.length_map,Ai]at o ⊢;have a9:ZW xs=(b,g):=o.symm;rw[a9]at k ⊢;simp only at k ⊢;cases g with
  | false =>
   simp only[cond_false];refine DY ?_;refine zv (ZoG d a1 (λl hl=>AF (u l hl) DV)) ?_;refine ze (zn (DY ?_));refine zo rfl (DY ?_);exact zj (zm hd DQ (by simp[zr]))
  | true =>
   have hb:=k rfl;have d2:=a7 b hb;simp only[cond_true]
   by_cases a2:b.t=d.length
   ·have a3:xn d b s=d++[[s]]:=by unfold xn;rw[if_pos a2]
    rw[a3];have a4:(d.flatMap Enc.enc:List PV).length=d.length:=xD d;have a6:(d.flatMap Enc.enc:List PV).take d.length=d.flatMap Enc.enc:=Af DO;have d3:((d++[[s]]).flatMap Enc.enc:List PV)=d.flatMap Enc.enc++[L [s]]:=by rw[Aq];rfl
    refine DY ?_;refine λr=>((Zo9 d a1 (λl hl=>AF (u l hl) DV) _ _ xB).mono ?_).v
    rintro _ _ ⟨v7,rfl,rfl⟩;refine⟨_,_,WO 3 _,xl [] Nat.add_assoc r ?_⟩;generalize b7:(d.flatMap Enc.enc:List PV)=ds at *;refine ze (zn (DY ?_));refine zp rfl (DY ?_);refine zo DT ?_;refine zD (some [nx+2]) (Row.pures [0,2,3,4] (.alt 1 (.alt 5 (Row.pures [6] (.alt 7 (.done) .stop)) .stop) .stop)) mixed (zq a4 a6) ?_;refine zO (ZcA s) (zq a4 a6) ?_;refine⟨by omega,?_⟩;refine yh 9 rfl ?_;refine DY ?_;exact zj (zm hd DQ (by simp[zr,a4,b7]))
   ·obtain⟨l,hl,b8,hp⟩:=a0 b hb a2;have j:b.t<d.length:=DO
    have a3:xn d b s=d.set b.t (xP l b.p s):=by unfold xn;rw[if_neg a2,Aa,hl];rfl
    have c6:=u l (Ab hl);rw[a3];refine DY ?_;refine λr=>((ZoH d b.t l a1 (λl hl=>AF (u l hl) DV) hl b8 _ _ xB).mono ?_).v
    rintro _ _ ⟨v7,w7,rfl,rfl⟩;refine⟨_,_,Zo8 _ _ rfl,xl [] Nat.add_assoc r ?_⟩;refine ze (zn (DY ?_));refine zp rfl (DY ?_);refine zp DT ?_;refine ze (zi [] j ?_);refine zD (some [nx+4,nx+2]) (Row.pures [0,1,2,3,5,6,7,8] (.alt 4 (.alt 9 (Row.pures [10,11] (.alt 12 (.done) .stop)) .stop) .stop)) mixed j ?_
    skip
    refine((ZoD l b.p s hp c6 DP).mono ?_).v;rintro _ _ ⟨rfl,rfl⟩;have c7:((xP l b.p s).flatMap Enc.enc:List PV).length=(l.length+1)*2:=by
     have e:=(W7 l s b.p).length_eq;rw[QM,e];simp
    have c8:L (xP l b.p s)=.lst (l.length+1) ((xP l b.p s).flatMap Enc.enc):=by
     have e:=(W7 l s b.p).length_eq
     show PV.lst _ _=_
     rw[e];rfl
    rw[show l.take b.p++s :: l.drop b.p=xP l b.p s from rfl];generalize d4:((xP l b.p s).flatMap Enc.enc:List PV)=cs at *;rw[yl _ DO DP,AI];refine⟨by simp[yR],jY j ?_⟩;refine⟨by omega,?_⟩;rw[Zpa _ _ _ _ (by rw[xD];exact j)];have d0:qO (nx+10) (w7+1) cs (.sl (nx+10) (w7+1) 2 0 (l.length+1))=L (xP l b.p s):=by
     rw[Zg4 _ _ _ _ _ c7.symm,c8]
    have e9:qO (nx+9) v7 ((d.set b.t (xP l b.p s)).flatMap Enc.enc) (.sl (nx+9) v7 1 0 d.length)=L (d.set b.t (xP l b.p s)):=by
     rw[Zg4 _ _ _ _ _ (by rw[xD];simp)]
     show _=PV.lst _ _
     rw[BJ]
    have n9:qO (nx+10) (w7+1) cs (.sl (nx+9) v7 1 0 d.length)=.sl (nx+9) v7 1 0 d.length:=by
     simp only[qO];rw[if_neg DO]
    refine yh 10 rfl ?_;simp only[AD,Bp,AV,A7,wB,Zo7,d0,Zg3,n9];refine yh 9 rfl ?_;simp only[AD,Bp,AV,A7,wB,e9];refine ze (zi [] (zq e9 n9) ?_);exact zj (zm hd DQ (by simp[zr]))
open Go Go.Proofs
theorem Zg5{α:Type}(f:Nat->List α)(m:Nat):∀n,(∀t,t<n->(f t).length<=m)->((List.range n).flatMap f).length<=n*m
 | 0,_=>by simp
 | n+1,h=>by
  rw[AO,Aq,Am];have h1:=Zg5 f m n λt a=>h t DO
  have h2:=h n DO;simp only[Az,Ct,AH];rw[Nat.add_mul,DK];omega
theorem Zpd{d:zt}(h1:d.length<=1000000)(h2:d.flatten.length<=1000000):(QV d).length<=1000001*1000001:=by
 unfold QV;refine AF (Zg5 _ 1000001 _ λt _=>?_) (Cl _ DO);rw[List.length_map,List.length_range,Aa];cases a:d[t]? with
 | none=>simp
 | some l =>
  have:=(Y8 (Ab a)).length_le;simp only[Option.getD_some];omega
theorem Zpe{x:Inst}{d:zt}{s:Stop}(a:yE x d=0)(h1:d.length<=1000000)(h2:d.flatten.length<=1000000):(qz x d s).length<=1000001*1000001:=by
 rw[ZoV a];exact AF (CD _ _) (Zpd h1 h2)
theorem Zpf(cs:List PV)(v:PV)(h:0<cs.length):yk cs (cs.length-1) [v]=cs.set (cs.length-1) v:=by
 unfold yk;rw[AE,if_pos DO];simp
theorem Zg6:∀(l:List Int) (k:Nat) (v:Int),(l.flatMap Enc.enc:List PV).set k (I v)=(l.set k v).flatMap Enc.enc
 | [],k,v=>rfl
 | a :: l,0,v=>rfl
 | a :: l,k+1,v=>by
  rw[AV,Az,Az,<-Zg6 l k v];rfl
theorem Zpg(st:List Int × Int)(p:Spot):(vG st p).1.length<=st.1.length+1:=by
 unfold vG;split<;>simp
def Zda(st:List Int × Int):Prop:=st.2=-1\/0<st.1.length
theorem Zph{st:List Int × Int}(h:Zda st)(p:Spot):Zda (vG st p):=by
 unfold vG;split
 ·exact .inr DP
 ·rename_i e;rcases h with h | h
  ·exfalso;simp only[ne_eq]at e;omega
  ·exact .inr (by simpa using h)
theorem Zpi(x:Inst)(d:zt)(s:Stop)(hx:x.cust.length<=1048576)(a9:DayOk d)(h0:yE x d=0)(h1:d.length<=1000000)(h2:d.flatten.length<=1000000):Pure prog 351 [.agg (ZU x d),.agg [I s.c,I s.q]] (L (XP x d s)):=by
 have hit:=Zg2 x d s hx a9 DO;have n:=Zo0 (s:=s) h0;have d0:=Zpe (s:=s) h0 h1 h2;have a0:=Zo1 x d s (d.length+1);have a3:=Zgv (ZU x d) s rfl;unfold XP;rw[<-n]at a0 ⊢;clear n;generalize qz x d s=xs at *;obtain⟨on,tw,fs,bd,ls,ws,a4⟩:∃on tw fs bd ls ws,ZU x d=Zb x d on tw fs bd ls ws:=⟨_,_,_,_,_,_,rfl⟩;rw[a4]at hit a3 ⊢;clear a4;refine zx func351 ntmps351 results351 λS nx hd=>?_
 refine DY ?_;intro v0 v1;refine DY ?_;intro v2;refine DY ?_;intro v3
 repeat apply ze
 refine zg ?_;refine zv a3 ?_;refine jd 2 0 3 1 rfl rfl λv4=>?_
 refine zn (JE (xs:=xs.map ZV) (σ:=(List Int × Int) × Nat) (λi st=>st.1=(xs.take i).foldl vG ([],-1)/\Zda st.1/\st.1.1.length<=i/\i<=xs.length) [(2,.ptr nx v0 0),(3,.ptr (nx+1) v1 0),(5,.ptr (nx+2) v2 0),(6,.ptr (nx+3) v3 0)] (λ_=>S)
  (λ((l,a),v4)=>[.cells v0 395 (Zb x d on tw fs bd ls ws),.cells v1 100 [I s.c,I s.q],.cells v2 26 [.sl (nx+4) v4 1 0 l.length],.cells v3 3 [I a],.cells v4 3 (l.flatMap Enc.enc)]) (([],-1),v4)
  hit rfl (by intro x hx;obtain⟨y,_,rfl⟩:=Al.1 hx;rfl) DV DP ⟨rfl,.inl rfl,by simp,by simp⟩ rfl DP DP ?_ ?_)
 ·rintro lp i ⟨⟨l,a⟩,v4⟩ more y ⟨o,a1,b7,hi⟩ hy;simp only at o a1 b7 hi ⊢;rw[Aj]at hy;obtain⟨p,hp,rfl⟩:=Ap.1 hy;have h:=Zc8 (f:=vG) (b:=([],-1)) hp;rw[<-o]at h;have k:=Zph a1 p;have w:=Zpg (l,a) p;simp only at w;have d1:=(Ad.1 hp).1;have g:vG (l,a) p=vG (l,a) p:=rfl
  conv at g=>rhs;unfold vG
  simp only at g;have j:(l.flatMap Enc.enc:List PV).length=l.length:=jL l;have b8:(l.flatMap Enc.enc:List PV).take l.length=l.flatMap Enc.enc:=Af DO;refine zg ?_;intro v5;refine zn ?_
  repeat apply ze
  refine zg ?_
  by_cases u:(p.t:Int)=a
  ·have d2:0<l.length:=by
    rcases a1 with e | e
    ·simp only at e;omega
    ·exact e
   obtain⟨m,hm⟩:∃m,l.length=m+1:=⟨l.length-1,by omega⟩;obtain⟨z,tz,z1,z2,z3,z0⟩:=zN rfl l m DO;rw[if_neg (by simp[u])]at g;have c6:l.getD (l.length-1) 0=z:=by rw[hm,B5,Aa,z1];rfl
   rw[c6]at g;have wm:IntKind.i64.wrap ((l.length:Int)-1)=(m:Int):=by rw[wr _ DO DO];omega
   have a5:m<l.length:=DO
   have a6:1<=l.length-m:=DO
   have a2:=Zpf (l.flatMap Enc.enc) (I (if p.m<z then p.m else z)) DO;rw[j,Zg6]at a2;have r:jJ z p.m=if p.m<z then p.m else z:=rfl
   refine zp (by simp[u]) ?_;refine zk ?_;rw[show l.length-1=m by omega]at a2;refine zD (some [nx+2,nx+(more.length+5)]) (Row.pures [0,1,2,3,4,5,6,7,8,10,11] (.alt 9 (Row.pures [12,13] (.alt 14 (.done) .stop)) .stop)) mixed (zW wm a5 a6 z0 r j) ?_;refine⟨by omega,?_⟩;simp only[jW];rw[hm,B5]at g;rw[g]at h k;refine wU ((l.set m (if p.m<z then p.m else z),a),v4) [_] ⟨h.symm,k,by simp;omega,by omega⟩ rfl (by simp[a2];rfl)
  ·rw[if_pos u]at g;rw[g]at h k w;have w0:IntKind.i64.wrap (l.length:Int)=(l.length:Int):=wr _ DO DO;have w2:(l.length:Int)<(l.length:Int)+1:=DO
   have r:jJ p.m p.m=p.m:=by unfold jJ;split<;>rfl
   have c7:(l.flatMap Enc.enc++[I p.m]:List PV)[l.length]?=some (I p.m):=by rw[Ak DO,j,Bz];rfl
   have d3:(l.flatMap Enc.enc++[I p.m]:List PV).drop l.length=[I p.m]:=by rw[<-j,List.drop_left]
   have a7:yk (l.flatMap Enc.enc++[I p.m]:List PV) l.length [I p.m]=l.flatMap Enc.enc++[I p.m]:=by
    unfold yk;rw[<-j,List.take_left,AX DP];simp
   refine zo (by simp[u]) ?_;refine zD (some [nx+(more.length+5)]) (Row.pures [1,2,3,5,6] (.alt 0 (.alt 4 (.alt 7 (.alt 8 (.done) .stop) .stop) .stop) .stop)) mixed (zq j b8) ?_;refine⟨by omega,?_⟩;refine zD (some [nx+2,nx+(more.length+5)]) (Row.pures [0,1,2,3,4,5,6,7,8,10,11] (.alt 9 (Row.pures [12,13] (.alt 14 (.done) .stop)) .stop)) mixed (yr w0 w2 r c7 j) ?_;simp only[jW];refine wU ((l++[p.m],(p.t:Int)),v4+1) [_] ⟨h.symm,k,by simp;omega,by omega⟩ rfl (by simp[a7];rfl)
 ·rintro⟨⟨l,a⟩,v4⟩ ⟨o,-⟩;simp only[List.length_map,Ai]at o ⊢;rw[<-o]at a0 ⊢;simp only at a0 ⊢;have c8:=QO l;refine DY ?_;refine λa8=>((Zay l DP DO).mono ?_).v
  rintro _ _ rfl;refine⟨_,_,yl _ DO DP,xl [] (show nx+4-nx=4 by omega) a8 ?_⟩;generalize qe l=c at *;rw[<-c8];refine yh 4 rfl ?_;refine DY ?_;exact DZ hd
open Go Go.Proofs Go.Shelf Go.RowKit Go.Lib
theorem Zpj{P:Program}(b o:Nat)(vs:List Value)(w:World)(cur:Array Value)(t:TypeId)(d:w.heap[b]?=some (.cells cur t (0,0)))(hl:o+vs.length<=cur.size)(h1:∀v∈vs,v.oneCell'=true):
  w.setCells b o vs=w.setRow b (cur.toList.take o++vs++cur.toList.drop (o+vs.length)).toArray:=by
 have a:=run_storeCells_cells (P:=P) b o vs 0 w (λj e=>by simp[World.cell?,d];omega) (λj _=>by simp[World.frozen?,d]) h1;have c:=run_storeCells_at (P:=P) b o t vs 0 cur w d (by simpa using hl) h1;rw[a]at c;simpa using c
theorem Zpk(a:Array Value):(Builtin.zeroCells a 1).toList=a.toList:=by
 apply A3
 ·simp[Builtin.zeroCells]
 ·intro i h1 h2;simp[Builtin.zeroCells,C7 (show i<a.size by simpa using h2)];exact getElem!_pos a i (by simpa using h2)
theorem Zpl{P:Program}(w:World)(t e ty:TypeId)(a:Array Value)(d:P.underlying t=some (.slice e))(hv:∀w,(zeroValue e).run P w=.ok (.agg a) w)(h1:∀v∈a.toList,v.oneCell'=true)(b o c:Nat)(cur:Array Value)(t':TypeId)(f:w.heap[b]?=some (.cells cur t' (0,0)))(hl:o+a.size<=cur.size):
  (Builtin.clear_ #[t] ty #[.slice (some ⟨b,o,none⟩) 1 c]).run P w=.ok (.tuple #[]) (w.setRow b (cur.toList.take o++a.toList++cur.toList.drop (o+a.size)).toArray):=by
 have c:=run_storeCells_at (P:=P) b o t' a.toList 0 cur w f (by simpa using hl) h1;simp only[By,Array.length_toList]at c;simp[Builtin.clear_,run_underlying d,hv,Zpk,c]
theorem Zpm(b n c i:Nat)(V:List Value)(w:World)(i0:TypeInfo)(y:prog.info? 100=some i0)(z:i0.size=2)(cur:Array Value)(d:w.heap[b]?=some (.cells cur 100 (0,0)))(p:cur.size=c*2)
  (hi:i<n) (a1:n<=c) (a0:c<=9223372036854775807) (hn:n<=1048576) (hV:V.length=n*2) (q:cur.toList.take (n*2)=V) (h1:∀v∈V,v.oneCell'=true) (R1 R2:Array Value)
  (m:R1=(cur.toList.take (i*2)++V.drop ((i+1)*2)++cur.toList.drop (i*2+(V.drop ((i+1)*2)).length)).toArray) (r:R2=(R1.toList.take ((i+(n-(i+1)))*2)++([.int .i64 0,.int .i64 0]:List Value)++R1.toList.drop ((i+(n-(i+1)))*2+2)).toArray) :
  Calls prog 335 #[.slice (some ⟨b,0,none⟩) n c,.int .i64 i,.int .i64 ((i:Int)+1)] w λe w' =>
   e=.returned (.slice (some ⟨b,0,none⟩) (i+(n-(i+1))) c)/\w'=(w.drew.setRow b R1).setRow b R2:=by
 obtain⟨news,a⟩:∃news,news=V.drop ((i+1)*2):=⟨_,rfl⟩;have f:news.length=(n-(i+1))*2:=by rw[a,Bo,hV];omega
 have k:∀t u,news[t]?=some u->w.drew.cell? ⟨b,(i+1)*2+t,none⟩=some u:=by
  intro t u g;rw[a,AP,<-q,BI]at g;split at g
  ·rw[Array.getElem?_toList]at g
   show w.cell? _=_
   simp[World.cell?,d,g]
  ·cases g
 obtain⟨A,hA,s⟩:∃A:Addr,(if c=i+1 then some (⟨b,0,none⟩:Addr) else some ⟨b,(i+1)*2,none⟩)=some A/\Hid (∀t u,news[t]?=some u->w.drew.cell? (A.add t)=some u):=by
  by_cases h:c=i+1
  ·refine⟨⟨b,0,none⟩,by simp[h],λt u g=>?_⟩;have h0:news.length=0:=by rw[f];omega
   rw[Cq.1 h0]at g;simp at g
  ·refine⟨⟨b,(i+1)*2,none⟩,by simp[h],λt u g=>?_⟩;rw[Addr.add_lit];exact k t u g
 have s1:Hid (news.length=(n-(i+1))*2):=f;have s2:Hid (∀u∈news,u.oneCell'=true):=λu g=>h1 u (by rw[a]at g;exact Ck g)
 have s3:Hid (∀t,t<news.length->(w.drew.cell? ⟨b,0+i*2+t,none⟩).isSome=true/\w.drew.frozen? ⟨b,0+i*2+t,none⟩=false):=by
  intro t ht;rw[f]at ht;refine⟨?_,?_⟩
  ·show (w.cell? _).isSome=true
   simp[World.cell?,d];omega
  ·show w.frozen? _=false
   simp[World.frozen?,d]
 obtain⟨W1,o⟩:∃W1,W1=w.drew.setCells b (0+i*2) news:=⟨_,rfl⟩;have j:W1=w.drew.setRow b R1:=by
  rw[o,Zpj (P:=prog) b (0+i*2) news w.drew cur 100 d (by rw[f,p];omega) s2,m,a,AS]
 have l:W1.heap[b]?=some (.cells R1 100 (0,0)):=by rw[j];exact setRow_heap _ _ _ _ _ _ d
 have x:R1.size=c*2:=by rw[m,<-a];simp[f];omega
 have a2:∀ty,(Builtin.clear_ #[40] ty #[.slice (some ⟨b,(i+(n-(i+1)))*2,none⟩) (n-(i+(n-(i+1)))) (c-(i+(n-(i+1))))]).run prog W1=.ok (.tuple #[]) (W1.setRow b R2):=λty=>by
  have:=Zpl (P:=prog) W1 40 100 ty #[.int .i64 0,.int .i64 0] underlying40 zeroValue100 (by intro v hv;simp at hv;rcases hv with rfl | rfl<;>rfl) b ((i+(n-(i+1)))*2) (c-(i+(n-(i+1)))) R1 100 l DT;rw[show n-(i+(n-(i+1)))=1 by omega,this,r];simp
 have hW:Hid (W1=w.drew.setCells b (0+i*2) news):=o;have hX:Hid (W1=w.drew.setRow b R1):=j;clear o j l m r x d q k a f h1 hV p;have a3:i<=c:=DO
 have a4:i+1<=c:=DO
 have a5:i<=n:=DO
 have a6:i+1<=n:=DO
 have a7:¬(i:Int)=(i:Int)+1:=DO
 have a8:(0:Int)<=(i:Int)+1:=DO
 have a9:((i:Int)+1).toNat=i+1:=DO
 have b7:(i:Int)+1<=(n:Int):=DO
 have b8:(i:Int)<=(i:Int)+1:=DO
 have c6:¬c=i+(n-(i+1)):=DO
 have c7:i+(n-(i+1))<=n:=DO
 have mixed:prog.follows .mixedOrders=true:=DR
 go_enter func335,ntmps335
 go_wp2_with fail
 go_region_law_o (refine step_append_room rfl (.tmp 22) (.tmp 25) 40 rfl 100 i0 2 underlying40 y z b 0 i c (by simp[Act.eval,Act.put]) A (n-(i+1)) (c-(i+1)) news (by simp[Act.eval,Act.put]) s1.out s.out s2.out DO s3.out ?_;rw[<-hW.out])
 go_wp2
 go_ret
 exact⟨rfl,by rw[hX.out]⟩
theorem Zpn(l:List Stop)(i:Nat)(h:i<l.length):yy (l.eraseIdx i)=(yy l).take (i*2)++(yy l).drop ((i+1)*2):=by
 rw[CU,Zcw,ZfR l i DO,ZfS l (i+1) DO]
theorem Zpo{S:Store}{id ver:Nat}(cs:List Stop)(i:Nat)(hi:i<cs.length)(hn:cs.length<=1000000)(hid:S id=.cells ver 100 (cs.flatMap Enc.enc)):
  Spec prog 335 [.sl id ver 2 0 cs.length,I i,I ((i:Int)+1)] S (λp S'=>p=.sl id (ver+1) 2 0 (cs.eraseIdx i).length/\S'=S.set id (.cells (ver+1) 100 ((cs.eraseIdx i).flatMap Enc.enc))):=by
 refine⟨qx func335 DU rfl,?_⟩;intro C w vs hS hl hr;obtain⟨u,v,x,rfl⟩:=ZfT hl;obtain rfl:=JJ (hr 1 _ v rfl rfl);obtain rfl:=JJ (hr 2 _ x rfl rfl);have hu:=hr 0 _ u rfl rfl;have a:(yy cs).length=cs.length*2:=XG cs;have o:(cs.eraseIdx i).length=i+(cs.length-(i+1)):=by rw[BT hi];omega
 have q:=Zpn cs i hi;have m:(yy (cs.eraseIdx i)).length=(i+(cs.length-(i+1)))*2:=by rw[XG,o]
 rw[ZfQ]at hid ⊢;rw[o];generalize cs.eraseIdx i=es at *;obtain⟨i0,r⟩:=B4.1 Zcn;have hc:=Zcm;simp only[Program.cellsOf,r,A4,Option.getD_some]at hc;cases hu with
 | sl h1 h2 h3 =>
  obtain⟨ad,cap,rfl,q1,q2,q3,q4⟩:=h1;have s:=(h3 ver (by rw[hid];rfl)).2 rfl;rcases hS.cells id ver _ _ hid with ⟨c6,t⟩ | ⟨b,k,c,g1,g2,g3,g4,g5,g6⟩
  ·have:=congrArg List.length t;simp[a]at this;exfalso;omega
  rcases s with ⟨z1,_⟩ | ⟨b',k',c7,b8,z1,z2,z3,z4⟩
  ·rw[g1]at z1;cases z1
  rw[g1]at z1;cases z1;cases z2;obtain⟨rfl,z⟩:=z3 rfl;rw[List.length_map,a]at g4;have d:∀(j:Nat) v,(yy cs)[j]?=some v->c[j]?=some v:=by
   intro j v hj;have c8:=(Ad.1 hj).1;have e2:c[j]?=some c[j]:=AY DO;have:=g6 j (.sc v) _ (by rw[Aj,hj];rfl) e2;rw[e2];generalize c[j]=y at this;cases this;rfl
  have f:c.toList.take (cs.length*2)=yy cs:=by
   apply A8;intro j
   by_cases hj:j<cs.length*2
   ·rw[AL hj,Array.getElem?_toList];have e:(yy cs)[j]?=some (yy cs)[j]:=Ac DO;rw[e,d j _ e]
   ·rw[Ao DT,Ao DO]
  have a0:c.size=cap*2:=g3.trans z.symm;have a7:((yy cs).drop ((i+1)*2)).length=(cs.length-(i+1))*2:=by rw[Bo,a];omega
  obtain⟨R1,n⟩:∃R1:Array Value,R1=(c.toList.take (i*2)++(yy cs).drop ((i+1)*2)++c.toList.drop (i*2+((yy cs).drop ((i+1)*2)).length)).toArray:=⟨_,rfl⟩;obtain⟨R2,a1⟩:∃R2:Array Value,R2=(R1.toList.take ((i+(cs.length-(i+1)))*2)++([.int .i64 0,.int .i64 0]:List Value)++R1.toList.drop ((i+(cs.length-(i+1)))*2+2)).toArray:=⟨_,rfl⟩;have a8:c.toList.take (i*2)=(yy cs).take (i*2):=by rw[<-f,DI,Bf DO]
  have a2:R1.toList.take ((i+(cs.length-(i+1)))*2)=yy es:=by
   rw[n];simp only[];rw[a8,<-q,<-m,List.take_left]
  have a3:R1.size=cap*2:=by rw[n];simp[a7];omega
  have g:R2.toList=yy es++(([.int .i64 0,.int .i64 0]:List Value)++R1.toList.drop ((i+(cs.length-(i+1)))*2+2)):=by
   rw[a1,a2];simp
  have a4:R2.size=cap*2:=by
   rw[<-Array.length_toList,g];simp[m,a3];omega
  refine(Zpm b cs.length cap i (yy cs) w i0 r hc c g2 a0 hi q1 (by unfold maxLen at q3;omega) DO a f (XH cs) R1 R2 n a1).mono ?_;rintro e w' ⟨rfl,rfl⟩;obtain⟨r1,r2⟩:=Zcx (C:=C) (S:=S) (w:=w) g (XH _);have a9:=setRow_heap w.drew b c R1 _ _ g2;obtain⟨t1,t2⟩:=hS.turn (l:=some (b,cap*2)) (ver':=ver+1) (cs':=(yy es).map .sc) hid DO (λh=>absurd h DO) (w':=(w.drew.setRow b R1).setRow b R2)
   (by
    rw[g1];refine⟨⟨rfl,rfl,rfl,by simp[World.setRow],λj hj b7=>?_⟩,CO _⟩;have a5:j≠b:=λe=>b7 (by rw[e];rfl)
    rw[setRow_other _ _ _ _ a5,setRow_other _ _ _ _ a5];rfl)
   (.inr ⟨b,cap*2,R2,rfl,.inr (by rw[g1];rfl),setRow_heap _ _ _ _ _ _ a9,a4,by rw[List.length_map,m];omega,r1,r2⟩)
  refine⟨_,_,_,_,rfl,⟨rfl,rfl⟩,?_,t1,t2⟩;refine .sl ⟨_,_,rfl,by omega,by unfold xk;omega,q3,λ_=>⟨_,_,rfl⟩⟩ ⟨h2.1,by simp only[Ctx.at];omega⟩ λv0 a6=>?_
  rw[q11]at a6;cases a6;exact⟨Ag _,λ_=>.inr ⟨b,_,_,_,by simp[Ctx.at],rfl,λ_=>⟨rfl,rfl⟩,λ_=>rfl⟩⟩
open Go Go.Proofs
def JU(c:Int)(l:List Stop):Int:=((l.filter λs=>decide (s.c=c)).map (·.q)).sum
theorem Zpp(c:Int)(d:zt):ZgL c d=W (JU c d.flatten):=rfl
theorem Zpq(c:Int)(l:List Stop)(s:Stop):JU c (l++[s])=JU c l+if s.c=c then s.q else 0:=by
 unfold JU;rw[B6,List.map_append,List.sum_append]
 by_cases h:s.c=c<;>simp[h]
theorem Zpr(c:Int)(l:List Stop)(s:Stop):wM c (l++[s])=wM c l++if s.c=c then [] else [s]:=by
 unfold wM;rw[B6]
 by_cases h:s.c=c<;>simp[h]
theorem Zps(c:Int)(d:zt)(t:zU):xQ c (d++[t])=xQ c d++if (wM c t).length=0 then [] else [wM c t]:=by
 rw[ZoR];congr 1;unfold xQ;rw[AD,Bp];generalize wM c t=u;cases u<;>simp
theorem Zdb(c:Int)(t:zU):(wM c t).length<=t.length:=BF _ _
theorem Zg7(c:Int)(d:zt):(xQ c d).length<=d.length:=by
 unfold xQ;exact AF (BF _ _) DP
theorem Zpt(d:zt)(c:Int)(a6:d.length<=1048576)(o:∀t∈d,t.length<=1048576):Pure prog 321 [.agg [L d],I c] (.tup [.agg [L (xQ c d)],I (ZgL c d)]):=by
 rw[Zpp];refine zx func321 ntmps321 results321 λS nx hd=>?_
 refine DY ?_;intro v0 v1;refine DY ?_;intro n;refine jd 2 0 42 1 rfl rfl λv3=>?_
 refine DY ?_
 repeat apply ze
 refine zg ?_;refine zn (zK (λ(s:Nat × Nat)=>s.1<=d.length) (λ(k,v3)=>[(1,I c),(4,.ptr (nx+1) v1 0),(6,.ptr (nx+2) n 0),(7,I (W (JU c (d.take k).flatten))),(14,L d),(15,I d.length),(16,I k)]) (λ(k,v3)=>[.cells v0 39 [L d],.cells v1 39 [yD],.cells n 39 [.sl (nx+3) v3 1 0 (xQ c (d.take k)).length],.cells v3 42 ((xQ c (d.take k)).flatMap Enc.enc)]) (λs=>d.length-s.1) (0,v3) [] DP (by simp[JU]) (by simp[xQ]) ?_);rintro⟨k,v3⟩ hk;simp only at hk ⊢;refine DY ?_;refine ze (zA rfl (λhc=>?_) (λhc=>?_))
 ·simp at hc;obtain⟨t,tl,a1,a2,a3,e0⟩:=zN rfl d k hc;have p:1<=d.length-k:=DO
  have r:=Ab a1;have w:=o t r;have e:=Zps c (d.take k) t;rw[<-a3]at e;have h:(d.take (k+1)).flatten=(d.take k).flatten++t:=by rw[a3,List.flatten_append];simp
  generalize (d.take k).flatten=pre at *;have a7:(xQ c (d.take k)).length<=1048576:=AF (Zg7 _ _) (by rw[Ax];omega);refine zk (ze (zn ?_));generalize a8:xQ c (d.take k)=rk at *;have x:∀id v cs,(rk.flatMap Enc.enc).map (qO id v cs)=(rk.flatMap Enc.enc:List PV):=λid v cs=>Zo6 id v cs rk
  have y:(rk.flatMap Enc.enc:List PV).length=rk.length:=xD rk;have z:(rk.flatMap Enc.enc:List PV).take rk.length=rk.flatMap Enc.enc:=Af DO;refine ze (zi [] (zF hc e0 p) ?_);intro v4;refine DY ?_;refine q9 10 100 2 rfl λv5=>?_
  repeat apply ze
  refine zg ?_;refine zn (zK (λ(s:Nat × Nat)=>s.1<=t.length) (λ(j,v5)=>[(1,I c),(4,.ptr (nx+1) v1 0),(6,.ptr (nx+2) n 0),(7,I (W (JU c (pre++t.take j)))),(10,.sl (nx+5) v5 2 0 (wM c (t.take j)).length),(14,L d),(15,I d.length),(16,I k),(21,L t),(22,I t.length),(23,I j)]) (λ(j,v5)=>[.cells v0 39 [L d],.cells v1 39 [yD],.cells n 39 [.sl (nx+3) v3 1 0 rk.length],.cells v3 42 (rk.flatMap Enc.enc),.cells v4 42 [L t],.cells v5 100 ((wM c (t.take j)).flatMap Enc.enc)]) (λs=>t.length-s.1) (0,v5) [] DP (by simp[wM]) (by simp[wM]) ?_);rintro⟨j,v5⟩ hj;simp only at hj ⊢;refine DY ?_;refine ze (zA rfl (λf=>?_) (λf=>?_))
  ·simp at f;obtain⟨s,ts,b1,b2,b3,b4,b5⟩:=el 2 rfl t j f;have a0:2<=t.length*2-j*2:=DO
   have a:=Zpq c (pre++t.take j) s;rw[List.append_assoc,<-b3]at a;have b:=Zpr c (t.take j) s;rw[<-b3]at b;have a4:(wM c (t.take j)).length<=1048576:=AF (Zdb _ _) (by rw[Ax];omega);generalize wM c (t.take j)=u at *;have i:(u.flatMap Enc.enc:List PV).length=u.length*2:=QM u;have a5:(u.flatMap Enc.enc:List PV).take (u.length*2)=u.flatMap Enc.enc:=Af DO;refine zk (ze (zn (ze (zi [] (zF f b5 a0) ?_))));intro v6;refine DY ?_;refine zA rfl (λg=>?_) (λg=>?_)
   ·simp at g;rw[if_pos g]at a b;rw[AH]at b;refine zg ?_;refine zg ?_;exact zu (j+1,v5) [_] DT DT (by simp[zy j (by omega),a,Yq,b]) rfl (by simp[b];rfl)
   ·simp at g;rw[if_neg g]at a b;rw[Int.add_zero]at a;have l:((wM c (t.take (j+1))).flatMap Enc.enc:List PV)=u.flatMap Enc.enc++[I s.c,I s.q]:=by rw[b,Aq];rfl
    refine zi [] (zq i a5) ?_;refine⟨by omega,?_⟩;refine zg ?_;exact zu (j+1,v5+1) [_] DT DT (by simp[zy j (by omega),a,b]) rfl (by simp[l];rfl)
  ·simp at f;obtain rfl:j=t.length:=DO
   refine zC ?_;rw[Ai];have a4:(wM c t).length<=1048576:=AF (Zdb _ _) w;generalize wM c t=u at *;have i:(u.flatMap Enc.enc:List PV).length=u.length*2:=QM u;refine yh 5 rfl ?_;simp only[AD,Bp,AV,A7,wB,x];refine DY ?_;refine zA rfl (λg=>?_) (λg=>?_)
   ·simp at g;rw[if_neg DO]at e;have m:((rk++[u]).flatMap Enc.enc:List PV)=rk.flatMap Enc.enc++[L u]:=by rw[Aq];rfl
    refine zi [] (zq y z) ?_;refine⟨by omega,?_⟩;refine zg ?_;exact zu (k+1,v3+1) [_,_] DT DT (by simp[zy k (by omega),h]) rfl (by simp[e,m];exact⟨rfl,rfl⟩)
   ·simp at g;rw[if_pos (by rw[g];rfl),AH]at e;refine zk (zg ?_);exact zu (k+1,v3) [_,_] DT DT (by simp[zy k (by omega),h]) rfl (by simp[e];exact⟨rfl,rfl⟩)
 ·simp at hc;obtain rfl:k=d.length:=DO
  refine zC (yh 3 rfl ?_);have g1:d.take d.length=d:=Ai;refine DY ?_;exact zj (zm hd DQ (by simp[zr,g1]))
open Go Hp
theorem Zpu{x:Inst}(h:∀row∈x.dist,∀d∈row,0<=d/\d<=2147483648):qQ x:=by
 intro a b;unfold arc;split
 ·omega
 ·rw[Aa,Aa];cases c:x.dist[a.toNat]? with
  | none=>simp
  | some row =>
   simp only[Option.getD_some];cases e:row[b.toNat]? with
   | none=>simp
   | some d=>exact h row (Ab c) d (Ab e)
open Go Go.Proofs
theorem Zg8{x:Inst}{d:zt}{s:Stop}(hx:x.cust.length<=1048576)(b:DayOk d)(g:d.length<=1000000)(hf:d.flatten.length<=1000000):DayOk (yZ x d s).1:=by
 unfold yZ;cases hb:(ZW (qz x d s)).2 with
 | false=>exact b
 | true =>
  have hm:=ZaL hb;have f:=Zc0 hm;have hs:=Zg1 hx (W6 hm).1;simp only[cond_true];have i:(xn d (ZW (qz x d s)).1 s).flatten.length<=1000001:=by rw[f.length_eq,Ae];omega
  refine⟨?_,λt c=>?_,λt c a j=>?_⟩
  ·unfold xn;split
   ·simp;omega
   ·simp;omega
  ·have:=(Y8 c).length_le;omega
  ·have:=f.subset ((Y8 c).subset j);rw[Au]at this;rcases this with rfl | h
   ·exact hs
   ·obtain⟨u,k,e⟩:=Bt.1 h;exact b.s u k a e
open Go Go.Proofs
def ZX(l:List Int):Int:=if 1<l.length then W (l.getD 1 0-l.getD 0 0) else 1099511627776
def uF(c:Stop->List Int):List Stop->Nat->Int->Int->Int
 | [],_,place,_=>place
 | s :: l,i,place,most=>if (c s).length=0 then (i:Int) else if place<0\/most<ZX (c s) then uF c l (i+1) (i:Int) (ZX (c s)) else uF c l (i+1) place most
def Yy(x:Inst)(d:zt)(l:List Stop):Int:=uF (XP x d) l 0 (-1) 0
theorem Zdc(c:Stop->List Int):∀(l:List Stop) (i:Nat) (place most:Int),(l≠[]\/0<=place)->place<i->0<=uF c l i place most/\uF c l i place most<(i+l.length:Nat)
 | [],i,place,most,h,a=>by
  rcases h with h | h
  ·exact absurd rfl h
  ·simp only[uF,Ah];omega
 | s :: l,i,place,most,_,a=>by
  unfold uF;split
  ·simp only[Ae];omega
  ·split
   ·have:=Zdc c l (i+1) i (ZX (c s)) (.inr DO) DO;simp only[Ae];omega
   ·rename_i hc;have:=Zdc c l (i+1) place most (.inr DO) DO;simp only[Ae];omega
theorem Zg9{x:Inst}{d:zt}{l:List Stop}(h:l≠[]):∃k:Nat,Yy x d l=k/\k<l.length:=by
 have:=Zdc (XP x d) l 0 (-1) 0 (.inl h) DO;exact⟨(Yy x d l).toNat,by unfold Yy;omega,by unfold Yy;omega⟩
def uG(x:Inst):Nat->zt->List Stop->zt × Bool
 | 0,d,_=>(d,true)
 | n+1,d,l=>bif (yZ x d (l.getD (Yy x d l).toNat default)).2 then uG x n (yZ x d (l.getD (Yy x d l).toNat default)).1 (l.eraseIdx (Yy x d l).toNat) else (d,false)
def jO(x:Inst)(l:List Stop):zt × Bool:=uG x l.length [] l
structure RgOk (x:Inst) (d:zt) (l:List Stop):Prop where
 ok:DayOk d
 may:yE x d=0
 len:d.flatten.length+l.length<=1000
theorem RgOk.dl{x:Inst}{d:zt}{l:List Stop}(h:RgOk x d l):d.length<=1000:=by
 have h1:=ZaK d (ZgX h.may);have h2:=h.len;omega
theorem RgOk.step{x:Inst}{d:zt}{l:List Stop}(hx:x.cust.length<=1048576)(h:RgOk x d l){i:Nat}(hi:i<l.length){s:Stop}(hs:(yZ x d s).2=true):RgOk x (yZ x d s).1 (l.eraseIdx i):=by
 have hf:=h.len;have hl:=h.dl;refine⟨Zg8 hx h.ok DO DO,?_,?_⟩
 ·unfold yZ at hs ⊢;cases hb:(ZW (qz x d s)).2 with
  | false=>rw[hb]at hs;cases hs
  | true=>exact Zc3 (ZaL hb)
 ·rw[(Zc1 hs).length_eq,Ae,BT hi];omega
theorem Zha{x:Inst}(hv:0<=x.veh){l:List Stop}(hl:l.length<=1000):RgOk x [] l :=
 ⟨⟨by simp,by simp,by simp⟩,(ud x []).2 ⟨by simp,by simp,by simpa using hv⟩,by simpa using hl⟩
theorem Zpv{c:Stop->List Int}{l:List Stop}{k:Nat}{s:Stop}{place most:Int}(a:l.drop k=s :: l.drop (k+1)):
  uF c (l.drop k) k place most=if (c s).length=0 then (k:Int) else if place<0\/most<ZX (c s) then uF c (l.drop (k+1)) (k+1) (k:Int) (ZX (c s)) else uF c (l.drop (k+1)) (k+1) place most:=by
 rw[a];rfl
theorem Zpw(x:Inst)(d:zt)(l:List Stop)(hx:x.cust.length<=1048576)(h:RgOk x d l){S:Store}{id ver:Nat}(hid:S id=.cells ver 100 (l.flatMap Enc.enc)):
  Spec prog 334 [.agg (ZU x d),.sl id ver 2 0 l.length] S (λp S'=>p=I (Yy x d l)/\S'=S):=by
 have hf:=h.len;have hl:=h.dl;have m:=λs=>Zpi x d s hx h.ok h.may DO DO
 have hu:Yy x d l=uF (XP x d) (l.drop 0) 0 (-1) 0:=rfl;rw[hu];clear hu;obtain⟨t,u,fs,bd,ls,ws,n⟩:∃t u fs bd ls ws,ZU x d=Zb x d t u fs bd ls ws:=⟨_,_,_,_,_,_,rfl⟩;rw[n]at m ⊢;clear n;generalize a6:XP x d=cz at *;refine yt func334 ntmps334 results334 λnx v=>?_
 have w:id<nx:=qi v hid DP;have y:=λobs=>zJ (S:=S) (obs:=obs) w
 refine DY ?_;intro v0;refine DY ?_
 repeat apply ze
 refine zg ?_;refine zn (zK (λs':Nat × Int × Int=>s'.1<=l.length/\uF cz (l.drop s'.1) s'.1 s'.2.1 s'.2.2=uF cz (l.drop 0) 0 (-1) 0) (λ(k,place,most)=>[(2,.ptr nx v0 0),(5,I place),(6,I most),(11,.sl id ver 2 0 l.length),(12,I l.length),(13,I k)]) (λ_=>[.cells v0 395 (Zb x d t u fs bd ls ws)]) (λs'=>l.length-s'.1) (0,-1,0) [] ⟨by simp,rfl⟩ DP DP ?_);rintro⟨k,place,most⟩ ⟨hk,o⟩;simp only at hk o ⊢;rw[<-o];refine DY ?_;refine ze (zA rfl (λhc=>?_) (λhc=>?_))
 ·simp at hc;obtain⟨s,tl,a1,a2,a3,e1,e0⟩:=el 2 rfl l k hc;have z:2<=l.length*2-k*2:=DO
  have f:=Zpv (c:=cz) (place:=place) (most:=most) a2;have a0:=m s;generalize a7:cz s=c at *;have wk:=zy k DO;refine zk (ze (zn (ze (zi [] (yr y hid e0 hc z) ?_))));intro v1;refine DY ?_;refine zv a0 ?_
  by_cases h0:c.length=0
  ·rw[if_pos h0]at f
   repeat apply ze
   refine zi [] h0 ?_;refine zo rfl (DY ?_);exact zj ⟨_,S,DQ,⟨by simp[zr,f],rfl⟩,yb v⟩
  rw[if_neg h0]at f
  repeat apply ze
  refine zg ?_;refine zp (by simp;exact λe=>h0 (by rw[e];rfl)) ?_;refine zk ?_
  repeat apply ze
  refine zg ?_;refine qy (nx:=nx) (λ_:Unit=>True) (λ_=>[(2,.ptr nx v0 0),(5,I place),(6,I most),(7,I k),(10,I (ZX c)),(11,.sl id ver 2 0 l.length),(12,I l.length),(13,I k)]) (λ_=>S) (λ_=>[.cells v0 395 (Zb x d t u fs bd ls ws)]) ?_ ?_
  ·by_cases h1:1<c.length
   ·obtain⟨a,ta,q1,-,-,q0⟩:=zN rfl c 1 h1;obtain⟨b,tb,r1,-,-,r0⟩:=zN rfl c 0 DO;have i:ZX c=W (a-b):=by unfold ZX;rw[if_pos h1,Aa,Aa,q1,r1];rfl
    have g1:1<=c.length-1:=DO
    have g2:0<c.length:=DO
    have g3:1<=c.length:=DO
    have j:(c.flatMap Enc.enc:List PV)=Enc.enc b++tb:=by simpa using r0
    have a4:(1:Int)<c.length:=DO
    refine zo DT ?_;rw[j]at q0;have a5:tb=I a :: ta:=by simpa using q0
    rw[a5]at j;refine zD none (Row.pures [0,1,2,3,4,5,6,7] .done) mixed (zW j h1 a4 g1 g2 g3) ?_;exact zZ () [_] trivial (by simp[i]) rfl DQ
   ·have i:ZX c=1099511627776:=by unfold ZX;rw[if_neg h1]
    refine zp DT ?_;exact zk (zZ () [_] trivial (by simp[i]) rfl DQ)
  ·rintro⟨⟩ -;generalize ZX c=ab at *
   by_cases r:place<0
   ·rw[if_pos (.inl r)]at f;refine ze (zi [(2,37)] (zq r zB) ?_);refine zo rfl (zg ?_);refine zg ?_;exact zu (k+1,(k:Int),ab) [] ⟨hc,by rw[<-f,o]⟩ DT (by simp[wk]) rfl DP
   ·by_cases g:most<ab
    ·rw[if_pos (.inr g)]at f;refine ze (zi [(2,37)] (zq r g) ?_);refine zo rfl (zg ?_);refine zg ?_;exact zu (k+1,(k:Int),ab) [] ⟨hc,by rw[<-f,o]⟩ DT (by simp[wk]) rfl DP
    ·rw[if_neg (by rintro(q | q);exact r q;exact g q)]at f;refine ze (zi [(2,37)] (zq r g) ?_);refine zp rfl (zk (zg ?_));exact zu (k+1,place,most) [] ⟨hc,by rw[<-f,o]⟩ DT (by simp[wk]) rfl DP
 ·simp at hc;obtain rfl:k=l.length:=DO
  refine zC ?_;have a8:uF cz (l.drop l.length) l.length place most=place:=by rw[BN];rfl
  refine DY ?_;exact zj ⟨_,S,DQ,⟨by simp[zr];rfl,rfl⟩,yb v⟩
open Go Go.Proofs
theorem Zpx{x:Inst}{d:zt}{l:List Stop}{k:Nat}{s:Stop}(c:Yy x d l=k)(b:l[k]?=some s):
  uG x l.length d l=bif (yZ x d s).2 then uG x (l.eraseIdx k).length (yZ x d s).1 (l.eraseIdx k) else (d,false):=by
 have a:=(Ad.1 b).1;obtain⟨n,hn⟩:∃n,l.length=n+1:=⟨l.length-1,by omega⟩;have e:(l.eraseIdx k).length=n:=by rw[BT a];omega
 have f:l.getD k default=s:=by rw[Aa,b];rfl
 rw[hn,e,uG,c,AN,f]
theorem Zpy{x:Inst}{d:zt}{l:List Stop}(h:RgOk x d l):d.length<=1000/\d.flatten.length<=1000/\l.length<=1000:=by
 have h1:=h.dl;have h2:=h.len;omega
theorem Zpz(x:Inst)(l:List Stop)(hx:x.cust.length<=1048576)(hv:0<=x.veh)(hl:l.length<=1000):Pure prog 319 [.agg (zE x),L l] (.tup [.agg [L (jO x l).1],B (jO x l).2]):=by
 have hb:=Zha hv hl;unfold jO
 by_cases h0:0<l.length
 case neg =>
  obtain rfl:l=[]:=Av DO;have t:=ZaH [] DP;refine zx func319 ntmps319 results319 λS nx q=>?_
  refine DY ?_;intro v0 v1;refine DY ?_;intro g;refine yn 2 0 rfl rfl ?_;refine DY ?_;refine zv t ?_;refine ze (zn (zK (λ_:Nat=>True) (λ_=>[(2,.ptr nx v0 0),(4,.ptr (nx+1) v1 0),(6,.ptr (nx+2) g 0),(7,L ([]:List Stop))]) (λ_=>[.cells v0 25 (zE x),.cells v1 39 [yD],.cells g 39 [L ([]:zt)]]) (λk=>k) 0 [] trivial DP DP ?_));rintro k -
  repeat apply ze
  refine zg ?_;refine zp rfl (zC (DY ?_));exact zj (zm q DQ (by simp[zr,uG]))
 refine zx func319 ntmps319 results319 λS nx q=>?_
 refine DY ?_;intro v0 v1;refine DY ?_;intro g;refine yn 2 0 rfl rfl ?_;refine DY ?_;refine λa=>((ZcV l h0 DO _ _ Zt).mono ?_).v
 rintro _ _ ⟨v3,rfl,rfl⟩;refine⟨_,_,jr _,zR a ?_⟩;refine ze (zn (zK (λs':zt × List Stop × Nat=>uG x s'.2.1.length s'.1 s'.2.1=uG x l.length [] l/\RgOk x s'.1 s'.2.1) (λ(d,m,v3)=>[(2,.ptr nx v0 0),(4,.ptr (nx+1) v1 0),(6,.ptr (nx+2) g 0),(7,.sl (nx+3) v3 2 0 m.length)]) (λ(d,m,v3)=>[.cells v0 25 (zE x),.cells v1 39 [yD],.cells g 39 [L d],.cells v3 100 (m.flatMap Enc.enc)]) (λs'=>s'.2.1.length) ([],l,v3) [] ⟨rfl,hb⟩ DP DP ?_));rintro⟨d,m,v3⟩ ⟨z,b⟩;simp only at z b ⊢;rw[<-z]
 by_cases hm:m=[]
 ·subst hm
  repeat apply ze
  refine zg ?_;refine zp rfl (zC (DY ?_));exact zj (zm q DQ (by simp[zr,uG]))
 ·have u:0<m.length:=Bs.2 hm;obtain⟨k,hu,i⟩:=Zg9 (x:=x) (d:=d) hm;obtain⟨s,tl,a1,a2,a3,e1,e0⟩:=el 2 rfl m k i;have w:2<=m.length*2-k*2:=DO
  have c:=Zpx hu a1;obtain⟨b1,b2,b3⟩:=Zpy b;have f:=Zgy x d hx b.ok DO;have j:=Zc9 x d s hx b.ok DO;have n:=λh=>b.step hx i (s:=s) h
  have e:=λ(S:Store) (id ver:Nat) h=>Zpw x d m hx b (S:=S) (id:=id) (ver:=ver) h
  rw[hu]at e;obtain⟨on,tw,fs,bd,ls,ws,o⟩:∃on tw fs bd ls ws,ZU x d=Zb x d on tw fs bd ls ws:=⟨_,_,_,_,_,_,rfl⟩;rw[o]at f e;clear o;have y:=ZgJ (x:=x) (d:=d) (s:=s);generalize hi:yZ x d s=r at *;obtain⟨d2,ok⟩:=r;simp only at c n y;have wk:=zy k DO;have p:(0:Int)<m.length:=DO
  repeat apply ze
  refine zi [] p ?_;refine zo (by simp;exact u) ?_;refine zk (zn (DY ?_));refine λa=>((f _).mono ?_).v
  rintro _ _ ⟨rfl,rfl⟩;refine⟨_,_,rfl,zR a ?_⟩;refine λa=>((e _ _ _ (by rw[zY];rfl)).mono ?_).v
  rintro _ _ ⟨rfl,rfl⟩;refine⟨_,_,rfl,zR a ?_⟩;refine ze (zD (some [nx,nx+2,nx+3]) (Row.pures [0,1,2,3,4,5,6,7,8,9] (.alt 10 (.alt 11 (Row.pures [12] .done) .stop) .stop)) mixed (zF e0 i w) ?_);refine zO (j) trivial ?_;intro v4
  repeat apply ze
  refine zg ?_;cases ok with
  | false =>
   simp only[cond_false]at c;refine zo rfl (DY ?_);exact zj (zm q DQ (by simp[zr,c]))
  | true =>
   simp only[cond_true]at c;refine zp rfl (zk ?_);have a0:=BT i;refine zD (some [nx+4]) (Row.pures [0,1,2,3,4] (.alt 5 (.alt 6 (Row.pures [7] .done) .stop) .stop)) mixed wk ?_
   skip
   refine((Zpo m k i DO (by rw[zY];rfl)).mono ?_).v;rintro _ _ ⟨rfl,rfl⟩;rw[yl _ DO DP,AI];refine⟨by simp[yR],jY trivial ?_⟩;exact zu (d2,m.eraseIdx k,v3+1) [_] ⟨c.symm,n rfl⟩ (by simp only;omega) DP rfl DQ
open Go Go.Proofs
def vH(step:zt->Option zt):Nat->zt->zt
 | 0,d=>d
 | n+1,d=>match step d with
  | none=>d
  | some e=>vH step n e
def ZY(step:zt->Option zt):Nat->zt->Nat
 | 0,_=>0
 | n+1,d=>match step d with
  | none=>0
  | some e=>ZY step n e+1
def Zhb(x:Inst)(step:zt->Option zt)(G:zt->Prop):Prop:=∀d,G d->∃mk ma mb mi mj least,Pure prog 291 [.agg (zE x),.agg [L d]] (.tup [.agg [I mk,I ma,I mb,I mi,I mj],I least,B (step d).isSome]) /\
 ∀e,step d=some e->Pure prog 292 [.agg (zE x),.agg [L d],.agg [I mk,I ma,I mb,I mi,I mj]] (.tup [.agg [L e],I 0])/\G e
theorem Zhc(x:Inst)(d:zt)(b:Int)(step:zt->Option zt)(G:zt->Prop)(hb:b<=9223372036854775807)(a0:d.length<=1048576)(m:∀t∈d,t.length<=1048576)(o:0<b->G d)(hs:Zhb x step G):Pure prog 252 [.agg (zE x),.agg [L d],I b] (.tup [.agg [L (vH step b.toNat d)],I (if ZY step b.toNat d<b.toNat then (ZY step b.toNat d:Int) else jy b 0)]):=by
 refine zx func252 ntmps252 results252 λS nx y=>?_
 refine DY ?_;intro v0 v1 j;refine DY ?_;intro v3;refine jd 3 0 42 1 rfl rfl λv4=>?_
 repeat apply ze
 refine zg ?_;refine zn (zK (λs':Nat × Nat=>s'.1<=d.length) (λ(k,v4)=>[(2,I b),(3,.ptr nx v0 0),(6,.ptr (nx+2) j 0),(7,I 0),(8,.ptr (nx+3) v3 0),(16,L d),(17,I d.length),(18,I k)]) (λ(k,v4)=>[.cells v0 25 (zE x),.cells v1 39 [L d],.cells j 39 [yD],.cells v3 39 [.sl (nx+4) v4 1 0 k],.cells v4 42 ((d.take k).flatMap Enc.enc)]) (λs'=>d.length-s'.1) (0,v4) [] DP DP DP ?_);rintro⟨k,v4⟩ l;simp only at l ⊢;refine DY ?_;refine ze (zA rfl (λhc=>?_) (λhc=>?_))
 ·simp at hc;obtain⟨t,tl,a1,a2,a3,e0⟩:=zN rfl d k hc;have p:1<=d.length-k:=DO
  have q:=ZaH t (m t (Ab a1));have f:((d.take k).flatMap Enc.enc:List PV).length=k:=by rw[xD,Ax];omega
  have g:((d.take k).flatMap Enc.enc:List PV).take k=(d.take k).flatMap Enc.enc:=Af DO;have r:((d.take (k+1)).flatMap Enc.enc:List PV)=(d.take k).flatMap Enc.enc++[L t]:=by rw[a3,Aq];rfl
  generalize ((d.take k).flatMap Enc.enc:List PV)=cs at *;refine zk (ze (zn (ze (zi [] (zF e0 hc p) ?_))));intro v5;refine zD (some [nx+5]) (Row.pures [0,2,3,4,5,6] (.alt 1 (.alt 7 (Row.pures [8] (.alt 9 (.done) .stop)) .stop) .stop)) mixed (zq f g) ?_;refine zO (q) (zq f g) ?_;refine⟨by omega,?_⟩;refine zg ?_;exact zu (k+1,v4+1) [_] hc DT (by simp[zy k (by omega)]) rfl (by simp[r];rfl)
 ·simp at hc;obtain rfl:k=d.length:=DO
  have g1:d.take d.length=d:=Ai;refine zC ?_;rw[g1];refine yh 4 rfl ?_
  repeat apply ze
  refine zg ?_;clear l hc g1;refine zn (zK (λs':Nat × zt=>s'.1<=b.toNat/\(0<b->G s'.2)/\vH step (b.toNat-s'.1) s'.2=vH step b.toNat d/\s'.1+ZY step (b.toNat-s'.1) s'.2=ZY step b.toNat d) (λ(k,e)=>[(2,I b),(3,.ptr nx v0 0),(6,.ptr (nx+2) j 0),(8,.ptr (nx+3) v3 0),(11,I k)]) (λ(k,e)=>[.cells v0 25 (zE x),.cells v1 39 [L d],.cells j 39 [yD],.cells v3 39 [L e]]) (λs'=>b.toNat-s'.1) (0,d) [.dead] ⟨by simp,o,by simp,by simp⟩ DP DP ?_);rintro⟨k,e⟩ ⟨l,z,hi,a⟩;simp only at l z hi a ⊢;rw[<-hi]
  repeat apply ze
  refine zg ?_;refine zA rfl (λhc=>?_) (λhc=>?_)
  ·simp at hc;obtain⟨mk,ma,mb,mi,mj,s,hB,hM⟩:=hs e (z DO);obtain⟨n,hn⟩:∃n,b.toNat-k=n+1:=⟨b.toNat-k-1,by omega⟩;refine zk (ze (zn (DY ?_)));refine zv hB ?_;intro v5
   repeat apply ze
   refine zg ?_;cases c:step e with
   | none =>
    have u:vH step (b.toNat-k) e=e:=by rw[hn];unfold vH;rw[c]
    have h:ZY step (b.toNat-k) e=0:=by rw[hn];unfold ZY;rw[c]
    rw[h]at a;rw[u,<-a,if_pos DO];refine zo rfl (DY ?_);exact zj (zm y DQ (by simp[zr]))
   | some e2 =>
    have u:vH step (b.toNat-k) e=vH step (b.toNat-(k+1)) e2:=by rw[hn,show b.toNat-(k+1)=n by omega];conv=>lhs;unfold vH;rw[c]
    have h:ZY step (b.toNat-k) e=ZY step (b.toNat-(k+1)) e2+1:=by rw[hn,show b.toNat-(k+1)=n by omega];conv=>lhs;unfold ZY;rw[c]
    obtain⟨v,w⟩:=hM e2 c;refine zp rfl (zk (zg ?_));refine zv v ?_;refine zg ?_;exact zu (k+1,e2) [_] ⟨by simp;omega,λ_=>w,u.symm,by simp only;omega⟩ DT (by simp[zy k (by omega)]) rfl DQ
  ·simp at hc;have hz:b.toNat-k=0:=DO
   rw[hz]at a ⊢;have i:ZY step b.toNat d=k:=by rw[<-a];rfl
   rw[i,if_neg DO];refine zC (DY ?_);exact zj (zm y DQ (by simp[zr,vH]))
open Go Go.Proofs
structure Pc where
 t:Nat
 f:Nat
 o:Nat
 b:Bool
 deriving DecidableEq
def yX:Pc:=⟨0,0,0,false⟩
abbrev pcL(p:Pc):List PV:=[I p.t,I p.f,I p.o,B p.b]
structure Rw5 where
 a:Pc
 b:Pc
 c:Pc
 d:Pc
 e:Pc
abbrev yG(r:Rw5):List PV:=[I r.a.t,I r.a.f,I r.a.o,B r.a.b,I r.b.t,I r.b.f,I r.b.o,B r.b.b,I r.c.t,I r.c.f,I r.c.o,B r.c.b,I r.d.t,I r.d.f,I r.d.o,B r.d.b,I r.e.t,I r.e.f,I r.e.o,B r.e.b]
def Rw5.l(r:Rw5):List Pc:=[r.a,r.b,r.c,r.d,r.e]
def x8:Rw5:=⟨yX,yX,yX,yX,yX⟩
structure Mv where
 k:Nat
 a:Nat
 b:Nat
 i:Nat
 j:Nat
 deriving DecidableEq
abbrev ZA(m:Mv):List PV:=[I m.k,I m.a,I m.b,I m.i,I m.j]
abbrev ZZ(m:Mv)(la lb:Nat):List PV:=[I m.k,I m.a,I m.b,I m.i,I m.j,I la,I lb]
def ue(m:Mv)(la lb:Nat):Bool :=
 if m.k=0 then decide (m.b=m.a/\m.i<m.j/\m.j<la)
 else if m.k=1 then decide (m.i<la/\(if m.a=m.b then m.j<lb else m.j<=lb))
 else if m.k=2 then decide (¬(m.b<m.a\/m.a=m.b/\m.j<=m.i)/\m.i<la/\m.j<lb)
 else decide (m.a<m.b/\m.i<=la/\m.j<=lb)
def x9(m:Mv)(la lb:Nat):Rw5 × Rw5 :=
 if m.k=0 then (⟨⟨m.a,0,m.i,false⟩,⟨m.a,m.i,m.j+1,true⟩,⟨m.a,m.j+1,la,false⟩,yX,yX⟩,x8)
 else if m.k=1 then
  (if m.a≠m.b then (⟨⟨m.a,0,m.i,false⟩,⟨m.a,m.i+1,la,false⟩,yX,yX,yX⟩,⟨⟨m.b,0,m.j,false⟩,⟨m.a,m.i,m.i+1,false⟩,⟨m.b,m.j,lb,false⟩,yX,yX⟩)
  else if m.i<m.j then (⟨⟨m.a,0,m.i,false⟩,⟨m.a,m.i+1,m.j+1,false⟩,⟨m.a,m.i,m.i+1,false⟩,⟨m.a,m.j+1,la,false⟩,yX⟩,x8)
  else (⟨⟨m.a,0,m.j,false⟩,⟨m.a,m.i,m.i+1,false⟩,⟨m.a,m.j,m.i,false⟩,⟨m.a,m.i+1,la,false⟩,yX⟩,x8))
 else if m.k=2 then
  (if m.a=m.b then (⟨⟨m.a,0,m.i,false⟩,⟨m.b,m.j,m.j+1,false⟩,⟨m.a,m.i+1,m.j,false⟩,⟨m.a,m.i,m.i+1,false⟩,⟨m.a,m.j+1,la,false⟩⟩,x8)
  else (⟨⟨m.a,0,m.i,false⟩,⟨m.b,m.j,m.j+1,false⟩,⟨m.a,m.i+1,la,false⟩,yX,yX⟩,⟨⟨m.b,0,m.j,false⟩,⟨m.a,m.i,m.i+1,false⟩,⟨m.b,m.j+1,lb,false⟩,yX,yX⟩))
 else (⟨⟨m.a,0,m.i,false⟩,⟨m.b,m.j,lb,false⟩,yX,yX,yX⟩,⟨⟨m.b,0,m.j,false⟩,⟨m.a,m.i,la,false⟩,yX,yX,yX⟩)
theorem ZpB(m:Mv)(e f:Nat)(g:m.k=0):Pure prog 357 [.agg (ZZ m e f)] (B (ue m e f)):=by
 unfold ue;rw[if_pos g];refine zx func357 ntmps357 results357 λS nx d=>?_
 refine DY ?_;intro v0
 by_cases h1:m.b=m.a
 case neg =>
  have c:¬(m.b:Int)=m.a:=DO
  refine ze (zi [(7,10),(13,16),(22,25)] (zq c zB) ?_);exact zj (zm d rfl (by simp[h1,zr]))
 have c:(m.b:Int)=m.a:=DO
 by_cases h2:m.i<m.j
 case neg =>
  have h:¬(m.i:Int)<m.j:=DO
  refine ze (zi [(7,10),(13,16),(22,25)] (zF c h2 zB) ?_);exact zj (zm d rfl (by simp[h2,zr]))
 by_cases h3:m.j<e
 case neg =>
  refine ze (zi [(7,10),(13,16),(22,25)] (zS c h2 h3 zB) ?_);exact zj (zm d rfl (by simp[h3,zr]))
 refine ze (zi [(7,10),(13,16),(22,25)] (zF c h2 h3) ?_);exact zj (zm d rfl (by simp[h1,h2,h3,zr]))
theorem ZpC(m:Mv)(e c:Nat)(l:m.k=1)(n:c<=1048576):Pure prog 359 [.agg (ZZ m e c)] (B (ue m e c)):=by
 unfold ue;rw[if_neg DO,if_pos l];refine zx func359 ntmps359 results359 λS nx f=>?_
 refine DY ?_;intro v0;refine DY ?_;refine ze (qy (nx:=nx) (λz:Int=>(m.j:Int)<=z<->(if m.a=m.b then m.j<c else m.j<=c)) (λz=>[(1,.ptr nx v0 0),(3,I z)]) (λ_=>S) (λ_=>[.cells v0 420 (ZZ m e c)]) ?_ ?_)
 ·by_cases h1:m.a=m.b
  ·have d:(m.a:Int)=m.b:=DO
   have o:IntKind.i64.wrap ((c:Int)-1)=(c:Int)-1:=wr _ DO DO;refine ze (zi [] d ?_);refine zo rfl (zi [] o ?_);exact zZ ((c:Int)-1) [] (by rw[if_pos h1];omega) DP rfl DP
  ·have d:¬(m.a:Int)=m.b:=DO
   refine ze (zi [] d ?_);exact zp rfl (zk (zZ (c:Int) [] (by rw[if_neg h1];omega) DP rfl DP))
 ·intro z h
  by_cases h2:m.i<e
  case neg =>
   refine ze (zi [(4,19),(12,27),(18,33)] (zq h2 zB) ?_);exact zj (zm f rfl (by simp[h2,zr]))
  by_cases h3:(m.j:Int)<=z
  case neg =>
   have g:=(not_congr h).1 h3;refine ze (zi [(4,19),(12,27),(18,33)] (zq h2 h3) ?_);exact zj (zm f rfl (by simp[h2,g,zr]))
  have g:=h.1 h3;refine ze (zi [(4,19),(12,27),(18,33)] (zq h2 h3) ?_);exact zj (zm f rfl (by simp[h2,g,zr]))
theorem ZpD(m:Mv)(g h:Nat)(n:m.k=2):Pure prog 361 [.agg (ZZ m g h)] (B (ue m g h)):=by
 unfold ue;rw[if_neg DO,if_neg DO,if_pos n];refine zx func361 ntmps361 results361 λS nx f=>?_
 refine DY ?_;intro v0;have rest:∀(P:Prop),(m.i<g->m.j<h->P)->(¬(m.i<g/\m.j<h)->P)->P:=λP a b=>by
  by_cases q:m.i<g/\m.j<h
  ·exact a q.1 q.2
  ·exact b q
 by_cases h1:m.b<m.a
 ·repeat apply ze
  refine zi [(7,10),(15,18)] (zq h1 zB) ?_;refine zo rfl (DY ?_);exact zj (zm f rfl (by simp[h1,zr]))
 by_cases h2:m.a=m.b
 ·have d:(m.a:Int)=m.b:=DO
  by_cases h3:m.j<=m.i
  ·have l:¬m.b<m.b:=DO
   repeat apply ze
   refine zi [(7,10),(15,18)] (zF d l h3) ?_;refine zo rfl (DY ?_);exact zj (zm f rfl (by simp[h2,h3,zr]))
  ·have l:¬m.b<m.b:=DO
   have h0:¬(m.b<m.a\/m.a=m.b/\m.j<=m.i):=DO
   repeat apply ze
   refine zi [(7,10),(15,18)] (zF d l h3) ?_;refine zp rfl (zk ?_)
   by_cases c:m.i<g
   case neg =>
    refine ze (zi [(4,32),(12,40),(18,46)] (zq c zB) ?_);exact zj (zm f rfl (by simp[c,zr]))
   by_cases e:m.j<h
   case neg =>
    refine ze (zi [(4,32),(12,40),(18,46)] (zq c e) ?_);exact zj (zm f rfl (by simp[e,zr]))
   refine ze (zi [(4,32),(12,40),(18,46)] (zq c e) ?_);exact zj (zm f rfl (by simp[h0,c,e,zr]))
 ·have d:¬(m.a:Int)=m.b:=DO
  have h0:¬(m.b<m.a\/m.a=m.b/\m.j<=m.i):=DO
  repeat apply ze
  refine zi [(7,10),(15,18)] (zF h1 d zB) ?_;refine zp rfl (zk ?_)
  by_cases c:m.i<g
  case neg =>
   refine ze (zi [(4,32),(12,40),(18,46)] (zq c zB) ?_);exact zj (zm f rfl (by simp[c,zr]))
  by_cases e:m.j<h
  case neg =>
   refine ze (zi [(4,32),(12,40),(18,46)] (zq c e) ?_);exact zj (zm f rfl (by simp[e,zr]))
  refine ze (zi [(4,32),(12,40),(18,46)] (zq c e) ?_);exact zj (zm f rfl (by simp[h0,c,e,zr]))
theorem ZpE(m:Mv)(d e:Nat)(f:3<=m.k):Pure prog 363 [.agg (ZZ m d e)] (B (ue m d e)):=by
 unfold ue;rw[if_neg DO,if_neg DO,if_neg DO];refine zx func363 ntmps363 results363 λS nx c=>?_
 refine DY ?_;intro v0
 by_cases h1:m.a<m.b
 case neg =>
  refine ze (zi [(7,10),(13,16),(21,24),(27,30)] (zq h1 zB) ?_);exact zj (zm c rfl (by simp[h1,zr]))
 by_cases h2:m.i<=d
 case neg =>
  refine ze (zi [(7,10),(13,16),(21,24),(27,30)] (zF h1 h2 zB) ?_);exact zj (zm c rfl (by simp[h2,zr]))
 by_cases h3:m.j<=e
 case neg =>
  refine ze (zi [(7,10),(13,16),(21,24),(27,30)] (zF h1 h2 h3) ?_);exact zj (zm c rfl (by simp[h3,zr]))
 refine ze (zi [(7,10),(13,16),(21,24),(27,30)] (zF h1 h2 h3) ?_);exact zj (zm c rfl (by simp[h1,h2,h3,zr]))
theorem ZpF(m:Mv)(a b:Nat)(c:m.k=0)(hi:m.i<=1048576)(f:m.j<=1048576):Pure prog 358 [.agg (ZZ m a b)] (.tup [.agg (yG (x9 m a b).1),.agg (yG (x9 m a b).2)]):=by
 have g:=zy m.i DO;have d:=zy m.j DO;unfold x9;rw[if_pos c];refine zx func358 ntmps358 results358 λS nx e=>?_
 refine DY ?_;intro v0 v1 h;refine ze (zD (some [nx]) (Row.pures [0,1,2,3,4,5,6,7,8,9,10,11] .done) mixed trivial ?_);refine ze (zi [] d ?_);exact zj (zm e DQ (by simp[zr,x8,yX]))
theorem ZpG(m:Mv)(a b:Nat)(d:3<=m.k):Pure prog 364 [.agg (ZZ m a b)] (.tup [.agg (yG (x9 m a b).1),.agg (yG (x9 m a b).2)]):=by
 unfold x9;rw[if_neg DO,if_neg DO,if_neg DO];refine zx func364 ntmps364 results364 λS nx c=>?_
 refine DY ?_;intro v0 v1 e;refine ze (zD (some [nx]) (Row.pures [0,1,2,3,4,5,6,7,8,9,10,11,12,13,14,15] .done) mixed trivial ?_);refine ze (zD (some [nx]) (Row.pures [0,1,2,3,4,5,6,7,8,9,10,11,12,13,14,15,16,17] (.alt 18 (.alt 19 (.done) .stop) .stop)) mixed trivial ?_);exact zj (zm c DQ (by simp[zr,x8,yX]))
theorem ZpH(m:Mv)(e f:Nat)(l:m.k=1)(hi:m.i<=1048576)(n:m.j<=1048576):Pure prog 360 [.agg (ZZ m e f)] (.tup [.agg (yG (x9 m e f).1),.agg (yG (x9 m e f).2)]):=by
 have d:=zy m.i DO;have h:=zy m.j DO;unfold x9;rw[if_neg DO,if_pos l];refine zx func360 ntmps360 results360 λS nx g=>?_
 refine DY ?_;intro v0 v1 o;refine ze (zD (some [nx]) (Row.pures [0,1,2,3,4,5,6,7,8,9,10,11,12,13,14,15] .done) mixed trivial ?_);refine ze (zi [] d ?_);intro v3;refine ze (zn ?_)
 by_cases h1:m.a=m.b
 case neg =>
  have c:¬(m.a:Int)=m.b:=DO
  rw[if_pos h1];refine ze (zi [] c ?_);refine zo rfl (ze (zD (some [nx,nx+3]) (Row.pures [0,1,2,3,4,5,6,7,8,9,10,11,12,13,14,15,16,17,18,19] (.alt 20 (.alt 21 (.done) .stop) .stop)) mixed d ?_));exact zj (zm g DQ (by simp[zr,x8,yX]))
 have c:(m.a:Int)=m.b:=DO
 rw[if_neg (by simpa using h1)];refine ze (zi [] c ?_);refine zp rfl ?_
 by_cases h2:m.i<m.j
 ·rw[if_pos h2];refine ze (zi [] h2 ?_);refine zo rfl (ze (zi [] (zq d h) ?_));exact zj (zm g DQ (by simp[zr,x8,yX,h1]))
 ·rw[if_neg h2];refine ze (zi [] h2 ?_);refine zp rfl (zk (ze (zi [] (zq d h) ?_)));exact zj (zm g DQ (by simp[zr,x8,yX,h1]))
theorem ZpI(m:Mv)(d e:Nat)(l:m.k=2)(hi:m.i<=1048576)(n:m.j<=1048576):Pure prog 362 [.agg (ZZ m d e)] (.tup [.agg (yG (x9 m d e).1),.agg (yG (x9 m d e).2)]):=by
 have f:=zy m.i DO;have g:=zy m.j DO;unfold x9;rw[if_neg DO,if_neg DO,if_pos l];refine zx func362 ntmps362 results362 λS nx h=>?_
 refine DY ?_;intro v0 v1 o;refine ze (zD (some [nx]) (Row.pures [0,1,2,3,4,5,6,7,8,9,10,11,12,13,14,15] .done) mixed trivial ?_);refine ze (zi [] (zq f g) ?_);intro v3 v4
 by_cases h1:m.a=m.b
 ·have c:(m.a:Int)=m.b:=DO
  rw[if_pos h1]
  repeat apply ze
  refine zi [] c ?_;refine zo rfl (ze (zi [] (zq f g) ?_));exact zj (zm h DQ (by simp[zr,x8,yX,h1]))
 ·have c:¬(m.a:Int)=m.b:=DO
  rw[if_neg h1]
  repeat apply ze
  refine zi [] c ?_;refine zp rfl (zk (ze (zD (some [nx,nx+3,nx+4]) (Row.pures [0,1,2,3,4,5,6,7,8,9,10,11,12,13,14,15,16,17,18,19,20,21] (.alt 22 (.alt 23 (.done) .stop) .stop)) mixed (zq f g) ?_)));exact zj (zm h DQ (by simp[zr,x8,yX]))
open Go Go.Proofs
abbrev ZaP:List PV:=[.fn (.func 357) [] [],.fn (.func 358) [] [],.fn (.func 359) [] [],.fn (.func 360) [] [],.fn (.func 361) [] [],.fn (.func 362) [] [],.fn (.func 363) [] [],.fn (.func 364) [] []]
theorem Zhd:Pure prog 340 [] (.agg ZaP):=by
 refine zx func340 ntmps340 results340 λS nx a=>?_
 refine DY ?_;intro v0;refine DY ?_;exact DZ a
def je(d:zt)(t:Nat):Nat:=(d.getD t []).length
def wN(d:zt)(m:Mv):Bool:=decide (m.k<=3/\m.a<d.length/\m.b<d.length) && ue m (je d m.a) (je d m.b)
def yA(d:zt)(m:Mv):Rw5 × Rw5:=x9 m (je d m.a) (je d m.b)
def Yz(d:zt)(m:Mv):Rw5 × Rw5 × Bool:=if wN d m=true then ((yA d m).1,(yA d m).2,true) else (x8,x8,false)
theorem Zdd(d:zt)(m:Mv)(a6:d.length<=1048576)(w:∀t∈d,t.length<=1048576)(hk:m.k<=3)(x:m.a<d.length)(hb:m.b<d.length)(hi:m.i<=1048576)(y:m.j<=1048576):Pure prog 326 [.agg [L d],.agg (ZA m)]
  (.tup [.agg (yG (Yz d m).1),.agg (yG (Yz d m).2.1),B (Yz d m).2.2]):=by
 obtain⟨ta,xa,a1,-,-,a0⟩:=zN rfl d m.a x;obtain⟨e,xb,b1,-,-,b0⟩:=zN rfl d m.b hb;have z:1<=d.length-m.a:=DO
 have a2:1<=d.length-m.b:=DO
 have la:je d m.a=ta.length:=by unfold je;rw[Aa,a1];rfl
 have lb:je d m.b=e.length:=by unfold je;rw[Aa,b1];rfl
 have a3:=w e (Ab b1);have l:wN d m=ue m ta.length e.length:=by unfold wN;rw[la,lb,decide_eq_true ⟨hk,x,hb⟩];rfl
 have n:yA d m=x9 m ta.length e.length:=by unfold yA;rw[la,lb]
 unfold Yz;rw[l,n];clear l n la lb;have call:∀f g:Nat,m.k=m.k->True:=λ_ _ _=>trivial
 clear call;have g1:¬(m.k:Int)<0:=DO
 have g2:¬(3:Int)<m.k:=DO
 have g3:¬(m.a:Int)<0:=DO
 have g4:¬d.length<=m.a:=DO
 have g5:¬(m.b:Int)<0:=DO
 have g6:¬d.length<=m.b:=DO
 refine zx func326 ntmps326 results326 λS nx hd=>?_
 refine DY ?_;intro v0 v1 v2 v3;refine DY ?_
 repeat apply ze
 refine zi [(3,18),(8,23),(13,28),(19,34),(24,39)] (zW g1 g2 g3 g4 g5 g6) ?_;refine zp rfl (zk (ze (zD (some [nx,nx+1]) (Row.pures [0,1,2,3,4,5,6,7,8,9,10,11,12,13,14,15,16,17] (.alt 18 (.alt 19 (.done) .stop) .stop)) mixed (zW a0 b0 x hb z a2) ?_)));intro v4;obtain⟨mf,cf,a4,a5,s⟩:∃mf cf:Nat,Pure prog mf [.agg (ZZ m ta.length e.length)] (B (ue m ta.length e.length))/\Pure prog cf [.agg (ZZ m ta.length e.length)] (.tup [.agg (yG (x9 m ta.length e.length).1),.agg (yG (x9 m ta.length e.length).2)]) /\
   ∃k:Nat,(k:Int)=m.k/\k<4/\(ZaP.drop (k*2)).take 2=[.fn (.func mf) [] [],.fn (.func cf) [] []]:=by
  have h4:m.k=0\/m.k=1\/m.k=2\/m.k=3:=DO
  rcases h4 with h | h | h | h
  ·exact⟨_,_,ZpB m _ _ h,ZpF m _ _ h hi y,0,by omega,by omega,rfl⟩
  ·exact⟨_,_,ZpC m _ _ h a3,ZpH m _ _ h hi y,1,by omega,by omega,rfl⟩
  ·exact⟨_,_,ZpD m _ _ h,ZpI m _ _ h hi y,2,by omega,by omega,rfl⟩
  ·exact⟨_,_,ZpE m _ _ DO,ZpG m _ _ DO,3,by omega,by omega,rfl⟩
 obtain⟨k,a7,u,q⟩:=s;obtain rfl:k=m.k:=DO
 have o:(m.k:Int)<4:=DO
 have v:2<=8-m.k*2:=DO
 generalize a8:ue m ta.length e.length=mz at *;generalize a9:x9 m ta.length e.length=cz at *;obtain⟨r1,r2⟩:=cz;generalize r:ZaP=kl at q;have c:=Zhd;rw[r]at c;have p:kl.length=8:=by rw[<-r];rfl
 clear r;refine ze (zD (some [nx+1]) (Row.pures [0,1,2,3] (.alt 4 (.alt 5 (.done) .stop) .stop)) mixed (yr q u o p v) ?_);refine zO (c) (yr q u o p v) ?_;intro v5
 repeat apply ze
 refine zg ?_;refine zv a4 ?_;cases mz with
 | false =>
  refine zo rfl (DY ?_);exact zj (zm hd DQ (by simp[zr,x8,yX]))
 | true =>
  refine zp rfl (zk (DY ?_));refine zv a5 ?_;intro v6 v7;refine ze (zD (some [nx+6,nx+7]) (Row.pures [0,1] (.alt 2 (.alt 3 (Row.pures [4] .done) .stop) .stop)) mixed trivial ?_);exact zj (zm hd DQ (by simp[zr]))
open Go Go.Proofs
theorem Zhe(l:List Stop)(k:Nat)(s:Stop)(h:k<l.length):yk (l.flatMap Enc.enc) (k*2) [I s.c,I s.q]=(l.set k s).flatMap Enc.enc:=by
 unfold yk;rw[AE,if_pos h,Aq,Az,<-JC Enc.enc 2 (λ_=>rfl) l k,<-Xq Enc.enc 2 (λ_=>rfl) l (k+1)];simp[show k*2+2=(k+1)*2 by omega]
def jP(l:List Stop)(k:Nat):List Stop:=(List.range l.length).map λq=>if q<k\/l.length-1-q<k then l.getD (l.length-1-q) default else l.getD q default
theorem Zc(l:List Stop)(k:Nat):(jP l k).length=l.length:=by simp[jP]
theorem XT{l:List Stop}{k q:Nat}(a:q<l.length):(jP l k)[q]?=some (if q<k\/l.length-1-q<k then l.getD (l.length-1-q) default else l.getD q default):=by
 unfold jP;rw[Aj,Bl a];rfl
theorem ZpJ(l:List Stop):jP l 0=l:=by
 apply A8;intro q
 by_cases h:q<l.length
 ·rw[XT h,if_neg DO,Aa,Ac h];rfl
 ·rw[Ao (by rw[Zc];omega),Ao DO]
theorem ZpK{l:List Stop}{k:Nat}(a:l.length-1<=k+k):jP l k=l.reverse:=by
 apply A8;intro q
 by_cases h:q<l.length
 ·rw[XT h,List.getElem?_reverse h]
  by_cases h1:q<k\/l.length-1-q<k
  ·rw[if_pos h1,Aa,Ac DO];rfl
  ·rw[if_neg h1,Aa];have:q=l.length-1-q:=DO
   rw[<-this,Ac h];rfl
 ·rw[Ao (by rw[Zc];omega),Ao DT]
theorem ZpL{l:List Stop}{k:Nat}(h:k<l.length-1-k){a b:Stop}(d:(jP l k)[k]?=some a)(hb:(jP l k)[l.length-1-k]?=some b):((jP l k).set k b).set (l.length-1-k) a=jP l (k+1):=by
 rw[XT DO,if_neg DO]at d;rw[XT DO,if_neg DO]at hb;cases d;cases hb;apply A8;intro q
 by_cases c:q<l.length
 ·rw[XT c,Bu,Bu]
  by_cases e:l.length-1-k=q
  ·rw[if_pos e,if_pos (by rw[BJ,Zc];omega),if_pos DO];congr 2;omega
  ·rw[if_neg e]
   by_cases e2:k=q
   ·subst e2;rw[if_pos rfl,if_pos (by rw[Zc];exact c),if_pos DO]
   ·rw[if_neg e2,XT c]
    by_cases h1:q<k\/l.length-1-q<k
    ·rw[if_pos h1,if_pos DO]
    ·rw[if_neg h1,if_neg DO]
 ·rw[Ao (by rw[BJ,BJ,Zc];omega),Ao (by rw[Zc];omega)]
theorem ZaQ(S:Store)(i:Nat)(a b:Ob):(S.set i a).set i b=S.set i b:=by
 funext o
 by_cases h:o=i
 ·subst h;rw[q11,q11]
 ·rw[q10 _ _ _ _ h,q10 _ _ _ _ h,q10 _ _ _ _ h]
theorem ZpM{S:Store}{id ver:Nat}(pre l:List Stop)(hn:(pre++l).length<=1048576)(hid:S id=.cells ver 100 ((pre++l).flatMap Enc.enc)):
  Spec prog 344 [.sl id ver 2 (pre.length*2) l.length] S (λ_ S'=>S'=S.set id (.cells ver 100 ((pre++l.reverse).flatMap Enc.enc))):=by
 refine yt func344 ntmps344 results344 λnx w=>?_
 have e:id<nx:=qi w hid DP;simp only[Am]at hn;have w0:IntKind.i64.wrap ((l.length:Int)-1)=(l.length:Int)-1:=wr _ DO DO;refine ze (zi [] w0 ?_);refine zn (jX (σ:=Nat) (λk=>k<=l.length) (λk=>[(0,.sl id ver 2 (pre.length*2) l.length),(2,I k),(3,I ((l.length:Int)-1-k))]) (λk=>S.set id (.cells ver 100 ((pre++jP l k).flatMap Enc.enc))) (λ_=>[]) (λk=>l.length-k) (zZ 0 [] DP DP (by rw[ZpJ];exact XF S id _ hid) DP) ?_);rintro k hk
 show PW _ _ _ _ _ _ _ (ext (S.set id (.cells ver 100 ((pre++jP l k).flatMap Enc.enc))) nx [])
 obtain⟨T,d⟩:∃T,T=S.set id (.cells ver 100 ((pre++jP l k).flatMap Enc.enc)):=⟨_,rfl⟩;rw[<-d]
 repeat apply ze
 refine zg ?_;refine zA rfl (λhc=>?_) (λhc=>?_)
 ·simp at hc;have h1:k<l.length-1-k:=DO
  have x1:=Zc l k;obtain⟨a,ta,z,-,-,-,a0⟩:=el 2 rfl (pre++jP l k) (pre.length+k) (by simp[Zc];omega);obtain⟨b,tb,b1,-,-,-,b0⟩:=el 2 rfl (pre++jP l k) (pre.length+(l.length-1-k)) (by simp[Zc];omega);have o:=ZpL h1 (a:=a) (b:=b) (by rw[<-z,Ak (by omega),AI]) (by rw[<-b1,Ak (by omega),AI]);have p:=Zhe (pre++jP l k) (pre.length+k) b (by simp[Zc];omega);have f:=Zhe ((pre++jP l k).set (pre.length+k) b) (pre.length+(l.length-1-k)) a (by simp[Zc];omega);have q:((pre++jP l k).set (pre.length+k) b).set (pre.length+(l.length-1-k)) a=pre++jP l (k+1):=by
   rw[BE _ _ DO,BE _ _ DO,AI,AI,o]
  rw[q]at f;have r:(l.length:Int)-1-k=((l.length-1-k:Nat):Int):=DO
  generalize l.length-1-k=j at *;generalize s:((pre++jP l k).flatMap Enc.enc:List PV)=c0 at *;generalize t:(((pre++jP l k).set (pre.length+k) b).flatMap Enc.enc:List PV)=c1 at *;have l0:c0.length=(pre.length+l.length)*2:=by rw[<-s,QM];simp[Zc]
  have l1:c1.length=(pre.length+l.length)*2:=by rw[<-t,QM];simp[Zc]
  have g:T id=.cells ver 100 c0:=by rw[d];exact q11 _ _ _
  have u:=λobs=>zJ (S:=T) (obs:=obs) e
  have h:=λobs=>zJ (S:=T.set id (.cells ver 100 c1)) (obs:=obs) e
  have v:(T.set id (.cells ver 100 c1)) id=.cells ver 100 c1:=q11 _ _ _;have m:k+1<=l.length:=DO
  have q1:pre.length*2+k*2=(pre.length+k)*2:=DO
  have q2:pre.length*2+j*2=(pre.length+j)*2:=DO
  have q3:j<l.length:=DO
  have q4:k<l.length:=DO
  have q5:¬nx<=id:=DO
  refine zk (ze (zn ?_));rw[r];refine zD (some []) (Row.pures [0,1,2,3,4,5,6,8,9,10] (.alt 7 (.alt 11 (Row.pures [12] (.alt 13 (Row.pures [14] (.alt 15 (.done) .stop)) .stop)) .stop) (.alt 11 (.alt 7 (Row.pures [12] (.alt 13 (Row.pures [14] (.alt 15 (.done) .stop)) .stop)) .stop) .stop))) mixed (zW u g q1 q2 a0 (zq (zW b0 q3 q4 q5 l0 p) (zS v h f l1))) ?_;have x:IntKind.i64.wrap ((j:Int)-1)=(l.length:Int)-1-((k+1:Nat):Int):=by rw[wr _ DO DO];omega
  have y:=zy k DO;have n:S.set id (.cells ver 100 ((pre++jP l (k+1)).flatMap Enc.enc))=(T.set id (.cells ver 100 c1)).set id (.cells ver 100 ((pre++jP l (k+1)).flatMap Enc.enc)):=by rw[d,ZaQ,ZaQ]
  have c:((pre++jP l (k+1)).flatMap Enc.enc:List PV)=pre.flatMap Enc.enc++(jP l (k+1)).flatMap Enc.enc:=by rw[Aq]
  rw[c]at n;refine⟨?_,?_⟩
  ·refine⟨by omega,by omega,?_⟩;refine zi [] (zq y x) ?_;exact zu (k+1) [] m DO DP (by rw[c,d];simp only[ZaQ]) DP
  ·refine⟨by omega,by omega,?_⟩;refine zi [] (zq y x) ?_;exact zu (k+1) [] m DO DP (by rw[c,d];simp only[ZaQ]) DP
 ·simp at hc;refine zC ?_;refine⟨[],T,rfl,?_,yb ?_⟩
  ·rw[d,ZpK DO]
  ·rw[d];intro i hi;rw[q10 _ _ _ _ DO];exact w i hi
open Go Go.Proofs
def qT(d:zt)(p:Pc):List Stop:=if p.f<p.o then (bif p.b then (((d.getD p.t []).drop p.f).take (p.o-p.f)).reverse else ((d.getD p.t []).drop p.f).take (p.o-p.f)) else []
def qt(d:zt)(r:Rw5):List Stop:=r.l.flatMap (qT d)
def XU(d:zt)(p:Pc):Prop:=p.f<p.o->p.t<d.length/\p.o<=je d p.t
def Zd(d:zt)(r:Rw5):Prop:=∀p∈r.l,XU d p
theorem ZpN(d:zt):Zd d x8:=by
 intro p a h;simp[Rw5.l,x8]at a;subst a;exact absurd h DV
theorem ZaR(r:Rw5){k:Nat}(h:k<5):∃p,r.l[k]?=some p/\((yG r).drop (k*4)).take 4=pcL p/\r.l.take (k+1)=r.l.take k++[p]:=by
 have a:k=0\/k=1\/k=2\/k=3\/k=4:=DO
 rcases a with rfl | rfl | rfl | rfl | rfl<;>exact⟨_,rfl,rfl,rfl⟩
theorem Zhf{d:zt}{p:Pc}{m:Nat}(h:∀t∈d,t.length<=m):(qT d p).length<=m:=by
 have c:(d.getD p.t []).length<=m:=by
  rw[Aa];cases a:d[p.t]? with
  | none=>simp
  | some l=>exact h l (Ab a)
 unfold qT;generalize d.getD p.t []=l at *;split
 ·cases p.b<;>simp<;>omega
 ·simp
theorem Zhg(d:zt)(r:Rw5)(d1:d.length<=1048576)(s:∀t∈d,t.length<=1000)(hr:Zd d r):Pure prog 329 [.agg [L d],.agg (yG r)] (L (qt d r)):=by
 have w:=λk (h:k<5)=>ZaR r h
 have hz:qt d r=(r.l.take 5).flatMap (qT d):=by unfold qt;rw[Af (by simp[Rw5.l])]
 rw[hz];clear hz;have x:(yG r).length=20:=rfl;have a2:(yG r).take 20=yG r:=rfl;have y:=λp=>Zhf (d:=d) (p:=p) s
 have a3:∀k,((r.l.take k).flatMap (qT d)).length<=1000*k:=by
  intro k
  induction k with
  | zero=>simp
  | succ k ih =>
   by_cases hk:k<5
   ·obtain⟨p,-,-,e⟩:=w k hk;rw[e,Aq,Am];have:=y p;simp only[Az,Ct,AH];omega
   ·rw[Af (by simp[Rw5.l];omega)]at ih ⊢;omega
 have d2:r.l.length=5:=rfl;generalize d3:yG r=rc at *;refine zx func329 ntmps329 results329 λS nx hd=>?_
 refine DY ?_;intro v0 v1;refine DY ?_;refine ze (q9 5 100 2 rfl λj=>?_);refine ze (zi [] (zq x a2) ?_);refine zn (zK (λs':Nat × Nat=>s'.1<=5) (λ(k,j)=>[(2,.ptr nx v0 0),(3,.ptr (nx+1) v1 0),(5,.sl (nx+2) j 2 0 ((r.l.take k).flatMap (qT d)).length),(9,.agg rc),(10,I k)]) (λ(k,j)=>[.cells v0 39 [L d],.cells v1 371 rc,.cells j 100 (((r.l.take k).flatMap (qT d)).flatMap Enc.enc)]) (λs'=>5-s'.1) (0,j) [] DP DP DP ?_);rintro⟨k,j⟩ hk;simp only at hk ⊢
 by_cases z:k<5
 ·obtain⟨p,a4,a5,a6⟩:=w k z;have n:(k:Int)<5:=DO
  have a7:4<=20-k*4:=DO
  have a8:=hr p (Ab a4);have d4:=a3 k;have i:(r.l.take (k+1)).flatMap (qT d)=(r.l.take k).flatMap (qT d)++qT d p:=by rw[a6,Aq];simp
  have c7:=y p;generalize (r.l.take k).flatMap (qT d)=out at *;have wk:=zy k DO;refine ze (zi [] n ?_);refine ze (zo rfl (zk (ze (zn (ze (zi [] (yr a5 z n x a7) ?_))))));intro v3
  by_cases u:p.f<p.o
  case neg =>
   have a:qT d p=[]:=by unfold qT;rw[if_neg u]
   have c:p.o<=p.f:=DO
   repeat apply ze
   refine zi [] c ?_;refine zo (by simp[c]) ?_;refine zC (zg ?_);exact zu (k+1,j) [_] DT DT (by simp[wk,i,a]) rfl (by simp[i,a];rfl)
  obtain⟨ht,ho⟩:=a8 u;obtain⟨t,tt,t1,-,-,t0⟩:=zN rfl d p.t ht;have a9:1<=d.length-p.t:=DO
  have a0:d.getD p.t []=t:=by rw[Aa,t1];rfl
  unfold je at ho;rw[a0]at ho;have a:qT d p=bif p.b then ((t.drop p.f).take (p.o-p.f)).reverse else (t.drop p.f).take (p.o-p.f):=by unfold qT;rw[if_pos u,a0]
  have c:¬p.o<=p.f:=DO
  have b7:((t.flatMap Enc.enc:List PV).drop (p.f*2)).take ((p.o-p.f)*2)=((t.drop p.f).take (p.o-p.f)).flatMap Enc.enc:=by rw[Xq Enc.enc 2 (λ_=>rfl) t p.f,JC Enc.enc 2 (λ_=>rfl) (t.drop p.f) (p.o-p.f)]
  have g:((t.drop p.f).take (p.o-p.f)).length=p.o-p.f:=DT
  have c8:(((t.drop p.f).take (p.o-p.f)).flatMap Enc.enc:List PV).length=(p.o-p.f)*2:=by rw[QM,g]
  generalize (t.drop p.f).take (p.o-p.f)=sg at *;have b8:(out.flatMap Enc.enc:List PV).length=out.length*2:=QM out;have c6:(out.flatMap Enc.enc:List PV).take (out.length*2)=out.flatMap Enc.enc:=Af DO;have q1:p.f<=p.o:=DO
  have d5:=s t (Ab t1)
  repeat apply ze
  refine zi [] c ?_;refine zp (by simp[c]) ?_;refine zk (DY ?_);refine ze (zD (some [nx,nx+3]) (Row.pures [0,1,2,3,4,5,6,7,8,9,10,11,12] (.alt 13 (Row.pures [14] .done) .stop)) mixed (zW t0 ht a9 b8 c6 (zS b7 g q1 ho)) ?_);refine⟨by omega,?_⟩;have d0:sg.length<=1000:=by
   have h1:=s t (Ab t1);omega
  cases m:p.b with
  | false =>
   rw[m]at a;simp only[cond_false]at a;refine ze (zi [] m ?_);refine zp rfl (zk (zg ?_));exact zu (k+1,j+1) [_] DT DT (by simp[wk,i,a,g]) rfl (by simp[i,a];rfl)
  | true =>
   rw[m]at a;simp only[cond_true]at a;have q:=λ(S:Store) (id ver:Nat) h=>ZpM (S:=S) (id:=id) (ver:=ver) out sg DT h
   rw[g]at q;refine ze (zi [] m ?_);refine zo rfl (zg ?_);refine λa1=>((q _ _ _ (by rw[zY,Aq];rfl)).mono ?_).v
   rintro _ _ rfl;refine⟨_,_,yl _ DO DP,xl [] (show nx+2-nx=2 by omega) a1 ?_⟩;refine zg ?_;exact zu (k+1,j+1) [_] DT DT (by simp[wk,i,a,g]) rfl (by simp[i,a];rfl)
 ·obtain rfl:k=5:=DO
  generalize (r.l.take 5).flatMap (qT d)=out at *;refine DY ?_;refine ze (zp rfl (zC (yh 2 rfl ?_)));refine DY ?_;exact zj (zm hd DQ (by simp[zr]))
open Go Hp
theorem Zhh{α:Type}{d:List α}(hn:d.Nodup){i j:Nat}{t:α}(hi:d[i]?=some t)(a:d[j]?=some t):i=j:=by grind[List.pairwise_iff_getElem]
def xR(f:zU->Bool):zt->Int
 | []=>-1
 | t :: d=>if 0<=xR f d then xR f d+1 else if f t then 0 else -1
theorem Zhi(f:zU->Bool):∀d:zt,(xR f d=-1/\∀t∈d,f t=false)\/∃(k:Nat) (t:zU),d[k]?=some t/\f t=true/\xR f d=k
 | []=>.inl ⟨rfl,λt h=>by cases h⟩
 | u :: d=>by
  unfold xR;rcases Zhi f d with ⟨h1,h2⟩ | ⟨k,t,h1,h2,h3⟩
  ·rw[h1,if_neg DO];cases a:f u with
   | true=>exact .inr ⟨0,u,rfl,a,by simp⟩
   | false =>
    simp_all
  ·rw[h3,if_pos DO];exact .inr ⟨k+1,t,by simpa using h1,h2,by simp⟩
def Zde(d:zt)(a b:Nat)(t:zU)(k:Nat):zt:=(List.range k).flatMap λj=>if j=a then [t] else if j=b then [] else [d.getD j []]
def Qb(c:Int)(t:zU):Bool:=decide (QQ t=some c)
def Qc(c:Int)(t:zU):Bool:=decide (JO t=some c)
def Qd(x:Inst)(d:zt)(p:Pr):zt :=
 if xR (Qb p.a) d<0\/xR (Qc p.b) d<0\/xR (Qb p.a) d=xR (Qc p.b) d\/(p.s<=0/\(d.length:Int)<=x.veh) then d
 else if yc x (d.getD (xR (Qb p.a) d).toNat []++d.getD (xR (Qc p.b) d).toNat [])=0 then
  Zde d (xR (Qb p.a) d).toNat (xR (Qc p.b) d).toNat (d.getD (xR (Qb p.a) d).toNat []++d.getD (xR (Qc p.b) d).toNat []) d.length
 else d
theorem Zdf{α β γ:Type}{f:α->List γ}{g:β->List γ}:∀(A:List α) (B:List β),A.length=B.length->(∀(j:Nat) a b,A[j]?=some a->B[j]?=some b->f a=g b)->A.flatMap f=B.flatMap g
 | [],[],_,_=>rfl
 | a :: A,b :: B,hl,h=>by
  rw[Az,Az,h 0 a b rfl rfl,Zdf A B (by simpa using hl) λj a b c hb=>h (j+1) a b (by simpa using c) (by simpa using hb)]
 | [],_ :: _,hl,_=>by simp at hl
 | _ :: _,[],hl,_=>by simp at hl
theorem Zdg{α:Type}(p:α->Bool):∀l:List α,l.filter p=l.flatMap λa=>if p a then [a] else []
 | []=>rfl
 | a :: l=>by
  rw[Az,<-Zdg p l,Cf];cases p a<;>simp
structure Apt (T:zt):Prop where
 u:∀(i j:Nat) t s s',T[i]?=some t->s∈t->∀t',T[j]?=some t'->s'∈t'->s.c=s'.c->i=j
theorem JI.apt{ss:List Stop}{T:zt}{g:Int->Option Int}(h:JI ss T g):Apt T:=⟨λi j t s s' hi hs t' b a e=>by
 have c:=h.g i t s hi hs;have e2:=h.g j t' s' b a
 grind⟩
abbrev ne(t:zU):Bool:=!t.isEmpty
theorem W8{t:zU}(h:ne t=true):∃s,s∈t:=by cases t<;>simp_all
theorem Zhj{t:zU}{s:Stop}(h:s∈t):ne t=true:=DW
def XV(ta tb u:zU):zt:=if u=ta then [ta++tb] else if u=tb then [] else [u]
theorem ZpO{T:zt}(g:Apt T){i k:Nat}{ta a:zU}(hi:T[i]?=some ta)(h:T[k]?=some a)(l:i≠k)(n:ne ta=true)(hb:ne a=true):
  ((T.set i (ta++a)).set k []).filter ne=(T.filter ne).flatMap (XV ta a):=by
 rw[Zdg ne T,List.flatMap_assoc,Zdg];refine Zdf _ _ DP λj u v c hv=>?_
 obtain⟨q,o⟩:=W8 n;obtain⟨m,d⟩:=W8 hb;have e:=(Ad.1 hv).1
 by_cases h1:k=j
 ·subst h1;rw[AW (by simpa using e)]at c;cases c;obtain rfl:a=v:=by rw[h]at hv;exact Option.some.inj hv
  have p:a≠ta:=by
   rintro rfl;exact l (g.u i k a m m hi d a h d rfl)
  simp_all[XV]
 ·rw[AZ h1]at c
  by_cases h2:i=j
  ·subst h2;rw[AW e]at c;cases c;obtain rfl:ta=v:=by rw[hi]at hv;exact Option.some.inj hv
   simp_all[XV]
  ·rw[AZ h2]at c;obtain rfl:u=v:=DX
   cases hn:ne u with
   | false=>simp
   | true =>
    obtain⟨f,b⟩:=W8 hn;have n1:u≠ta:=by rintro rfl;exact h2 (g.u i j u f f hi b u hv b rfl)
    have r:u≠a:=by rintro rfl;exact h1 (g.u k j u f f h b u hv b rfl)
    simp_all[XV]
theorem ZpP{T:zt}(a:Apt T):(T.filter ne).Nodup:=by
 rw[List.nodup_iff_pairwise_ne,List.pairwise_filter,Bw];intro i j hi b c h1 h2 e;obtain⟨s,hs⟩:=W8 h1;have:=a.u i j T[i] s s (Ac hi) hs T[j] (Ac b) (e ▸ hs) rfl;omega
theorem ZpQ{d:zt}(hn:d.Nodup){a b:Nat}{ta c:zU}(e:d[a]?=some ta)(hb:d[b]?=some c):Zde d a b (ta++c) d.length=d.flatMap (XV ta c):=by
 unfold Zde;refine Zdf _ _ DP λj n u f g=>?_
 grind[Zhh,XV]
theorem Zhk{T:zt}(h:Apt T){i:Nat}{t:zU}{s:Stop}(hi:T[i]?=some t)(hs:s∈t)(f:zU->Bool)(hf:∀u,f u=true->∃s'∈u,s'.c=s.c):
  (f t=false/\xR f (T.filter ne)=-1)\/(f t=true/\∃k:Nat,(T.filter ne)[k]?=some t/\xR f (T.filter ne)=k):=by
 have g:∀u∈T.filter ne,f u=true->u=t:=by
  intro u l a;obtain⟨s',b,e⟩:=hf u a;obtain⟨j,d⟩:=Bi.1 (Bn.1 l).1;have:=h.u i j t s s' hi hs u d b e.symm;subst this;rw[hi]at d;exact(Option.some.inj d).symm
 grind[Zhi]
theorem ZpR{c:Int}{t:zU}(h:Qb c t=true):∃s∈t,s.c=c:=by
 have h:QQ t=some c:=of_decide_eq_true h
 grind[QQ]
theorem ZpS{c:Int}{t:zU}(h:Qc c t=true):∃s∈t,s.c=c:=by
 have h:JO t=some c:=of_decide_eq_true h
 grind[JO]
theorem Zdh(p:zU->Bool):∀T:zt,((T.filter p).length:Int)=(T.map λt=>if p t then (1:Int) else 0).sum
 | []=>rfl
 | t :: T=>by
  rw[Cf,AD,BR,<-Zdh p T]
  grind
theorem ZpT{T:zt}{i k:Nat}{ta a:zU}(hi:T[i]?=some ta)(c:T[k]?=some a)(b:i≠k)(d:ne ta=true)(hb:ne a=true):
  ((((T.set i (ta++a)).set k []).filter ne).length:Int)=((T.filter ne).length:Int)-1:=by
 obtain⟨f,e⟩:=W8 d;rw[Zdh,Zdh,Zc4 _ _ k a [] (by rw[AZ b];exact c),Zc4 _ _ i ta (ta++a) hi]
 simp_all
theorem ZpU{x:Inst}{ss:List Stop}{st:zt × Int}{g:Int->Option Int}(h:JI ss st.1 g)(o:st.2=((st.1.filter ne).length:Int)){p:Pr}(a5:p.a∈ss.map (·.c))(a6:p.b∈ss.map (·.c)):
  Qd x (st.1.filter ne) p=(jE x st p).1.filter ne/\(jE x st p).2=(((jE x st p).1.filter ne).length:Int)/\∃g',JI ss (jE x st p).1 g':=by
 obtain⟨i,a,sa,j,n,w,b8,a7⟩:=h.there a5;obtain⟨k,b,sb,d,y,z,c6,a8⟩:=h.there a6;have a9:st.1.getD i []=a:=by rw[Aa,j];rfl
 have b7:st.1.getD k []=b:=by rw[Aa,d];rfl
 have a0:jE x st p=bif qS x st.2 p i k a b then ((st.1.set i (a++b)).set k [],st.2-1) else st:=by
  unfold jE W3;simp only[a7,a8,a9,b7]
 have hA:=h.apt;have a1:=Zhj n;have a2:=Zhj y;have a3:=ZpP hA;rw[a0];have m:qS x st.2 p i k a b=false->Qd x (st.1.filter ne) p=st.1.filter ne->Qd x (st.1.filter ne) p=(bif qS x st.2 p i k a b then ((st.1.set i (a++b)).set k [],st.2-1) else st).1.filter ne/\(bif qS x st.2 p i k a b then ((st.1.set i (a++b)).set k [],st.2-1) else st).2=(((bif qS x st.2 p i k a b then ((st.1.set i (a++b)).set k [],st.2-1) else st).1.filter ne).length:Int)/\∃g',JI ss (bif qS x st.2 p i k a b then ((st.1.set i (a++b)).set k [],st.2-1) else st).1 g':=by
  intro t e2;rw[t];exact⟨e2,o,g,h⟩
 rcases Zhk hA j n (Qb p.a) (λu hu=>by rw[w];exact ZpR hu) with ⟨fa,la⟩ | ⟨fa,ka,ha1,la⟩
 ·have t:QQ a≠some p.a:=of_decide_eq_false fa;refine m (by simp[qS,t]) ?_;unfold Qd;rw[if_pos (.inl DO)]
 rcases Zhk hA d y (Qc p.b) (λu hu=>by rw[z];exact ZpS hu) with ⟨fb,lb⟩ | ⟨fb,kb,hb1,lb⟩
 ·have t:JO b≠some p.b:=of_decide_eq_false fb;refine m (by simp[qS,t]) ?_;unfold Qd;rw[if_pos (.inr (.inl DO))]
 have t:QQ a=some p.a:=of_decide_eq_true fa;have e2:JO b=some p.b:=of_decide_eq_true fb;have a4:ka=kb<->i=k:=by
  constructor
  ·rintro rfl;obtain rfl:a=b:=by rw[ha1]at hb1;exact Option.some.inj hb1
   exact hA.u i k a sa sa j n a d n rfl
  ·rintro rfl;obtain rfl:a=b:=by rw[j]at d;exact Option.some.inj d
   exact Zhh a3 ha1 hb1
 have ga:(st.1.filter ne).getD (ka:Int).toNat []=a:=by rw[AN,Aa,ha1];rfl
 have gb:(st.1.filter ne).getD (kb:Int).toNat []=b:=by rw[AN,Aa,hb1];rfl
 by_cases l:i=k
 ·refine m (by simp[qS,l]) ?_;unfold Qd;rw[if_pos (.inr (.inr (.inl (by rw[la,lb,a4.2 l]))))]
 by_cases f:p.s<=0/\st.2<=x.veh
 ·refine m (by simp[qS,f.1,f.2]) ?_;unfold Qd;rw[if_pos (.inr (.inr (.inr ⟨f.1,by omega⟩)))]
 have v:¬(xR (Qb p.a) (st.1.filter ne)<0\/xR (Qc p.b) (st.1.filter ne)<0\/xR (Qb p.a) (st.1.filter ne)=xR (Qc p.b) (st.1.filter ne)\/(p.s<=0/\((st.1.filter ne).length:Int)<=x.veh)):=by
  rw[la,lb];rintro(q | q | q | q)
  ·omega
  ·omega
  ·exact l (a4.1 DO)
  ·exact f ⟨q.1,by omega⟩
 by_cases r:yc x (a++b)=0
 ·have hc:qS x st.2 p i k a b=true:=by
   unfold qS;simp only[l,t,e2,r,Ar,decide_eq_true_eq,ne_eq,not_false_eq_true,Cm,C4,decide_eq_false_iff_not,and_true,true_and]
   by_cases q:p.s<=0
   ·exact .inr λe=>f ⟨q,e⟩
   ·exact .inl q
  rw[hc];simp only[cond_true];refine⟨?_,?_,_,h.join j d l⟩
  ·unfold Qd;rw[if_neg v,la,lb,ga,gb,if_pos r,ZpO hA j d l a1 a2,<-ZpQ a3 ha1 hb1];rfl
  ·rw[ZpT j d l a1 a2,o]
 simp_all[qS,Qd]
theorem ZpV(ss:List Stop):(ss.map λs=>[s]).filter ne=jk ss:=by simp[jk]
open Go Hp
theorem Zhl(l:List Stop):(jk l).length=l.length:=by simp[jk]
theorem ZpW{x:Inst}{ss:List Stop}{T:zt}{g:Int->Option Int}(h:JI ss T g)(c:ss.length<=1000):(T.filter ne).length<=1000/\(T.filter ne).flatten.length<=1000/\∀t∈T.filter ne,t≠[]:=by
 have hf:(T.filter ne).flatten=T.flatten:=by
  induction T with
  | nil=>rfl
  | cons t T b =>
   clear h;have key:∀T:zt,(T.filter ne).flatten=T.flatten:=by
    intro T
    induction T with
    | nil=>rfl
    | cons t T b =>
     rw[Cf];cases t with
     | nil=>simpa using b
     | cons s t=>simp[b]
   exact key _
 have a:∀t∈T.filter ne,t≠[]:=λt d e=>by
  have:=(Bn.1 d).2;rw[e]at this;cases this
 have hl:=h.perm.length_eq;have h1:=ZaK (T.filter ne) a;rw[hf]at h1;exact⟨by omega,by rw[hf];omega,a⟩
open Go Go.Proofs Hp
structure SOk (x:Inst) (l:List Stop):Prop where
 cust:x.cust.length<=1048576
 arc:qQ x
 veh:0<=x.veh
 len:l.length<=1000
 sm:∀s∈l,qv s.c
 nd:(l.map (·.c)).Nodup
def QY(x:Inst)(l:List Stop):List zt:=[vB x l,jk l]++(bif (jO x l).2 then [(jO x l).1] else [])
def YA(x:Inst)(imp:zt->zt)(l:List Stop):List zt:=[jk l,imp (vB x l),imp (jk l)]++(bif (jO x l).2 then [imp (jO x l).1] else [])
theorem Zhm{x:Inst}(hx:x.cust.length<=1048576):∀(n:Nat) (d:zt) (l:List Stop),l.length=n->RgOk x d l->RgOk x (uG x n d l).1 []/\((uG x n d l).2=true->(uG x n d l).1.flatten.Perm (d.flatten++l))
 | 0,d,l,hl,h=>by simp_all[uG]
 | n+1,d,l,hl,h=>by
  have a:l≠[]:=λe=>by simp_all
  obtain⟨k,c,b⟩:=Zg9 (x:=x) (d:=d) a;have f:l.getD k default=l[k]:=by rw[Aa,Ac b];rfl
  unfold uG;rw[c,AN,f];cases hi:(yZ x d l[k]).2 with
  | false =>
   refine⟨⟨h.ok,h.may,?_⟩,λe=>by cases e⟩;have:=h.len
   grind
  | true =>
   simp only[cond_true];obtain⟨h1,h2⟩:=Zhm hx n (yZ x d l[k]).1 (l.eraseIdx k) (by rw[BT b];omega) (h.step hx b hi);refine⟨h1,λe=>(h2 e).trans ?_⟩;have g:=Zc1 hi;refine(g.append_right _).trans ?_
   grind[List.eraseIdx_eq_take_drop_succ,List.drop_eq_getElem_cons,List.take_append_drop]
section
variable {x:Inst} {l:List Stop} (h:SOk x l)
include h
theorem SOk.apart:DayOk (jk l)/\(jk l).flatten=l/\(jk l).length<=1000:=by
 have hf:(jk l).flatten=l:=by
  unfold jk;clear h
  induction l with
  | nil=>rfl
  | cons s l d=>simpa using d
 refine⟨⟨?_,λt b=>?_,λt b a c=>?_⟩,hf,?_⟩
 ·rw[Zhl];have:=h.len;omega
 ·obtain⟨s,_,rfl⟩:=Al.1 b;simp
 ·obtain⟨s,hs,rfl⟩:=Al.1 b;simp at c;subst c;exact h.sm _ hs
 ·rw[Zhl];exact h.len
theorem SOk.join:DayOk (vB x l)/\(vB x l).flatten.Perm l/\(vB x l).length<=1000/\∀t∈vB x l,t≠[]:=by
 obtain⟨g,i⟩:=JI.begin l [] [] _ JI.nil (by simpa using h.nd);have key:∀(ps:List Pr) (st:zt × Int),(∃g,JI l st.1 g)->st.2=((st.1.filter ne).length:Int)->(∀p∈ps,p.a∈l.map (·.c)/\p.b∈l.map (·.c))->∃g,JI l (ps.foldl (jE x) st).1 g:=by
  intro ps
  induction ps with
  | nil=>simp_all
  | cons p ps m =>
   rintro st ⟨g,i⟩ hn d;obtain⟨h1,h2⟩:=d p DP;obtain⟨w,e2,r⟩:=ZpU (x:=x) i hn h1 h2;rw[A5];exact m _ r e2 λq u=>d q (by simp[u])
 obtain⟨g',e⟩:=key (jz x (l.map (·.c))) (l.map λs=>[s],(l.length:Int)) ⟨g,by simpa using i⟩ (by simp[ZpV,jk]) λp d=>by grind[ZaC,JN]
 have f:vB x l=((jz x (l.map (·.c))).foldl (jE x) (l.map λs=>[s],(l.length:Int))).1.filter ne:=rfl;obtain⟨n,w2,o⟩:=ZpW (x:=x) e h.len;have j:∀T:zt,(T.filter ne).flatten=T.flatten:=by
  intro T
  induction T with
  | nil=>rfl
  | cons t T m =>
   grind
 have d:(vB x l).flatten.Perm l:=by rw[f,j];exact e.perm
 rw[<-f]at n w2 o;refine⟨⟨by omega,λt k=>?_,λt k a v=>?_⟩,d,n,o⟩
 ·have:=(Y8 k).length_le;omega
 ·exact h.sm a (d.subset ((Y8 k).subset v))
theorem SOk.regret:RgOk x (jO x l).1 []/\((jO x l).2=true->(jO x l).1.flatten.Perm l):=by
 have:=Zhm h.cust l.length [] l rfl (Zha h.veh h.len)
 simp_all[jO]
end
def Zhn(x:Inst)(b:Int)(imp:zt->zt)(ds:List zt):Prop:=∀d∈ds,(∃n,Pure prog 252 [.agg (zE x),.agg [L d],I b] (.tup [.agg [L (imp d)],I n]))/\DayOk (imp d)/\(imp d).flatten.length<=1048576
theorem ZpX(x:Inst)(l:List Stop)(b:Int)(a:zt->zt)(h:SOk x l)(hI:wW x l=0->Zhn x b a (QY x l)):
  Pure prog 249 [.agg (zE x),L l,I b] (.tup [.agg [L (vZ x (wW x l) (YA x a l)).1],I (vZ x (wW x l) (YA x a l)).2]):=by
 have o:=ZmO x l h.cust (by have:=h.len;omega)
 by_cases j:wW x l=0
 case neg=>exact Zgu x (L l) b _ _ (JQ l) h.cust o (λe=>absurd e j) λe=>absurd e j
 have hI:=hI j;have p:=ZmN l (by have:=h.len;omega);have r:=Zot x l h.arc h.cust h.len h.sm h.nd;have i:=Zpz x l h.cust h.veh h.len;obtain⟨⟨n1,i1⟩,t,u⟩:=hI (vB x l) (by simp[QY]);obtain⟨⟨v,i2⟩,w,y⟩:=hI (jk l) (by simp[QY]);obtain⟨z,a2,a3⟩:=h.apart;have h3:(jO x l).2=true->(∃n,Pure prog 252 [.agg (zE x),.agg [L (jO x l).1],I b] (.tup [.agg [L (a (jO x l).1)],I n]))/\DayOk (a (jO x l).1)/\(a (jO x l).1).flatten.length<=1048576:=λe=>hI _ (by simp[QY,e])
 have q:=h.len;have hit:=Zoy (fsL x (L l) b) [some (jk l),some (a (vB x l)),some (a (jk l)),bif (jO x l).2 then some (a (jO x l).1) else none] rfl DP (by
  intro k f hf
  match k with
  | 0=>cases hf;exact⟨_,_,L (jk l),rfl,Zov (L l) (jk l) (JQ l) p,λd g=>by cases g;rfl⟩
  | 1=>cases hf;exact⟨_,_,L (a (vB x l)),rfl,Zow x (L l) b _ _ _ (JQ l) r i1,λd g=>by cases g;rfl⟩
  | 2=>cases hf;exact⟨_,_,L (a (jk l)),rfl,Zox x (L l) b _ _ _ (JQ l) p i2,λd g=>by cases g;rfl⟩
  | 3 =>
   cases hf;cases c:(jO x l).2 with
   | true =>
    obtain⟨⟨s,i3⟩,-⟩:=h3 c;rw[c]at i;exact⟨_,_,L (a (jO x l).1),rfl,Zgt x (L l) b _ _ true s (JQ l) i (λ_=>i3),λd g=>by cases g;rfl⟩
   | false =>
    rw[c]at i;exact⟨_,_,yD,rfl,Zgt x (L l) b _ [] false 0 (JQ l) i (λe=>by cases e),λd g=>by cases g⟩
  | k+4=>cases hf)
 have m:([some (jk l),some (a (vB x l)),some (a (jk l)),bif (jO x l).2 then some (a (jO x l).1) else none]:List (Option zt)).filterMap id=YA x a l:=by
  unfold YA;cases (jO x l).2<;>rfl
 rw[m]at hit;refine Zgu x (L l) b (wW x l) (YA x a l) (JQ l) h.cust o (λ_=>hit) λ_ d g=>?_
 grind
open Go Go.Proofs Hp
theorem ZpY{P:Program}{r:Rd}{n:Nat}{F:Nat->PV}{S:Store}{o:Oper}{t e:TypeId}{len:Nat}{parts:Array (Nat × Operand)}{cs:List PV}{K:PV->Store->Prop}(ho:o.op=.buildSlice t len parts)(m:P.underlying t=some (.slice e))(h0:P.cellsOf e≠0)(l:len<=1048576)
  (hl:ZM P e len (parts.toList.map λx=>(x.1,ev F x.2))=some cs)
  (g:∀C:Ctx,S C.next=.dead->∃id v,Fresh C S id v/\K (.sl id v (P.cellsOf e) 0 len) (S.set id (.cells v e cs))):PO P r n o F S K:=by
 intro G p C w a N st next Q' b;have d:parts.toList.map (λx=>(x.1,ev G x.2))=parts.toList.map (λx=>(x.1,ev F x.2)):=AM λx hx=>by
  rw[p x.2 (by simp only[ho,Op.operands,List.mem_toArray,Al];first | exact⟨x,hx,rfl⟩ | (simp;exact⟨x.1,by simpa using hx⟩))]
 rw[<-d]at hl;obtain⟨vs,f,h,j⟩:=ZbS (w:=w) m (ev G) a.eval st.ev hl;obtain⟨id,ver,k,g⟩:=g C st.sim.free;obtain⟨k1,q⟩:=st.sim.object' k e vs cs (Cw h.1) (λi v _ hv=>h.2.1 i v hv) h.2.2;refine qg (x:=.value (.slice (some ⟨w.heap.size,0,none⟩) len len)) (w':=w.alloc (.cells vs e)) (by intro c hc;rw[ho]at hc;cases hc) ?_
  (b _ _ _ _ _ g (WI C S w _ _ _ _ _ _ _ _ rfl (Ag _) (by unfold xk;omega) (by unfold maxLen;omega) j.symm) k1 q)
 unfold execOp;simp only[ho];have s:(parts.map λx=>(x.1,a.eval x.2))=(parts.toList.map λx=>(x.1,a.eval x.2)).toArray:=by
  apply BK.1;simp
 simp only[s,f,Sem.run_bind,Sem.run_pure,An]
theorem ZpZ{P:Program}{r:Rd}{n nx:Nat}{F:Nat->PV}{S:Store}{obs:List Ob}{o:Oper}{t e:TypeId}{len:Nat}{parts:Array (Nat × Operand)}{cs:List PV}{K:PV->Store->Prop}(ho:o.op=.buildSlice t len parts)(b:P.underlying t=some (.slice e))(h0:P.cellsOf e≠0)(a:len<=1048576)
  (hl:ZM P e len (parts.toList.map λx=>(x.1,ev F x.2))=some cs) (c:∀v,K (.sl (nx+obs.length) v (P.cellsOf e) 0 len) (ext S nx (obs++[.cells v e cs]))):PO P r n o F (ext S nx obs) K :=
 ZpY ho b h0 a hl (Yk (X:=λid v=>K (.sl id v (P.cellsOf e) 0 len) ((ext S nx obs).set id (.cells v e cs))) _ Zt λv=>by rw[jr];exact c v)
open Go Go.Proofs
theorem Zp0{P:Program}{r:Rd}{n nx N:Nat}{Q:Exit->(Nat->PV)->Store->Prop}{F:Nat->PV}{S:Store}{obs:List Ob}{A:Prop}{R:Nat->KT->CT->HT->Prop}{id:Nat}{ops:Array Oper}{o:Oper}{os:List Oper}{t e:TypeId}{len:Nat}{parts:Array (Nat × Operand)}
  (D:List (Nat × Nat)) (cs:List PV) (g:P.underlying t=some (.slice e)) (a:A) (h:∀v,R v (λF' S' b=>Q .normal F' (ext S' nx b)) (CQ P r n nx ops λF' S' b=>Q .normal F' (ext S' nx b)) (HQ P r n nx ops λF' S' b=>Q .normal F' (ext S' nx b)))
  (c:ops.toList=o :: os:=by rfl) (i:o.guard=none:=by rfl) (ho:o.op=.buildSlice t len parts:=by rfl) (h0:P.cellsOf e≠0:=by simp) (d:len<=1048576:=by decide)
  (hl:ZM P e len (parts.toList.map λx=>(x.1,ev F x.2))=some cs:=by simp[ZM,Yi]) (j:vw N ops=true:=by rfl) (k:uX ops D=true:=by rfl)
  (l:A->∀v,XQ P nx D os (yg F o.dst (.sl (nx+obs.length) v (P.cellsOf e) 0 len)) S (obs++[.cells v e cs]) (R v):=by intro a v K Gc Gh X f m h;simp -implicitDefEqProofs [f,m,a];exact h):PW P r n N (.region id ops false) Q F (ext S nx obs):=by
 refine Zaq j ?_;rw[c];unfold XS;have:gd ops F o=some true:=by unfold gd;rw[i]
 rw[this];exact ZpZ ho g h0 d hl λv=>⟨_,_,rfl,JG (by rw[c];exact List.suffix_cons _ _) k (l a v) (h v)⟩
def yJ(x:Inst)(t:zU):Nat->Int
 | 0=>0
 | i+1=>yJ x t i+arc x ((t.getD i default).c+1) ((t.getD (i+1) default).c+1)
def yK(x:Inst)(t:zU):Nat->Int
 | 0=>0
 | i+1=>yK x t i+arc x ((t.getD (i+1) default).c+1) ((t.getD i default).c+1)
theorem XW{x:Inst}(h:qQ x)(t:zU):∀i:Nat,0<=yJ x t i/\yJ x t i<=2147483648*(i:Int)
 | 0=>by simp[yJ]
 | i+1=>by
  have h1:=XW h t i;have h2:=h ((t.getD i default).c+1) ((t.getD (i+1) default).c+1);unfold yJ;omega
theorem XX{x:Inst}(h:qQ x)(t:zU):∀i:Nat,0<=yK x t i/\yK x t i<=2147483648*(i:Int)
 | 0=>by simp[yK]
 | i+1=>by
  have h1:=XX h t i;have h2:=h ((t.getD (i+1) default).c+1) ((t.getD i default).c+1);unfold yK;omega
structure Sm where
 f:List Int
 b:List Int
 l:List Int
 n:Int
instance:Enc Sm:=⟨λs=>[L s.f,L s.b,L s.l,I s.n],4,λ_=>rfl,λ_=>rfl⟩
@[simp] theorem ZzS(s:Sm):Enc.enc s=[L s.f,L s.b,L s.l,I s.n]:=rfl
@[simp high] theorem Zho(l:List Sm):(l.flatMap Enc.enc).length=l.length*4:=js l
@[simp high] theorem ZzT(l:List Sm):(l.flatMap Enc.enc).take (l.length*4)=l.flatMap Enc.enc:=Y6 l
def xS(x:Inst)(t:zU):Sm:=⟨(List.range t.length).map (yJ x t),(List.range t.length).map (yK x t),(List.range (t.length+1)).map λi=>ye (t.take i),yN x (t.map (·.c))⟩
abbrev Ze(x:Inst)(d:zt):List PV:=[I x.days,I x.veh,I x.cap,I x.len,L x.cust,L x.dist,L d,L (d.map (xS x))]
structure MvDay (d:zt):Prop where
 n:d.length<=1000
 t:∀t∈d,t.length<=1000
 s:∀t∈d,∀s∈t,qv s.c/\0<=s.q/\s.q<=2147483648
theorem Zp1{t:zU}{i:Nat}{s:Stop}(h:t.take (i+1)=t.take i++[s]):ye (t.take (i+1))=ye (t.take i)+s.q:=by rw[h,Zaz]
theorem Zdi{α:Type}(f:Nat->α)(k:Nat):(List.range (k+1)).map f=(List.range k).map f++[f k]:=by rw[AO,List.map_append];rfl
theorem Zp2(id v:Nat)(cs:List PV)(l:List Sm):(l.flatMap Enc.enc).map (qO id v cs)=(l.flatMap Enc.enc:List PV):=by
 induction l with
 | nil=>rfl
 | cons s l a=>rw[Az,List.map_append,a];rfl
theorem Zp3(x:Inst)(d:zt)(hx:qQ x)(o:MvDay d):Pure prog 324 [.agg (zE x),.agg [L d]] (.ip (Ze x d)):=by
 have d7:=o.n;refine zx func324 ntmps324 results324 λS nx hd=>?_
 refine DY ?_;intro v0 v1;refine DY ?_;intro l;refine jd 2 7 410 4 rfl rfl λv3=>?_
 repeat apply ze
 refine zg ?_;refine zn (zK (λs':Nat × Nat=>s'.1<=d.length) (λ(k,v3)=>[(2,.ptr nx v0 0),(5,.ptr (nx+2) l 0),(20,L d),(21,I d.length),(22,I k)]) (λ(k,v3)=>[.cells v0 25 (zE x),.cells v1 39 [L d],.cells l 408 [I x.days,I x.veh,I x.cap,I x.len,L x.cust,L x.dist,L d,.sl (nx+3) v3 4 0 k],.cells v3 410 (((d.map (xS x)).take k).flatMap Enc.enc)]) (λs'=>d.length-s'.1) (0,v3) [] DP DP DP ?_);rintro⟨k,v3⟩ hk;simp only at hk ⊢;refine DY ?_;refine ze (zA rfl (λhc=>?_) (λhc=>?_))
 ·simp at hc;obtain⟨t,tl,a1,a2,a3,e0⟩:=zN rfl d k hc;have a8:1<=d.length-k:=DO
  have y:=Ab a1;have d8:=o.t t y;have h:=o.s t y;have z:=WT x t DO (λs hs=>(h s hs).1);have a9:=XN hx (t.map (·.c));rw[List.length_map]at a9;rw[show W (yN x (t.map (·.c)))=yN x (t.map (·.c)) from wr _ DO DO]at z;refine zk (ze (zn (ze (zi [] (zF e0 hc a8) ?_))));intro v4;refine ze (Zp0 [] [I 0] underlying26 trivial ?_);intro v5;refine zv z ?_;intro w;refine DY ?_;refine jd 6 0 3 1 rfl rfl λe=>?_
  refine jd 6 1 3 1 rfl rfl λf=>?_
  repeat apply ze
  refine zg ?_;generalize r:(((d.map (xS x)).take k).flatMap Enc.enc:List PV)=pc at *;generalize b7:yN x (t.map (·.c))=wl at *;refine zn (zK (λs':Nat × Nat × Nat × Nat=>s'.1<=t.length) (λ(i,v5,e,f)=>[(2,.ptr nx v0 0),(5,.ptr (nx+2) l 0),(7,.ptr (nx+4) v4 0),(8,.ptr (nx+6) w 0),(9,I (yJ x t (i-1))),(10,I (yK x t (i-1))),(20,L d),(21,I d.length),(22,I k),(32,L t),(33,I t.length),(34,I i)])
   (λ(i,v5,e,f)=>[.cells v0 25 (zE x),.cells v1 39 [L d],.cells l 408 [I x.days,I x.veh,I x.cap,I x.len,L x.cust,L x.dist,L d,.sl (nx+3) v3 4 0 k],.cells v3 410 pc,.cells v4 42 [L t],.cells v5 3 (((List.range (i+1)).map λi=>ye (t.take i)).flatMap Enc.enc),
    .cells w 410 [.sl (nx+7) e 1 0 i,.sl (nx+8) f 1 0 i,.sl (nx+5) v5 1 0 (i+1),I wl],.cells e 3 (((List.range i).map (yJ x t)).flatMap Enc.enc),.cells f 3 (((List.range i).map (yK x t)).flatMap Enc.enc)]) (λs'=>t.length-s'.1) (0,v5,e,f) [] DP (by simp[yJ,yK]) (by simp[ye]) ?_)
  rintro⟨i,v5,e,f⟩ hi;simp only at hi ⊢;refine DY ?_;refine ze (zA rfl (λb=>?_) (λb=>?_))
  ·simp at b;obtain⟨s,ts,s1,s2,s3,-,s0⟩:=el 2 rfl t i b;have b8:2<=t.length*2-i*2:=DO
   obtain⟨u,d9,e1⟩:=h s (Ab s1);have a0:t.getD i default=s:=by rw[Aa,s1];rfl
   have wi:=zy i DO;have f1:=Zdi (yJ x t) i;have f2:=Zdi (yK x t) i;have f3:=Zdi (λi=>ye (t.take i)) (i+1);have a4:=Zp1 s3;have e2:=ZcY (t:=t.take i) (λa ha=>(h a (BA ha)).2);have e3:(t.take i).length<=1000:=by rw[Ax];omega
   have c6:IntKind.i64.wrap (ye (t.take i)+s.q)=ye (t.take (i+1)):=by rw[a4];exact wr _ DO DO
   have g1:(((List.range i).map (yJ x t)).flatMap Enc.enc:List PV).length=i:=by rw[jL];simp
   have g2:(((List.range i).map (yK x t)).flatMap Enc.enc:List PV).length=i:=by rw[jL];simp
   have g3:(((List.range (i+1)).map λi=>ye (t.take i)).flatMap Enc.enc:List PV).length=i+1:=by rw[jL];simp
   obtain⟨lz,e4,z1,-,-,z0⟩:=zN rfl ((List.range (i+1)).map λi=>ye (t.take i)) i DP;have m:lz=ye (t.take i):=by simpa using z1.symm
   have c1:(((List.range (i+1)).map (yJ x t)).flatMap Enc.enc:List PV)=((List.range i).map (yJ x t)).flatMap Enc.enc++[I (yJ x t i)]:=by rw[f1,Aq];rfl
   have c2:(((List.range (i+1)).map (yK x t)).flatMap Enc.enc:List PV)=((List.range i).map (yK x t)).flatMap Enc.enc++[I (yK x t i)]:=by rw[f2,Aq];rfl
   have c3:(((List.range (i+1+1)).map λi=>ye (t.take i)).flatMap Enc.enc:List PV)=((List.range (i+1)).map λi=>ye (t.take i)).flatMap Enc.enc++[I (ye (t.take (i+1)))]:=by rw[f3,Aq];rfl
   rw[m]at z0;clear f1 f2 f3 z1 m a4;generalize (((List.range i).map (yJ x t)).flatMap Enc.enc:List PV)=fc at *;generalize (((List.range i).map (yK x t)).flatMap Enc.enc:List PV)=bc at *;generalize (((List.range (i+1)).map λi=>ye (t.take i)).flatMap Enc.enc:List PV)=lc at *;have t1:fc.take i=fc:=Af DO;have t2:bc.take i=bc:=Af DO;have t3:lc.take (i+1)=lc:=Af DO;refine zk (ze (zn (ze (zi [] (zF s0 b b8) ?_))));intro v9;apply ze;refine qy (nx:=nx) (λ_:Unit=>True) (λ_=>[(2,.ptr nx v0 0),(5,.ptr (nx+2) l 0),(7,.ptr (nx+4) v4 0),(8,.ptr (nx+6) w 0),(9,I (yJ x t i)),(10,I (yK x t i)),(11,I i),(12,.ptr (nx+9) v9 0),(20,L d),(21,I d.length),(22,I k),(32,L t),(33,I t.length),(34,I i)]) (λ_=>S)
    (λ_=>[.cells v0 25 (zE x),.cells v1 39 [L d],.cells l 408 [I x.days,I x.veh,I x.cap,I x.len,L x.cust,L x.dist,L d,.sl (nx+3) v3 4 0 k],.cells v3 410 pc,.cells v4 42 [L t],.cells v5 3 lc,
    .cells w 410 [.sl (nx+7) e 1 0 i,.sl (nx+8) f 1 0 i,.sl (nx+5) v5 1 0 (i+1),I wl],.cells e 3 fc,.cells f 3 bc,.cells v9 100 [I s.c,I s.q]]) ?_ ?_
   ·by_cases h0:0<i
    ·obtain⟨j,rfl⟩:∃j,i=j+1:=⟨i-1,by omega⟩;obtain⟨p,tp,p1,-,-,-,p0⟩:=el 2 rfl t j DO;obtain⟨c7,-,-⟩:=h p (Ab p1);have a5:t.getD j default=p:=by rw[Aa,p1];rfl
     have c8:2<=t.length*2-j*2:=DO
     have d0:j<t.length:=DO
     have wj:IntKind.i64.wrap (j:Int)=(j:Int):=wr _ DO DO;have wp:=JH c7;have ws:=JH u;have d1:=vy x (p.c+1) (s.c+1);have d2:=vy x (s.c+1) (p.c+1);have g:yJ x t (j+1)=yJ x t j+arc x (p.c+1) (s.c+1):=by conv=>lhs;unfold yJ;rw[a0,a5]
     have d3:yK x t (j+1)=yK x t j+arc x (s.c+1) (p.c+1):=by conv=>lhs;unfold yK;rw[a0,a5]
     have b1:=XW hx t (j+1);have b2:=XX hx t (j+1);have wf:IntKind.i64.wrap (yJ x t j+arc x (p.c+1) (s.c+1))=yJ x t (j+1):=by rw[g]at b1 ⊢;exact wr _ DO DO
     have wb:IntKind.i64.wrap (yK x t j+arc x (s.c+1) (p.c+1))=yK x t (j+1):=by rw[d3]at b2 ⊢;exact wr _ DO DO
     simp only[B5];have d4:(0:Int)<((j+1:Nat):Int):=DO
     refine ze (zi [] (zq h0 d4) ?_);refine zo DP ?_;refine ze (zD (some [nx+4,nx+9]) (Row.pures [0,1,2,3,4,5,6,7,8,9,10,11,12] .done) mixed (zW wj p0 d0 c8 wp ws) ?_);refine DY ?_;refine yW [] d1 wf ?_;refine zg ?_;refine yW [] d2 wb ?_;exact zZ () [] trivial DP rfl DP
    ·obtain rfl:i=0:=DO
     refine DY ?_;exact zp rfl (zk (zZ () [] trivial DP rfl DP))
   ·rintro⟨⟩ -;apply ze;refine qy (nx:=nx) (λ_:Unit=>True) (λ_=>[(2,.ptr nx v0 0),(5,.ptr (nx+2) l 0),(7,.ptr (nx+4) v4 0),(8,.ptr (nx+6) w 0),(9,I (yJ x t i)),(10,I (yK x t i)),(11,I i),(12,.ptr (nx+9) v9 0),(20,L d),(21,I d.length),(22,I k),(32,L t),(33,I t.length),(34,I i)]) (λ_=>S)
     (λ_=>[.cells v0 25 (zE x),.cells v1 39 [L d],.cells l 408 [I x.days,I x.veh,I x.cap,I x.len,L x.cust,L x.dist,L d,.sl (nx+3) v3 4 0 k],.cells v3 410 pc,.cells v4 42 [L t],.cells v5 3 lc,
     .cells w 410 [.sl (nx+7) (e+1) 1 0 (i+1),.sl (nx+8) (f+1) 1 0 (i+1),.sl (nx+5) v5 1 0 (i+1),I wl],.cells (e+1) 3 (fc++[I (yJ x t i)]),.cells (f+1) 3 (bc++[I (yK x t i)]),.cells v9 100 [I s.c,I s.q]]) ?_ ?_
    ·repeat apply ze
     refine zD (some []) (Row.pures [0,2,3,5,7,8] (.alt 1 (.alt 4 (.alt 6 (Row.pures [10] (.alt 9 (.alt 11 (Row.pures [12] (.alt 13 (.done) .stop)) .stop) .stop)) .stop) (.alt 6 (.alt 4 (Row.pures [10] (.alt 9 (.alt 11 (Row.pures [12] (.alt 13 (.done) .stop)) .stop) .stop)) .stop) .stop)) (.alt 6 (.alt 1 (.alt 4 (Row.pures [10] (.alt 9 (.alt 11 (Row.pures [12] (.alt 13 (.done) .stop)) .stop) .stop)) .stop) .stop) .stop))) mixed (zS g1 g2 t1 t2) ?_
     repeat' (first | refine And.intro DO ?_ | apply And.intro)
     all_goals exact zZ () [] trivial DP rfl DP
    ·rintro⟨⟩ -;have z1:(i:Int)<(i:Int)+1:=DO
     have z2:i<i+1:=DO
     have z3:1<=i+1-i:=DO
     refine zD (some [nx+9]) (Row.pures [0,2,4,7,8] (.alt 1 (.alt 3 (Row.pures [5] (.alt 6 (Row.pures [9,10] (.alt 11 (Row.pures [12] (.alt 13 (.done) .stop)) .stop)) .stop)) .stop) (.alt 3 (Row.pures [5] (.alt 1 (.alt 6 (Row.pures [9,10] (.alt 11 (Row.pures [12] (.alt 13 (.done) .stop)) .stop)) .stop) (.alt 6 (Row.pures [9,10] (.alt 1 (.alt 11 (Row.pures [12] (.alt 13 (.done) .stop)) .stop) .stop)) .stop))) .stop))) mixed (zW z0 z1 z2 z3 c6 (zq g3 t3)) ?_
     repeat' (first | refine And.intro DO ?_ | apply And.intro)
     all_goals
      refine zi [] wi ?_;exact zu (i+1,v5+1,e+1,f+1) [_] b DT (by simp[wi]) rfl (by simp[c1,c2,c3];rfl)
  ·simp at b;obtain rfl:i=t.length:=DO
   refine zC ?_;clear hi b;have u:xS x t=⟨(List.range t.length).map (yJ x t),(List.range t.length).map (yK x t),(List.range (t.length+1)).map λi=>ye (t.take i),wl⟩:=by unfold xS;rw[b7]
   have g1:(((List.range t.length).map (yJ x t)).flatMap Enc.enc:List PV).length=t.length:=by rw[jL];simp
   have g2:(((List.range t.length).map (yK x t)).flatMap Enc.enc:List PV).length=t.length:=by rw[jL];simp
   have g3:(((List.range (t.length+1)).map λi=>ye (t.take i)).flatMap Enc.enc:List PV).length=t.length+1:=by rw[jL];simp
   have g:∀id v cs,pc.map (qO id v cs)=pc:=λid v cs=>by rw[<-r];exact Zp2 id v cs _
   have d5:pc.length=k*4:=by rw[<-r,Zho];simp;omega
   have d6:pc.take (k*4)=pc:=Af DO;have a6:(((d.map (xS x)).take (k+1)).flatMap Enc.enc:List PV)=pc++[L ((List.range t.length).map (yJ x t)),L ((List.range t.length).map (yK x t)),L ((List.range (t.length+1)).map λi=>ye (t.take i)),I wl]:=by
    rw[<-r,<-List.map_take,a3,List.map_append,Aq,<-List.map_take,AD,u];rfl
   have l1:((List.range t.length).map (yJ x t)).length=t.length:=DP
   have l2:((List.range t.length).map (yK x t)).length=t.length:=DP
   have l3:((List.range (t.length+1)).map λi=>ye (t.take i)).length=t.length+1:=DP
   generalize (List.range t.length).map (yJ x t)=fl at *;generalize (List.range t.length).map (yK x t)=bl at *;generalize ((List.range (t.length+1)).map λi=>ye (t.take i))=ll at *;clear g1 g2 g3;refine yh 8 rfl ?_;simp only[AD,Bp,AV,A7,wB,g];refine yh 7 rfl ?_;simp only[AD,Bp,AV,A7,wB,g];refine yh 5 rfl ?_;simp only[AD,Bp,AV,A7,wB,g];refine zD (some [nx+6]) (Row.pures [0,1,2,3,5,6] (.alt 4 (.alt 7 (Row.pures [8,9] (.alt 10 (.done) .stop)) .stop) .stop)) mixed (yr l1 l2 l3 d5 d6) ?_;refine⟨by omega,?_⟩;refine zg ?_;exact zu (k+1,v3+1) [_,_,_,_,_] hc DT (by simp[zy k (by omega)]) rfl (by simp[a6,l1,l2,l3];exact⟨rfl,rfl,rfl,rfl,rfl⟩)
 ·simp at hc;obtain rfl:k=d.length:=DO
  rw[Af DP];refine zC ?_;have a7:((d.map (xS x)).flatMap Enc.enc:List PV).length=d.length*4:=by rw[Zho];simp
  refine yh 3 rfl ?_;refine ze (zi [] a7 ?_);refine wL 2 rfl ?_;exact zj (zm hd DQ (by simp[zr,a7]))
open Go Go.Proofs
def wd(x:Inst):Int->List Int->Int
 | _,[]=>0
 | a,c :: l=>arc x a (c+1)+wd x (c+1) l
theorem Zdj(x:Inst):∀(l:List Int) (a:Int) (m:List Int),wd x a (l++m)=wd x a l+wd x (qr a l) m
 | [],a,m=>by simp[wd,qr]
 | c :: l,a,m=>by
  simp only[List.cons_append,wd,qr];rw[Zdj x l (c+1) m];omega
theorem Zdk:∀(l:List Int) (a:Int) (m:List Int),qr a (l++m)=qr (qr a l) m
 | [],a,m=>rfl
 | c :: l,a,m=>by simp only[List.cons_append,qr];exact Zdk l (c+1) m
theorem Zhp(x:Inst):∀(l:List Int) (a:Int),wV x a l=wd x a l+arc x (qr a l) 0
 | [],a=>by simp[wV,wd,qr]
 | c :: l,a=>by
  simp only[wV,wd,qr];rw[Zhp x l (c+1)];omega
def uH(t:zU)(f n:Nat):zU:=(t.drop f).take n
theorem W9{t:zU}{f n:Nat}{s:Stop}(h:t[f+n]?=some s):uH t f (n+1)=uH t f n++[s]:=by grind[uH,List.take_succ_eq_append_getElem]
theorem getD_some{t:zU}{i:Nat}{s:Stop}(h:t[i]?=some s):t.getD i default=s:=DX
theorem Zhq(x:Inst)(t:zU)(f:Nat)(a:Int):∀n,f+n<t.length->wd x a ((uH t f (n+1)).map (·.c))=arc x a ((t.getD f default).c+1)+(yJ x t (f+n)-yJ x t f)/\qr a ((uH t f (n+1)).map (·.c))=(t.getD (f+n) default).c+1
 | 0,h=>by
  have h0:t[f+0]?=some t[f]:=Ac DO;rw[W9 h0]
  grind[uH,wd,qr]
 | n+1,h=>by
  obtain⟨i1,i2⟩:=Zhq x t f a n DO;have h0:t[f+(n+1)]?=some t[f+(n+1)]:=Ac DO;rw[W9 h0,List.map_append,Zdj,Zdk,i1,i2,getD_some h0]
  grind[wd,qr,yJ]
theorem Zhr(x:Inst)(t:zU)(f:Nat):∀(n:Nat) (a:Int),f+n<t.length->wd x a ((uH t f (n+1)).reverse.map (·.c))=arc x a ((t.getD (f+n) default).c+1)+(yK x t (f+n)-yK x t f)/\qr a ((uH t f (n+1)).reverse.map (·.c))=(t.getD f default).c+1
 | 0,a,h=>by
  have h0:t[f+0]?=some t[f]:=Ac DO;rw[W9 h0]
  grind[uH,wd,qr]
 | n+1,a,h=>by
  have h0:t[f+(n+1)]?=some t[f+(n+1)]:=Ac DO;obtain⟨i1,i2⟩:=Zhr x t f n ((t.getD (f+(n+1)) default).c+1) DO;rw[W9 h0,List.reverse_append];simp only[Dr,List.reverse_nil,AQ,List.cons_append,AD,wd,qr]
  grind[yK]
theorem Zhs(t:zU)(f:Nat):∀n,f+n<=t.length->ye (uH t f n)=ye (t.take (f+n))-ye (t.take f)
 | 0,_=>by simp[uH,ye]
 | n+1,h=>by
  have h0:t[f+n]?=some t[f+n]:=Ac DO;have e:t.take (f+n+1)=t.take (f+n)++[t[f+n]]:=AR DO;rw[W9 h0,Zaz,Zhs t f n DO,<-Nat.add_assoc,e,Zaz];omega
def jQ(x:Inst)(d:zt)(st:Int × Int)(p:Pc):Int × Int :=
 if p.f<p.o then
  (bif p.b then (((d.getD p.t []).getD p.f default).c+1,st.2+(arc x st.1 (((d.getD p.t []).getD (p.o-1) default).c+1)+yK x (d.getD p.t []) (p.o-1)-yK x (d.getD p.t []) p.f))
  else (((d.getD p.t []).getD (p.o-1) default).c+1,st.2+(arc x st.1 (((d.getD p.t []).getD p.f default).c+1)+yJ x (d.getD p.t []) (p.o-1)-yJ x (d.getD p.t []) p.f)))
 else st
def wZ(x:Inst)(d:zt)(r:Rw5):Int:=(r.l.foldl (jQ x d) (0,0)).2+arc x (r.l.foldl (jQ x d) (0,0)).1 0
def vI(d:zt)(st:Int)(p:Pc):Int:=if p.f<p.o then st+(ye ((d.getD p.t []).take p.o)-ye ((d.getD p.t []).take p.f)) else st
def QZ(d:zt)(r:Rw5):Int:=r.l.foldl (vI d) 0
theorem Zp4{x:Inst}{d:zt}{p:Pc}(h:XU d p)(g:List Stop):jQ x d (qr 0 (g.map (·.c)),wd x 0 (g.map (·.c))) p=(qr 0 ((g++qT d p).map (·.c)),wd x 0 ((g++qT d p).map (·.c))):=by
 unfold jQ qT
 by_cases a:p.f<p.o
 ·obtain⟨i,ho⟩:=h a;unfold je at ho;rw[if_pos a,if_pos a];generalize d.getD p.t []=t at *;obtain⟨n,hn⟩:∃n,p.o=p.f+n+1:=⟨p.o-p.f-1,by omega⟩;have e:p.o-1=p.f+n:=DO
  have e2:p.o-p.f=n+1:=DO
  rw[e,e2,List.map_append,Zdj,Zdk];cases p.b with
  | true =>
   simp only[cond_true];obtain⟨i1,i2⟩:=Zhr x t p.f n (qr 0 (g.map (·.c))) DO;unfold uH at i1 i2;rw[i1,i2];congr 1;omega
  | false =>
   simp only[cond_false];obtain⟨i1,i2⟩:=Zhq x t p.f (qr 0 (g.map (·.c))) n DO;unfold uH at i1 i2;rw[i1,i2];congr 1;omega
 grind
theorem Zht{x:Inst}{d:zt}:∀(l:List Pc) (g:List Stop),(∀p∈l,XU d p)->l.foldl (jQ x d) (qr 0 (g.map (·.c)),wd x 0 (g.map (·.c)))=(qr 0 ((g++l.flatMap (qT d)).map (·.c)),wd x 0 ((g++l.flatMap (qT d)).map (·.c)))
 | [],g,_=>by simp
 | p :: l,g,h=>by
  rw[A5,Zp4 (h p DP),Zht l _ λq a=>h q (by simp[a]),Az,List.append_assoc]
theorem Zdl{x:Inst}{d:zt}{r:Rw5}(h:Zd d r)(h0:arc x 0 0=0):wZ x d r=yN x ((qt d r).map (·.c)):=by
 have:=Zht (x:=x) r.l [] h
 grind[qr,wd,wZ,qt,yN,Zhp]
theorem Zp5{d:zt}{p:Pc}(h:XU d p)(g:List Stop):vI d (ye g) p=ye (g++qT d p):=by
 unfold vI qT
 by_cases a:p.f<p.o
 ·obtain⟨e,ho⟩:=h a;unfold je at ho;rw[if_pos a,if_pos a,ZoM];generalize d.getD p.t []=t at *;have:=Zhs t p.f (p.o-p.f) DO;rw[show p.f+(p.o-p.f)=p.o by omega]at this;have c:∀l:zU,ye l.reverse=ye l:=λl=>by unfold ye;exact ZoL ((List.reverse_perm l).map _)
  unfold uH at this;cases p.b with
  | true=>simp only[cond_true];rw[c,this]
  | false=>simp only[cond_false];rw[this]
 grind
theorem Zp6{d:zt}{r:Rw5}(h:Zd d r):QZ d r=ye (qt d r):=by
 have key:∀(l:List Pc) (g:List Stop),(∀p∈l,XU d p)->l.foldl (vI d) (ye g)=ye (g++l.flatMap (qT d)):=by
  intro l
  induction l with
  | nil=>intro g _;simp
  | cons p l a =>
   intro g h;rw[A5,Zp5 (h p DP),a _ λq b=>h q (by simp[b]),Az,List.append_assoc]
 have:=key r.l [] h
 simp_all[QZ,qt,ye]
open Go Go.Proofs
abbrev XY(x:Inst)(d:zt)(sms:List Sm):List PV:=[I x.days,I x.veh,I x.cap,I x.len,L x.cust,L x.dist,L d,L sms]
theorem XZ{x:Inst}(h:qQ x)(a b:Int):0<=arc x a b/\arc x a b<=2147483648:=h a b
theorem ZaS{x:Inst}{d:zt}{a:List Sm}(hs:a=d.map (xS x)){k:Nat}(h:k<d.length):∃(t:zU) (c g:List PV),d[k]?=some t/\d.getD k []=t/\(d.flatMap Enc.enc:List PV).drop k=L t :: c /\
  (a.flatMap Enc.enc:List PV).drop (k*4)=[L (xS x t).f,L (xS x t).b,L (xS x t).l,I (xS x t).n]++g:=by
 obtain⟨t,c,e,-,-,i⟩:=zN rfl d k h;rw[hs];obtain⟨s,j,b1,-,-,-,m⟩:=el 4 rfl (d.map (xS x)) k (by simpa using h);have:s=xS x t:=by rw[Aj,e]at b1;exact(Option.some.inj b1).symm
 subst this;exact⟨t,c,j,e,by rw[Aa,e];rfl,i,m⟩
theorem X0{α:Type}[Enc α](n:Nat)(hn:Enc.sz α=1)(f:Nat->α){i:Nat}(h:i<n):∃tl,(((List.range n).map f).flatMap Enc.enc:List PV).drop i=Enc.enc (f i)++tl:=by
 obtain⟨s,a,b1,-,-,b⟩:=zN hn ((List.range n).map f) i (by simpa using h);have:s=f i:=by rw[Aj,Bl h]at b1;exact(Option.some.inj b1).symm
 subst this;exact⟨a,b⟩
theorem Zdm(x:Inst)(d:zt)(r:Rw5)(hx:qQ x)(z:MvDay d)(hr:Zd d r):Pure prog 342 [.ip (Ze x d),.agg (yG r)] (I (wZ x d r)):=by
 obtain⟨j,m⟩:∃j,j=d.map (xS x):=⟨_,rfl⟩;have a6:j.length=d.length:=by rw[m];simp
 rw[show Ze x d=XY x d j from by rw[m]];have e9:=z.n;have d7:=λk (h:k<5)=>ZaR r h
 have hz:wZ x d r=((r.l.take 5).foldl (jQ x d) (0,0)).2+arc x ((r.l.take 5).foldl (jQ x d) (0,0)).1 0:=by unfold wZ;rw[Af (by simp[Rw5.l])]
 rw[hz];clear hz;have a7:(yG r).length=20:=rfl;have d8:(yG r).take 20=yG r:=rfl;generalize f1:yG r=rc at *;refine zx func342 ntmps342 results342 λS nx hd=>?_
 refine DY ?_;intro v0;refine DY ?_
 repeat apply ze
 refine zi [] (zq a7 d8) ?_;refine zn (zK (λk:Nat=>k<=5/\-(8796093022208*(k:Int))<=((r.l.take k).foldl (jQ x d) (0,0)).2/\((r.l.take k).foldl (jQ x d) (0,0)).2<=8796093022208*k) (λk=>[(0,.ip (XY x d j)),(3,.ptr nx v0 0),(5,I ((r.l.take k).foldl (jQ x d) (0,0)).1),(6,I ((r.l.take k).foldl (jQ x d) (0,0)).2),(13,.agg rc),(14,I k)]) (λ_=>[.cells v0 371 rc]) (λk=>5-k) 0 [] DP DP DP ?_);rintro k ⟨hk,a8,a9⟩
 by_cases b7:k<5
 ·obtain⟨p,d9,e1,e2⟩:=d7 k b7;have v:(k:Int)<5:=DO
  have e3:4<=20-k*4:=DO
  have e4:=hr p (Ab d9);have e:(r.l.take (k+1)).foldl (jQ x d) (0,0)=jQ x d ((r.l.take k).foldl (jQ x d) (0,0)) p:=by rw[e2,Bx];rfl
  generalize (r.l.take k).foldl (jQ x d) (0,0)=st at *;obtain⟨a,all⟩:=st;simp only at a8 a9 ⊢;have wk:=zy k DO;refine ze (zi [] v ?_);refine ze (zo rfl (zk (ze (zn (ze (zi [] (yr e1 b7 v a7 e3) ?_))))));intro v3
  by_cases a0:p.f<p.o
  case neg =>
   have e5:jQ x d (a,all) p=(a,all):=by unfold jQ;rw[if_neg a0]
   rw[e5]at e;have g:p.o<=p.f:=DO
   repeat apply ze
   refine zi [] g ?_;refine zo (by simp[g]) ?_;refine zC (zg ?_);exact zu (k+1) [_] ⟨by omega,by rw[e];simp only;omega,by rw[e];simp only;omega⟩ DO (by simp[wk,e]) rfl DQ
  obtain⟨ht,ho⟩:=e4 a0;obtain⟨t,td,tf,a1,b8,e0,f0⟩:=ZaS m ht;unfold je at ho;rw[b8]at ho;have c6:=Ab a1;have f2:=z.t t c6;have c7:=z.s t c6;have e6:1<=d.length-p.t:=DO
  have c8:4<=d.length*4-p.t*4:=DO
  obtain⟨n,hn⟩:∃n,p.o=n+1:=⟨p.o-1,by omega⟩;have g:¬p.o<=p.f:=DO
  have d0:jQ x d (a,all) p=bif p.b then ((t.getD p.f default).c+1,all+(arc x a ((t.getD n default).c+1)+yK x t n-yK x t p.f)) else ((t.getD n default).c+1,all+(arc x a ((t.getD p.f default).c+1)+yJ x t n-yJ x t p.f)):=by
   unfold jQ;rw[if_pos a0,b8,show p.o-1=n by omega]
  rw[d0]at e;clear d0;obtain⟨q,f3,s1,-,-,-,s0⟩:=el 2 rfl t p.f DO;obtain⟨sl,f4,l1,-,-,-,l0⟩:=el 2 rfl t n DO;have e7:t.getD p.f default=q:=getD_some s1;have e8:t.getD n default=sl:=getD_some l1;rw[e7,e8]at e;have q1:p.f<t.length:=DO
  have q2:n<t.length:=DO
  have q3:2<=t.length*2-p.f*2:=DO
  have q4:2<=t.length*2-n*2:=DO
  have wo:IntKind.i64.wrap ((p.o:Int)-1)=(n:Int):=by rw[wr _ DO DO];omega
  have a2:=JH (c7 q (Ab s1)).1;have a3:=JH (c7 sl (Ab l1)).1;have f5:=XW hx t p.f;have f6:=XW hx t n;have f7:=XX hx t p.f;have f8:=XX hx t n;have d1:((List.range t.length).map (yJ x t)).length=t.length/\((List.range t.length).map (yK x t)).length=t.length:=DP
  obtain⟨z1,d2⟩:=X0 t.length rfl (yJ x t) q1;obtain⟨z2,d3⟩:=X0 t.length rfl (yJ x t) q2;obtain⟨z3,d4⟩:=X0 t.length rfl (yK x t) q1;obtain⟨z4,d5⟩:=X0 t.length rfl (yK x t) q2;have q5:1<=t.length-p.f:=DO
  have q6:1<=t.length-n:=DO
  simp only[xS]at f0;generalize f9:(List.range t.length).map (yJ x t)=fl at *;generalize g0:(List.range t.length).map (yK x t)=bl at *;generalize ((List.range (t.length+1)).map λi=>ye (t.take i))=ll at *;generalize yN x (t.map (·.c))=wl at *;obtain⟨a4,a5⟩:=d1;have w:(fl.flatMap Enc.enc:List PV).length=t.length:=by rw[jL,a4]
  have y:(bl.flatMap Enc.enc:List PV).length=t.length:=by rw[jL,a5]
  repeat apply ze
  refine zi [] g ?_;refine zp (by simp[g]) ?_;refine zk (ze (zD (some [nx+1]) (Row.pures [0,1,2,3,4,5,6,7,8,9,10,11,12,13,14,15,16,17,18,19,20] .done) mixed (zW e0 f0 ht e6 c8 a6) ?_));refine ze (zD (some [nx+1]) (Row.pures [0,1,2,3,4,5,6] .done) mixed wo ?_);apply ze;cases u:p.b with
  | false =>
   rw[u]at e;simp only[cond_false]at e;have d6:=XZ hx a (q.c+1);have ar:=vy x a (q.c+1);have w1:IntKind.i64.wrap (arc x a (q.c+1)+yJ x t n)=arc x a (q.c+1)+yJ x t n:=wr _ DO DO;have w2:IntKind.i64.wrap (arc x a (q.c+1)+yJ x t n-yJ x t p.f)=arc x a (q.c+1)+yJ x t n-yJ x t p.f:=wr _ DO DO;have w3:IntKind.i64.wrap (all+(arc x a (q.c+1)+yJ x t n-yJ x t p.f))=all+(arc x a (q.c+1)+yJ x t n-yJ x t p.f):=wr _ DO DO;refine ze (zi [] u ?_);refine zp rfl (zk (ze (zD (some [nx+1]) (Row.pures [0,1,2,3,4,5,6,7,8,9,10,11,12,13,14,15,16,17,18,19,20,21,22,23,24,25,26,27] .done) mixed (zW s0 q1 q3 a2 wo (zq (zW d2 d3 w a4 q2 q5) (zS q6 w1 w2 w3))) ?_)));refine zO (ar) (zW s0 q1 q3 a2 wo (zq (zW d2 d3 w a4 q2 q5) (zS q6 w1 w2 w3))) ?_;refine zi [] (zS l0 q2 q4 a3) ?_;refine zg ?_;exact zu (k+1) [_] ⟨by omega,by rw[e];simp only;omega,by rw[e];simp only;omega⟩ DO (by simp[wk,e]) rfl DQ
  | true =>
   rw[u]at e;simp only[cond_true]at e;have d6:=XZ hx a (sl.c+1);have ar:=vy x a (sl.c+1);have w1:IntKind.i64.wrap (arc x a (sl.c+1)+yK x t n)=arc x a (sl.c+1)+yK x t n:=wr _ DO DO;have w2:IntKind.i64.wrap (arc x a (sl.c+1)+yK x t n-yK x t p.f)=arc x a (sl.c+1)+yK x t n-yK x t p.f:=wr _ DO DO;have w3:IntKind.i64.wrap (all+(arc x a (sl.c+1)+yK x t n-yK x t p.f))=all+(arc x a (sl.c+1)+yK x t n-yK x t p.f):=wr _ DO DO;refine ze (zi [] u ?_);refine zo rfl (zD (some [nx+1]) (Row.pures [0,1,2,3,4,5,6,7,8,9,10,11,12,13] .done) mixed (zS f0 ht c8 a6) ?_);refine ze (zD (some [nx+1]) (Row.pures [0,1,2,3,4,5,6,7,8,9,10,11,12,13,14,15,16,17,18,19,20,21,22,23,24,25,26,27] .done) mixed (zW l0 q2 q4 a3 wo (zq (zW d4 d5 y a5 q1 q5) (zS q6 w1 w2 w3))) ?_);refine zO (ar) (zW l0 q2 q4 a3 wo (zq (zW d4 d5 y a5 q1 q5) (zS q6 w1 w2 w3))) ?_;refine zi [] (zS s0 q1 q3 a2) ?_;refine zg ?_;exact zu (k+1) [_] ⟨by omega,by rw[e];simp only;omega,by rw[e];simp only;omega⟩ DO (by simp[wk,e]) rfl DQ
 ·obtain rfl:k=5:=DO
  generalize (r.l.take 5).foldl (jQ x d) (0,0)=st at *;obtain⟨a,all⟩:=st;simp only at a8 a9 ⊢;have d6:=XZ hx a 0;have ar:=vy x a 0;have w1:IntKind.i64.wrap (all+arc x a 0)=all+arc x a 0:=wr _ DO DO;refine DY ?_;refine ze (zp rfl (zC (DY ?_)));refine yW [] ar w1 ?_;exact zj (zm hd rfl rfl)
open Go Go.Proofs
theorem Zp7(x:Inst)(d:zt)(r:Rw5)(q:MvDay d)(hr:Zd d r):Pure prog 343 [.ip (Ze x d),.agg (yG r)] (I (QZ d r)):=by
 obtain⟨g,j⟩:∃g,g=d.map (xS x):=⟨_,rfl⟩;have a2:g.length=d.length:=by rw[j];simp
 rw[show Ze x d=XY x d g from by rw[j]];have d1:=q.n;have a3:=λk (h:k<5)=>ZaR r h
 have hz:QZ d r=(r.l.take 5).foldl (vI d) 0:=by unfold QZ;rw[Af (by simp[Rw5.l])]
 rw[hz];clear hz;have u:(yG r).length=20:=rfl;have a4:(yG r).take 20=yG r:=rfl;generalize d2:yG r=rc at *;refine zx func343 ntmps343 results343 λS nx hd=>?_
 refine DY ?_;intro v0;refine DY ?_
 repeat apply ze
 refine zi [] (zq u a4) ?_;refine zn (zK (λk:Nat=>k<=5/\-(8796093022208*(k:Int))<=(r.l.take k).foldl (vI d) 0/\(r.l.take k).foldl (vI d) 0<=8796093022208*k) (λk=>[(0,.ip (XY x d g)),(3,.ptr nx v0 0),(5,I ((r.l.take k).foldl (vI d) 0)),(8,.agg rc),(9,I k)]) (λ_=>[.cells v0 371 rc]) (λk=>5-k) 0 [] DP DP DP ?_);rintro k ⟨hk,d3,d4⟩
 by_cases v:k<5
 ·obtain⟨p,a5,a6,a7⟩:=a3 k v;have m:(k:Int)<5:=DO
  have a8:4<=20-k*4:=DO
  have a9:=hr p (Ab a5);have b:(r.l.take (k+1)).foldl (vI d) 0=vI d ((r.l.take k).foldl (vI d) 0) p:=by rw[a7,Bx];rfl
  generalize (r.l.take k).foldl (vI d) 0=all at *;have wk:=zy k DO;refine ze (zi [] m ?_);refine ze (zo rfl (zk (ze (zn (ze (zi [] (yr a6 v m u a8) ?_))))));intro v3
  by_cases e:p.f<p.o
  case neg =>
   have b7:vI d all p=all:=by unfold vI;rw[if_neg e]
   rw[b7]at b;refine ze (zi [] e ?_);refine zp (by simp[e]) ?_;refine zk (zg ?_);exact zu (k+1) [_] ⟨by omega,by rw[b];omega,by rw[b];omega⟩ DO (by simp[wk,b]) rfl DQ
  obtain⟨ht,ho⟩:=a9 e;obtain⟨t,td,tf,a1,w,e0,f0⟩:=ZaS j ht;unfold je at ho;rw[w]at ho;have y:=Ab a1;have d5:=q.t t y;have z:=q.s t y;have b8:4<=d.length*4-p.t*4:=DO
  have c6:vI d all p=all+(ye (t.take p.o)-ye (t.take p.f)):=by unfold vI;rw[if_pos e,w]
  rw[c6]at b;have b1:=ZcY (t:=t.take p.o) (λa ha=>(z a (BA ha)).2);have b2:=ZcY (t:=t.take p.f) (λa ha=>(z a (BA ha)).2);have b3:(t.take p.o).length<=1000:=by rw[Ax];omega
  have b4:(t.take p.f).length<=1000:=by rw[Ax];omega
  have w1:IntKind.i64.wrap (ye (t.take p.o)-ye (t.take p.f))=ye (t.take p.o)-ye (t.take p.f):=wr _ DO DO;have w2:IntKind.i64.wrap (all+(ye (t.take p.o)-ye (t.take p.f)))=all+(ye (t.take p.o)-ye (t.take p.f)):=wr _ DO DO;obtain⟨z1,c7⟩:=X0 (t.length+1) rfl (λi=>ye (t.take i)) (show p.o<t.length+1 by omega);obtain⟨z2,c8⟩:=X0 (t.length+1) rfl (λi=>ye (t.take i)) (show p.f<t.length+1 by omega);have a0:((List.range (t.length+1)).map λi=>ye (t.take i)).length=t.length+1:=DP
  simp only[xS]at f0;generalize (List.range t.length).map (yJ x t)=fl at *;generalize (List.range t.length).map (yK x t)=bl at *;generalize ((List.range (t.length+1)).map λi=>ye (t.take i))=ll at *;generalize yN x (t.map (·.c))=wl at *;generalize ye (t.take p.o)=lo at *;generalize ye (t.take p.f)=lf at *;have d0:(ll.flatMap Enc.enc:List PV).length=t.length+1:=by rw[jL,a0]
  have q1:p.o<t.length+1:=DO
  have q2:p.f<t.length+1:=DO
  have q3:1<=t.length+1-p.o:=DO
  have q4:1<=t.length+1-p.f:=DO
  have q5:(p.o:Int)<(t.length:Int)+1:=DO
  have q6:(p.f:Int)<(t.length:Int)+1:=DO
  refine ze (zi [] e ?_);refine zo (by simp[e]) ?_;refine zD (some [nx+1]) (Row.pures [0,1,2,3,4,5,6,7,8,9,10,11,12,13,14,15,16,17,18,19,20,21,22,23,24,25,26,27,28,29] .done) mixed (zW f0 ht b8 a2 c7 (zq (zW c8 a0 d0 q1 q2 q3) (yr q4 q5 q6 w1 w2))) ?_;refine zg ?_;exact zu (k+1) [_] ⟨by omega,by rw[b];omega,by rw[b];omega⟩ DO (by simp[wk,b]) rfl DQ
 ·obtain rfl:k=5:=DO
  refine DY ?_;refine ze (zp rfl (zC (DY ?_)));exact zj (zm hd rfl rfl)
def Va(x:Inst)(d:zt)(m:Mv)(r1 r2:Rw5):Int:=wZ x d r1-yN x ((d.getD m.a []).map (·.c))+(if m.a=m.b then 0 else wZ x d r2-yN x ((d.getD m.b []).map (·.c)))
theorem Zhu{x:Inst}(hx:qQ x){d:zt}(e:MvDay d){r:Rw5}(n:Zd d r):-52776558133248<=wZ x d r/\wZ x d r<=52776558133248:=by
 have key:∀k:Nat,k<=5->-(8796093022208*(k:Int))<=((r.l.take k).foldl (jQ x d) (0,0)).2/\((r.l.take k).foldl (jQ x d) (0,0)).2<=8796093022208*k:=by
  intro k
  induction k with
  | zero=>intro _;simp
  | succ k q =>
   intro w;obtain⟨h1,h2⟩:=q DO;obtain⟨p,g,-,h⟩:=ZaR r (show k<5 by omega);have j:=n p (Ab g);rw[h,Bx,A5,List.foldl_nil];generalize (r.l.take k).foldl (jQ x d) (0,0)=st at *;unfold jQ
   by_cases a:p.f<p.o
   ·obtain⟨s,ho⟩:=j a;have m:d.getD p.t []∈d:=Ab (i:=p.t) (by rw[Aa,Ac s];rfl);have u:=e.t _ m;unfold je at ho;generalize d.getD p.t []=t at *;have b1:=XW hx t p.f;have b2:=XW hx t (p.o-1);have b3:=XX hx t p.f;have b4:=XX hx t (p.o-1);rw[if_pos a];cases p.b with
    | true =>
     have:=XZ hx st.1 ((t.getD (p.o-1) default).c+1);simp only[cond_true];omega
    | false =>
     have:=XZ hx st.1 ((t.getD p.f default).c+1);simp only[cond_false];omega
   ·rw[if_neg a];omega
 have v:=key 5 DO;rw[Af (by simp[Rw5.l])]at v;have:=XZ hx (r.l.foldl (jQ x d) (0,0)).1 0;unfold wZ;omega
theorem Zp8(x:Inst)(d:zt)(m:Mv)(r1 r2:Rw5)(hx:qQ x)(f:MvDay d)(k:Zd d r1)(l:Zd d r2)(y:m.a<d.length)(hb:m.b<d.length):Pure prog 327 [.ip (Ze x d),.agg (ZA m),.agg (yG r1),.agg (yG r2)] (I (Va x d m r1 r2)):=by
 have l1:=Zdm x d r1 hx f k;have l2:=Zdm x d r2 hx f l;have b1:=Zhu hx f k;have b2:=Zhu hx f l;obtain⟨h,g⟩:∃h,h=d.map (xS x):=⟨_,rfl⟩;have i:h.length=d.length:=by rw[g];simp
 rw[show Ze x d=XY x d h from by rw[g]]at l1 l2 ⊢;have a4:=f.n;obtain⟨ta,a5,a6,a1,z,-,fa⟩:=ZaS g y;obtain⟨w,a7,a8,c1,a0,-,fb⟩:=ZaS g hb;have wa:=XN hx (ta.map (·.c));have wb:=XN hx (w.map (·.c));rw[List.length_map]at wa wb;have a9:=f.t ta (Ab a1);have b7:=f.t w (Ab c1);have j:Va x d m r1 r2=wZ x d r1-yN x (ta.map (·.c))+(if m.a=m.b then 0 else wZ x d r2-yN x (w.map (·.c))):=by unfold Va;rw[z,a0]
 rw[j];clear j;simp only[xS]at fa fb;generalize wZ x d r1=k1 at *;generalize wZ x d r2=k2 at *;generalize yN x (ta.map (·.c))=wl at *;generalize yN x (w.map (·.c))=wm at *;have o:4<=d.length*4-m.a*4:=DO
 have p:4<=d.length*4-m.b*4:=DO
 have w1:IntKind.i64.wrap (k1-wl)=k1-wl:=wr _ DO DO;have w2:IntKind.i64.wrap (k2-wm)=k2-wm:=wr _ DO DO;have w3:IntKind.i64.wrap (k1-wl+(k2-wm))=k1-wl+(k2-wm):=wr _ DO DO;have q:(yG r1).length=20:=rfl;have r:(yG r1).take 20=yG r1:=rfl;have s:(yG r2).length=20:=rfl;have u:(yG r2).take 20=yG r2:=rfl;generalize a2:yG r1=rc1 at *;generalize a3:yG r2=rc2 at *;refine zx func327 ntmps327 results327 λS nx hd=>?_
 refine DY ?_;intro v0 v1 v2;refine ze (zD (some [nx,nx+1]) (Row.pures [0,1,2,3,4,5,6,7,8,9,10,11,12,13] .done) mixed (zW q r fa y o (zq i w1)) ?_);refine zO (l1) (zW q r fa y o (zq i w1)) ?_
 by_cases v:m.a=m.b
 ·have e:(m.a:Int)=m.b:=DO
  rw[if_pos v]
  repeat apply ze
  refine zi [] e ?_;refine zp (by simp[e]) ?_;refine zk (DY ?_);exact zj (zm hd rfl (by simp[zr]))
 ·have e:¬(m.a:Int)=m.b:=DO
  rw[if_neg v]
  repeat apply ze
  refine zi [] e ?_;refine zo (by simp[e]) ?_;refine zD (some [nx,nx+2]) (Row.pures [0,1,2,3,4,5,6,7,8,9,10,11,12,13,14,15] .done) mixed (zW s u fb hb p (zF i w2 w3)) ?_;refine zO (l2) (zW s u fb hb p (zF i w2 w3)) ?_;refine DY ?_;exact zj (zm hd rfl (by simp[zr]))
theorem Zhv(x:Inst)(d:zt)(r:Rw5)(hx:qQ x)(e:MvDay d)(h:Zd d r):Pure prog 328 [.ip (Ze x d),.agg (yG r)] (B (decide (QZ d r<=x.cap/\wZ x d r<=x.len))):=by
 have i:=Zdm x d r hx e h;have g:=Zp7 x d r e h;obtain⟨c,f⟩:∃c,c=d.map (xS x):=⟨_,rfl⟩;rw[show Ze x d=XY x d c from by rw[f]]at i g ⊢;generalize wZ x d r=k1 at *;generalize QZ d r=k2 at *;have a:(yG r).length=20:=rfl;have b:(yG r).take 20=yG r:=rfl;generalize j:yG r=rc at *;refine zx func328 ntmps328 results328 λS nx k=>?_
 refine DY ?_;intro v0
 by_cases h1:k2<=x.cap
 ·refine ze (zD (some [nx]) (Row.pures [0,1,2,3,4,5,6,7,8,9,10,11,12,13,14,15,16,17,18,19,20] .done) mixed (zF a b h1) ?_);refine zO (g) (zF a b h1) ?_;refine zO (i) (zF a b h1) ?_;exact zj (zm k rfl (by simp[zr,h1]))
 ·refine ze (zD (some [nx]) (Row.pures [0,1,2,3,4,5,6,7,8,9,10,11,12,13,14,15,16,17,18,19,20] .done) mixed (zS a b h1 zB) ?_);refine zO (g) (zS a b h1 zB) ?_;exact zj (zm k rfl (by simp[zr,h1]))
open Go Go.Proofs
theorem ZaT{α:Type}{W:Nat->List α}{n k i:Nat}{x:α}(a:k<n)(h:(W k)[i]?=some x):((List.range n).flatMap W)[((List.range k).flatMap W).length+i]?=some x:=by
 obtain⟨m,rfl⟩:∃m,n=k+(m+1):=⟨n-k-1,by omega⟩;have hi:=(Ad.1 h).1;rw[Dj,Aq,Ak (C8 _ _),AI,CM];simp only[AD,Az,By];rw[As hi];exact h
theorem ZaU{α:Type}(W:Nat->List α)(k:Nat):((List.range (k+1)).flatMap W).length=((List.range k).flatMap W).length+(W k).length:=by
 rw[AO,Aq,Am];simp
def Qe(d:zt)(k a b i j:Nat):Option Mv:=if wN d ⟨k,a,b,i,j⟩=true then some ⟨k,a,b,i,j⟩ else none
def Z0(d:zt)(k a b i:Nat):List Mv:=(List.range (je d b+1)).filterMap (Qe d k a b i)
def YB(d:zt)(k a b:Nat):List Mv:=(List.range (je d a+1)).flatMap (Z0 d k a b)
def Q0(d:zt)(k a:Nat):List Mv:=(List.range d.length).flatMap (YB d k a)
def YC(d:zt)(k:Nat):List Mv:=(List.range d.length).flatMap (Q0 d k)
def Qf(d:zt):List Mv:=(List.range 4).flatMap (YC d)
abbrev JV(m:Mv):List PV:=[.agg (ZA m)]
theorem Zp9(d:zt)(k a b:Nat)(x:d.length<=1048576)(l:∀t∈d,t.length<=1000)(hk:k<=3)(z:a<d.length)(hb:b<d.length):
  ZaI prog 341 (λy=>[.agg [L d],.agg [I k,I a,I b,I 0,I 0],xC y]) ((YB d k a b).map JV) (B true):=by
 refine Zgz func341 DU rfl ntmps341 (congrArg Array.toList results341) DP λy V keep nx J a2 hY A0 a3=>?_
 obtain⟨ta,xa,a1,-,-,a0⟩:=zN rfl d a z;obtain⟨g,xb,b1,-,-,b0⟩:=zN rfl d b hb;have a4:1<=d.length-a:=DO
 have a5:1<=d.length-b:=DO
 have la:je d a=ta.length:=by unfold je;rw[Aa,a1];rfl
 have lb:je d b=g.length:=by unfold je;rw[Aa,b1];rfl
 have a8:=l ta (Ab a1);have a9:=l g (Ab b1);have r:∀t∈d,t.length<=1048576:=λt ht=>AF (l t ht) DV
 have m:=λi j (hi:i<=1048576) (hj:j<=1048576)=>Zdd d ⟨k,a,b,i,j⟩ x r hk z hb hi hj
 have s:YB d k a b=(List.range (ta.length+1)).flatMap (Z0 d k a b):=by unfold YB;rw[la]
 have h:∀i,Z0 d k a b i=(List.range (g.length+1)).filterMap (Qe d k a b i):=λi=>by unfold Z0;rw[lb]
 rw[s]at hY ⊢;clear s la lb;refine DY ?_;intro v0 v1
 repeat apply ze
 refine zg ?_;refine zn (jX (σ:=Nat × Int × Store) (λs'=>s'.1<=ta.length+1/\J ((List.range s'.1).flatMap (Z0 d k a b)).length s'.2.2) (λs'=>[(2,xC y),(3,.ptr nx v0 0),(4,.ptr (nx+1) v1 0)]) (λs'=>s'.2.2)
  (λ(i,jv,_)=>[.cells v0 39 [L d],.cells v1 339 [I k,I a,I b,I i,I jv]]) (λs'=>ta.length+1-s'.1) (zZ (0,0,A0) [] (by simpa using a3) DP rfl DP) ?_)
 rintro⟨i,jv,A⟩ ⟨hi,c⟩;simp only at hi c ⊢
 repeat apply ze
 refine zD (some [nx,nx+1]) (Row.pures [0,1,2,3,4,5,6,7,8,9,10] .done) mixed (zF a0 z a4) ?_;refine zA rfl (λhc=>?_) (λhc=>?_)
 ·simp at hc;have a6:=ZaU (Z0 d k a b) i;refine zk (ze (zn (DY ?_)));refine zn (jX (σ:=Nat × Store) (λs'=>s'.1<=g.length+1/\J (((List.range i).flatMap (Z0 d k a b)).length+((List.range s'.1).filterMap (Qe d k a b i)).length) s'.2) (λs'=>[(2,xC y),(3,.ptr nx v0 0),(4,.ptr (nx+1) v1 0)]) (λs'=>s'.2)
   (λ(j,_)=>[.cells v0 39 [L d],.cells v1 339 [I k,I a,I b,I i,I j]]) (λs'=>g.length+1-s'.1) (zZ (0,A) [] (by simpa using c) DP rfl DP) ?_)
  clear c A jv;rintro⟨j,A⟩ ⟨hj,c⟩;simp only at hj c ⊢
  repeat apply ze
  refine zD (some [nx,nx+1]) (Row.pures [0,1,2,3,4,5,6,7,8,9,10] .done) mixed (zF b0 hb a5) ?_;refine zA rfl (λo=>?_) (λo=>?_)
  ·simp at o;have e:=m i j DO DO;have wj:=zy j DO;refine zk (ze (zn ?_));cases hm:wN d ⟨k,a,b,i,j⟩ with
   | true =>
    have f:Qe d k a b i j=some ⟨k,a,b,i,j⟩:=by unfold Qe;rw[if_pos hm]
    have p:Yz d ⟨k,a,b,i,j⟩=((yA d ⟨k,a,b,i,j⟩).1,(yA d ⟨k,a,b,i,j⟩).2,true):=by unfold Yz;rw[if_pos hm]
    rw[p]at e;have u:=ZgB (n:=g.length+1) DO f;rw[<-h]at u;have v:=ZaT (W:=Z0 d k a b) (n:=ta.length+1) DO u;have hy:(((List.range (ta.length+1)).flatMap (Z0 d k a b)).map JV)[((List.range i).flatMap (Z0 d k a b)).length+((List.range j).filterMap (Qe d k a b i)).length]?=some (JV ⟨k,a,b,i,j⟩):=by
     rw[Aj,v];rfl
    have q:=ZgD f;generalize (yA d ⟨k,a,b,i,j⟩).1=r1 at *;generalize (yA d ⟨k,a,b,i,j⟩).2=r2 at *;refine DY ?_;refine zv e ?_;intro v2 v3;refine ze (zi [(1,50)] trivial ?_);refine λw=>XA rfl rfl rfl (hY _ _ _ _ hy c) ?_
    rintro _ ⟨A',a7,rfl⟩;refine⟨_,_,rfl,xl [(1,50)] trivial w ?_⟩;refine zp rfl (zk (zg ?_));exact zu (j+1,A') [_,_] ⟨by simp;omega,by rw[q];exact a7⟩ DT DP rfl (by simp[wj];exact⟨rfl,rfl⟩)
   | false =>
    have f:Qe d k a b i j=none:=by unfold Qe;rw[if_neg (by simp[hm])]
    have p:Yz d ⟨k,a,b,i,j⟩=(x8,x8,false):=by unfold Yz;rw[if_neg (by simp[hm])]
    rw[p]at e;have q:=ZgC f;generalize x8=r0 at *;refine DY ?_;refine zv e ?_;intro v2 v3;refine ze (zi [(1,50)] zB ?_);refine zp rfl (zk (zg ?_));exact zu (j+1,A) [_,_] ⟨by simp;omega,by rw[q];exact c⟩ DT DP rfl (by simp[wj];exact⟨rfl,rfl⟩)
  ·simp at o;obtain rfl:j=g.length+1:=DO
   rw[<-h,<-a6]at c;refine zC ?_;have wi:=zy i DO;refine zg ?_;exact zu (i+1,((g.length+1:Nat):Int),A) [] ⟨by simp;omega,c⟩ DT DP rfl (by simp[wi])
 ·simp at hc;obtain rfl:i=ta.length+1:=DO
  refine zC (DY ?_);exact zj (ZaJ (a2 _ _ c) DQ (by simp[zr]) (by simpa using c))
theorem Zqa(d:zt):Pure prog 325 [.agg [L d]] (.fn (.func 339) [] [.ip [L d]]):=by
 refine zx func325 ntmps325 results325 λS nx a=>?_
 refine DY ?_;intro v0;refine DY ?_;refine wL 0 rfl ?_;exact DZ a
theorem Zqb(d:zt)(a3:d.length<=1000)(r:∀t∈d,t.length<=1000):QL prog 339 [.ip [L d]] ((Qf d).map JV):=by
 have s:=λk a b (u:k<=3) (v:a<d.length) (hb:b<d.length)=>Zp9 d k a b DO r u v hb
 have c:=Zhd;generalize ZaP=kl at c;refine WM func339 DU rfl ntmps339 (congrArg Array.toList results339) DP λl V keep nx J w hY A0 y=>?_
 refine DY ?_;refine zv c ?_;refine zn (jX (σ:=Nat × Store) (λs'=>s'.1<=4/\J ((List.range s'.1).flatMap (YC d)).length s'.2) (λs'=>[(0,xC l),(1,.ip [L d]),(7,I s'.1)]) (λs'=>s'.2) (λ_=>[]) (λs'=>4-s'.1) (zZ (0,A0) [] (by simpa using y) DP rfl DP) ?_);rintro⟨k,A⟩ ⟨u,e⟩;simp only at u e ⊢
 by_cases j:k<4
 ·have o:(k:Int)<4:=DO
  have z:=ZaU (YC d) k;refine ze (zi [] o ?_);refine ze (zo rfl (zk (ze (zn (DY ?_)))));refine DY ?_;refine zn (jX (σ:=Nat × Store) (λs'=>s'.1<=d.length/\J (((List.range k).flatMap (YC d)).length+((List.range s'.1).flatMap (Q0 d k)).length) s'.2) (λs'=>[(0,xC l),(1,.ip [L d]),(3,I k),(7,I k),(12,I d.length),(13,I s'.1)]) (λs'=>s'.2) (λ_=>[]) (λs'=>d.length-s'.1) (zZ (0,A) [] (by simpa using e) DP rfl DP) ?_);clear e A;rintro⟨a,A⟩ ⟨v,e⟩;simp only at v e ⊢;refine DY ?_;refine ze (zA rfl (λf=>?_) (λf=>?_))
  ·simp at f;have a0:=ZaU (Q0 d k) a;refine zk (ze (zn (DY ?_)));refine DY ?_;refine zn (jX (σ:=Nat × Store) (λs'=>s'.1<=d.length/\J (((List.range k).flatMap (YC d)).length+((List.range a).flatMap (Q0 d k)).length+((List.range s'.1).flatMap (YB d k a)).length) s'.2) (λs'=>[(0,xC l),(1,.ip [L d]),(3,I k),(4,I a),(7,I k),(12,I d.length),(13,I a),(18,I d.length),(19,I s'.1)]) (λs'=>s'.2) (λ_=>[]) (λs'=>d.length-s'.1) (zZ (0,A) [] (by simpa using e) DP rfl DP) ?_);clear e A;rintro⟨b,A⟩ ⟨hb,e⟩;simp only at hb e ⊢;refine DY ?_;refine ze (zA rfl (λg=>?_) (λg=>?_))
   ·simp at g;have hw:=s k a b DO f g;have a1:=ZaU (YB d k a) b;have a2:∀(i:Nat) (x:List PV),((YB d k a b).map JV)[i]?=some x->((Qf d).map JV)[((List.range k).flatMap (YC d)).length+((List.range a).flatMap (Q0 d k)).length+((List.range b).flatMap (YB d k a)).length+i]?=some x:=by
     intro i x hx;rw[Aj]at hx ⊢;obtain⟨m,hm,rfl⟩:=Ap.1 hx;have e1:=ZaT (W:=YB d k a) (n:=d.length) g hm;have e2:=ZaT (W:=Q0 d k) (n:=d.length) f e1;have e3:=ZaT (W:=YC d) (n:=4) j e2;rw[Nat.add_assoc,Nat.add_assoc];unfold Qf;rw[e3];rfl
    refine zk (ze (zn (DY ?_)));refine DY ?_;refine λp=>((ZgA hw keep hY _ a2 e _).mono ?_)
    rintro _ _ ⟨A',rfl,q,rfl⟩;rw[List.length_map,Nat.add_assoc,<-a1]at q;refine⟨_,_,rfl,zR p ?_⟩;refine zp rfl (zk (zg ?_));exact zu (b+1,A') [] ⟨g,q⟩ DT (by simp[zy b (by omega)]) rfl DP
   ·simp at g;obtain rfl:b=d.length:=DO
    refine zC ?_;have h:J (((List.range k).flatMap (YC d)).length+((List.range (a+1)).flatMap (Q0 d k)).length) A:=by rw[a0,<-Nat.add_assoc];exact e
    refine zg ?_;exact zu (a+1,A) [] ⟨f,h⟩ DT (by simp[zy a (by omega)]) rfl DP
  ·simp at f;obtain rfl:a=d.length:=DO
   refine zC ?_;have h:J ((List.range (k+1)).flatMap (YC d)).length A:=by rw[z];exact e
   refine zg ?_;exact zu (k+1,A) [] ⟨j,h⟩ DT (by simp[zy k (by omega)]) rfl DP
 ·obtain rfl:k=4:=DO
  refine DY ?_;refine ze (zp rfl (zC (Zu (w _ _ e) rfl ?_)));rw[List.length_map];exact e
open Go Go.Proofs
theorem JW{d:zt}{m:Mv}(h:wN d m=true):m.k<=3/\m.a<d.length/\m.b<d.length/\Zd d (yA d m).1/\Zd d (yA d m).2:=by
 unfold wN at h;rw[Ar]at h;obtain⟨h1,h2⟩:=h;have h1:=of_decide_eq_true h1;refine⟨h1.1,h1.2.1,h1.2.2,?_⟩;unfold ue at h2;unfold yA x9;have n:=ZpN d;have key:∀p:Pc,XU d p<->(p.f<p.o->p.t<d.length/\p.o<=je d p.t):=λ_=>Iff.rfl
 by_cases k0:m.k=0
 ·rw[if_pos k0]at h2 ⊢;have h2:=of_decide_eq_true h2;refine⟨?_,n⟩;intro p e;simp only[Rw5.l,Au,A9,or_false]at e;rcases e with rfl | rfl | rfl | rfl | rfl<;>refine(key _).2 ?_<;>simp only[yX]<;>omega
 rw[if_neg k0]at h2 ⊢
 by_cases k1:m.k=1
 ·rw[if_pos k1]at h2 ⊢;have h2:=of_decide_eq_true h2
  by_cases c:m.a=m.b
  ·rw[if_pos c,c]at h2;rw[if_neg (by simp[c])]
   by_cases g:m.i<m.j
   ·rw[if_pos g];refine⟨?_,n⟩;intro p e;simp only[Rw5.l,Au,A9,or_false]at e;rcases e with rfl | rfl | rfl | rfl | rfl<;>refine(key _).2 ?_<;>simp only[yX]<;>(try rw[c])<;>omega
   ·rw[if_neg g];refine⟨?_,n⟩;intro p e;simp only[Rw5.l,Au,A9,or_false]at e;rcases e with rfl | rfl | rfl | rfl | rfl<;>refine(key _).2 ?_<;>simp only[yX]<;>(try rw[c])<;>omega
  ·rw[if_neg c]at h2;rw[if_pos c];constructor<;>intro p e<;>simp only[Rw5.l,Au,A9,or_false]at e<;>rcases e with rfl | rfl | rfl | rfl | rfl<;>refine(key _).2 ?_<;>simp only[yX]<;>omega
 rw[if_neg k1]at h2 ⊢
 by_cases q:m.k=2
 ·rw[if_pos q]at h2 ⊢;have h2:=of_decide_eq_true h2
  by_cases c:m.a=m.b
  ·rw[if_pos c];rw[c]at h2;refine⟨?_,n⟩;intro p e;simp only[Rw5.l,Au,A9,or_false]at e;rcases e with rfl | rfl | rfl | rfl | rfl<;>refine(key _).2 ?_<;>simp only[yX,c]<;>omega
  ·rw[if_neg c];constructor<;>intro p e<;>simp only[Rw5.l,Au,A9,or_false]at e<;>rcases e with rfl | rfl | rfl | rfl | rfl<;>refine(key _).2 ?_<;>simp only[yX]<;>omega
 rw[if_neg q]at h2 ⊢;have h2:=of_decide_eq_true h2;constructor<;>intro p e<;>simp only[Rw5.l,Au,A9,or_false]at e<;>rcases e with rfl | rfl | rfl | rfl | rfl<;>refine(key _).2 ?_<;>simp only[yX]<;>omega
theorem Zdn{d:zt}{m:Mv}:m∈Qf d->wN d m=true/\m.i<=je d m.a/\m.j<=je d m.b:=by
 unfold Qf YC Q0 YB Z0 Qe;intro h;simp only[BL,AK,Cg]at h;obtain⟨k,c,a,e,b,hb,i,hi,j,f,h⟩:=h;split at h
 ·rename_i hm;cases h;exact⟨hm,by simp only;omega,by simp only;omega⟩
 ·cases h
def X1:Mv:=⟨0,0,0,0,0⟩
def vJ(x:Inst)(d:zt)(r:Rw5):Prop:=QZ d r<=x.cap/\wZ x d r<=x.len
instance (x:Inst) (d:zt) (r:Rw5):Decidable (vJ x d r):=by unfold vJ;infer_instance
def Q1(x:Inst)(d:zt)(m:Mv):Int:=Va x d m (yA d m).1 (yA d m).2
def Q3(x:Inst)(d:zt)(st:Mv × Int)(m:Mv):Mv × Int:=if Q1 x d m<st.2/\vJ x d (yA d m).1/\vJ x d (yA d m).2 then (m,Q1 x d m) else st
def uf(x:Inst)(d:zt):Mv × Int:=(Qf d).foldl (Q3 x d) (X1,0)
theorem Zqc(x:Inst)(d:zt)(hx:qQ x)(h:MvDay d):Pure prog 291 [.agg (zE x),.agg [L d]] (.tup [.agg (ZA (uf x d).1),I (uf x d).2,B (decide ((uf x d).2<0))]):=by
 have u:=h.n;have hit:=Zqb d u h.t;have r:=Zp3 x d hx h;have o:∀m∈Qf d,Pure prog 326 [.agg [L d],.agg (ZA m)] (.tup [.agg (yG (yA d m).1),.agg (yG (yA d m).2),B true])/\Pure prog 327 [.ip (Ze x d),.agg (ZA m),.agg (yG (yA d m).1),.agg (yG (yA d m).2)] (I (Q1 x d m)) /\
   Pure prog 328 [.ip (Ze x d),.agg (yG (yA d m).1)] (B (decide (vJ x d (yA d m).1)))/\Pure prog 328 [.ip (Ze x d),.agg (yG (yA d m).2)] (B (decide (vJ x d (yA d m).2))):=by
  intro m hm;obtain⟨h1,h2,h3⟩:=Zdn hm;obtain⟨hk,w,hb,r1,r2⟩:=JW h1;have hl:∀a,je d a<=1000:=by
   intro a;unfold je;rw[Aa];cases hq:d[a]? with
   | none=>simp
   | some l=>exact h.t l (Ab hq)
  have a0:=hl m.a;have a1:=hl m.b;have s:=Zdd d m DO (λt ht=>AF (h.t t ht) DV) hk w hb DO DO;unfold Yz at s;rw[if_pos h1]at s;exact⟨s,Zp8 x d m _ _ hx h r1 r2 w hb,Zhv x d _ hx h r1,Zhv x d _ hx h r2⟩
 unfold uf;generalize Qf d=xs at *;generalize Ze x d=rd at *;have v:=Zqa d;refine zx func291 ntmps291 results291 λS nx hd=>?_
 refine DY ?_;intro v0 v1 z;refine DY ?_;refine zv r ?_;intro v3;refine DY ?_;intro v4 v5
 repeat apply ze
 refine zg ?_;refine zv v ?_;refine zn (JE (xs:=xs.map JV) (σ:=Mv × Int) (λi st=>st=(xs.take i).foldl (Q3 x d) (X1,0)) [(2,.ptr nx v0 0),(3,.ptr (nx+1) v1 0),(4,.ptr (nx+2) z 0),(7,.ptr (nx+3) v3 0),(8,.ptr (nx+4) v4 0),(9,.ptr (nx+5) v5 0)] (λ_=>S)
  (λ(b,g)=>[.cells v0 25 (zE x),.cells v1 39 [L d],.cells z 339 [I 0,I 0,I 0,I 0,I 0],.cells v3 363 [.ip rd],.cells v4 339 (ZA b),.cells v5 3 [I g]]) (X1,0)
  hit rfl (by intro x hx;obtain⟨y,_,rfl⟩:=Al.1 hx;rfl) DV DP DP rfl (by simp[X1]) (by simp[X1]) ?_ ?_)
 ·rintro l i ⟨b,g⟩ more y j hy;simp only at j ⊢;rw[Aj]at hy;obtain⟨m,hm,rfl⟩:=Ap.1 hy;have c:=Zc8 (f:=Q3 x d) (b:=(X1,0)) hm;rw[<-j]at c;obtain⟨f1,f2,f3,f4⟩:=o m (Ab hm);unfold Q3 at c;simp only at c;generalize (yA d m).1=r1 at *;generalize (yA d m).2=r2 at *;generalize Q1 x d m=by_ at *;refine zg ?_;intro v6;refine zn (DY ?_);refine zv f1 ?_;intro v7 v8;refine DY ?_;refine zv f2 ?_
  by_cases k:by_<g
  ·refine ze (zi [(3,37),(8,42)] k ?_);refine yW [(3,37),(8,42)] f3 k ?_
   by_cases p:vJ x d r1
   ·rw[decide_eq_true p];refine yW [(3,37),(8,42)] f4 k ?_
    by_cases q:vJ x d r2
    ·rw[if_pos ⟨k,p,q⟩]at c;refine zo (by simp[q]) ?_;refine zg ?_;simp only[jW];exact wU (m,by_) [_,_,_] c.symm rfl (by simp;exact⟨rfl,rfl,rfl⟩)
    ·rw[if_neg λe=>q e.2.2]at c;refine zp (by simp[q]) ?_;refine zk ?_;simp only[jW];exact wU (b,g) [_,_,_] c.symm rfl (by simp;exact⟨rfl,rfl,rfl⟩)
   ·rw[decide_eq_false p];rw[if_neg λe=>p e.2.1]at c;refine zp rfl (zk ?_);simp only[jW];exact wU (b,g) [_,_,_] c.symm rfl (by simp;exact⟨rfl,rfl,rfl⟩)
  ·rw[if_neg λe=>k e.1]at c;refine ze (zi [(3,37),(8,42)] (zq k zB) ?_);refine zp rfl (zk ?_);simp only[jW];exact wU (b,g) [_,_,_] c.symm rfl (by simp;exact⟨rfl,rfl,rfl⟩)
 ·rintro⟨b,g⟩ j;rw[Af DP]at j;simp only at j ⊢;rw[<-j];refine ze (zD (some [nx+4,nx+5]) (Row.pures [0,1,2,3] (.alt 4 (Row.pures [5,6] .done) .stop)) mixed trivial ?_);exact zj (zm hd DQ (by simp[zr]))
open Go Go.Proofs
def wO(d:zt)(m:Mv)(i:Nat):zU:=if i=m.a then qt d (yA d m).1 else if i=m.b then qt d (yA d m).2 else d.getD i []
def xF(d:zt)(m:Mv)(i:Nat):Option zU:=if (wO d m i).length=0 then none else some (wO d m i)
def ug(d:zt)(m:Mv):zt:=(List.range d.length).filterMap (xF d m)
theorem Zhw{d:zt}{r:Rw5}{k:Nat}(h:∀t∈d,t.length<=k):(qt d r).length<=5*k:=by
 have h1:=λp=>Zhf (d:=d) (p:=p) h
 have f:=h1 r.a;have g:=h1 r.b;have a3:=h1 r.c;have a4:=h1 r.d;have a5:=h1 r.e;unfold qt Rw5.l;simp only[Az,Ct,Am,AH];omega
theorem Zqd(x:Inst)(d:zt)(m:Mv)(a7:d.length<=1000)(g:∀t∈d,t.length<=1000)(hm:wN d m=true)(hi:m.i<=1048576)(hj:m.j<=1048576):Pure prog 292 [.agg (zE x),.agg [L d],.agg (ZA m)] (.tup [.agg [L (ug d m)],I 0]):=by
 obtain⟨hk,ha,hb,r1,r2⟩:=JW hm;have n:=Zdd d m DO (λt ht=>AF (g t ht) DV) hk ha hb hi hj;unfold Yz at n;rw[if_pos hm]at n;have g1:=Zhg d _ DO g r1;have g2:=Zhg d _ DO g r2;have n1:=Zhw (r:=(yA d m).1) g;have n2:=Zhw (r:=(yA d m).2) g;have u:∀i,wO d m i=if i=m.a then qt d (yA d m).1 else if i=m.b then qt d (yA d m).2 else d.getD i []:=λ_=>rfl
 generalize qt d (yA d m).1=t1 at *;generalize qt d (yA d m).2=t2 at *;generalize (yA d m).1=c1 at *;generalize (yA d m).2=c2 at *;have o:ug d m=(List.range d.length).filterMap (xF d m):=rfl;rw[o];clear o;refine zx func292 ntmps292 results292 λS nx hd=>?_
 refine DY ?_;intro v0 v1 q v3;refine DY ?_;refine zv n ?_;intro v4 v5
 repeat apply ze
 refine zg ?_;refine zp rfl (zk (DY ?_));intro s;refine jd 6 0 42 1 rfl rfl λl=>?_
 repeat apply ze
 refine zg ?_;refine zn (zK (λs':Nat × Nat=>s'.1<=d.length) (λ(k,l)=>[(4,.ptr (nx+1) v1 0),(5,.ptr (nx+2) q 0),(6,.ptr (nx+3) v3 0),(8,.ptr (nx+4) v4 0),(9,.ptr (nx+5) v5 0),(11,.ptr (nx+6) s 0),(26,L d),(27,I d.length),(28,I k)])
  (λ(k,l)=>[.cells v0 25 (zE x),.cells v1 39 [L d],.cells q 339 (ZA m),.cells v3 39 [yD],.cells v4 371 (yG c1),.cells v5 371 (yG c2),.cells s 39 [.sl (nx+7) l 1 0 ((List.range k).filterMap (xF d m)).length],.cells l 42 (((List.range k).filterMap (xF d m)).flatMap Enc.enc)]) (λs'=>d.length-s'.1) (0,l) [] DP DP DP ?_)
 rintro⟨k,l⟩ v;simp only at v ⊢;refine DY ?_;refine ze (zA rfl (λhc=>?_) (λhc=>?_))
 ·simp at hc;obtain⟨t,tl,a1,a2,a3,e0⟩:=zN rfl d k hc;have w:1<=d.length-k:=DO
  have a8:=g t (Ab a1);have p:=ZaH t DO;have y:d.getD k []=t:=by rw[Aa,a1];rfl
  have c:=u k;have a6:((List.range k).filterMap (xF d m)).length<=k:=by have:=CD (xF d m) (List.range k);simpa using this
  have f:(List.range (k+1)).filterMap (xF d m)=(List.range k).filterMap (xF d m)++(xF d m k).toList:=by
   rw[AO,BY];simp only[List.filterMap_cons,List.filterMap_nil];cases xF d m k<;>rfl
  have hT1:xF d m k=if (wO d m k).length=0 then none else some (wO d m k):=rfl
  rw[y]at c;have a9:(wO d m k).length<=5000:=by rw[c];(repeat' split)<;>omega
  have z:(((List.range k).filterMap (xF d m)).flatMap Enc.enc:List PV).length=((List.range k).filterMap (xF d m)).length:=xD _;generalize (List.range k).filterMap (xF d m)=out at *;have a0:(out.flatMap Enc.enc:List PV).take out.length=out.flatMap Enc.enc:=Af DO;have wk:=zy k DO;refine zk (ze (zn (ze (zi [] (zF e0 hc w) ?_))));intro v8;refine DY ?_;refine zv p ?_
  repeat apply ze
  refine zg ?_;refine qy (nx:=nx) (λ_:Unit=>True) (λ_=>[(4,.ptr (nx+1) v1 0),(5,.ptr (nx+2) q 0),(6,.ptr (nx+3) v3 0),(8,.ptr (nx+4) v4 0),(9,.ptr (nx+5) v5 0),(11,.ptr (nx+6) s 0),(14,L (wO d m k)),(26,L d),(27,I d.length),(28,I k)]) (λ_=>S)
   (λ_=>[.cells v0 25 (zE x),.cells v1 39 [L d],.cells q 339 (ZA m),.cells v3 39 [yD],.cells v4 371 (yG c1),.cells v5 371 (yG c2),.cells s 39 [.sl (nx+7) l 1 0 out.length],.cells l 42 (out.flatMap Enc.enc),.cells v8 42 [L t]]) ?_ ?_
  ·refine zn ?_
   by_cases h1:k=m.a
   ·rw[if_pos h1]at c;have a4:(k:Int)=m.a:=DO
    rw[c];refine DY ?_;refine zo DT ?_;refine zg ?_;refine zv g1 ?_;simp only[jW];exact zZ () [] trivial DP rfl DP
   ·rw[if_neg h1]at c;have a4:¬(k:Int)=m.a:=DO
    refine DY ?_;refine zp DT ?_
    by_cases h2:k=m.b
    ·rw[if_pos h2]at c;have a5:(k:Int)=m.b:=DO
     rw[c];refine DY ?_;refine zo DT ?_;refine zg ?_;refine zv g2 ?_;simp only[jW];exact zZ () [] trivial DP rfl DP
    ·rw[if_neg h2]at c;have a5:¬(k:Int)=m.b:=DO
     rw[c];refine DY ?_;refine zp DT ?_;refine zk ?_;simp only[jW];exact zZ () [] trivial DP rfl DP
  ·rintro⟨⟩ -;generalize wO d m k=tt at *;clear c p e0
   by_cases h0:tt.length=0
   ·have e:(xF d m k).toList=[]:=by rw[hT1,if_pos h0];rfl
    have h:¬0<tt.length:=DO
    refine ze (zi [] h ?_);refine zp (by simp[h]) ?_;refine zk (zg ?_);exact zu (k+1,l) [_] DT DT (by simp[wk,f,e]) rfl (by simp[f,e];rfl)
   ·have e:(xF d m k).toList=[tt]:=by rw[hT1,if_neg h0];rfl
    have h:0<tt.length:=DO
    refine ze (zi [] h ?_);refine zo (by simp[h]) ?_;refine zi [] (zq z a0) ?_;refine⟨by omega,?_⟩;refine zg ?_;exact zu (k+1,l+1) [_] DT DT (by simp[wk,f,e]) rfl (by simp[f,e];rfl)
 ·simp at hc;obtain rfl:k=d.length:=DO
  refine zC (yh 7 rfl ?_);refine DY ?_;exact zj (zm hd DQ (by simp[zr]))
open Go Go.Proofs
def JX(d:zt)(s:Stop)(t k:Nat):Nat:=((d.getD t []).take k).count s
theorem Zdo(d:zt)(s:Stop)(t:Nat):JX d s t 0=0:=by simp[JX]
theorem Zhx(d:zt)(s:Stop)(t:Nat):JX d s t (je d t)=(d.getD t []).count s:=by simp[JX,je]
theorem Zqe(d:zt)(s:Stop)(p:Pc):p.f<=p.o->(qT d p).count s+JX d s p.t p.f=JX d s p.t p.o:=by
 intro h;unfold qT JX;generalize d.getD p.t []=u
 by_cases hf:p.f<p.o
 ·rw[if_pos hf,show p.o=p.f+(p.o-p.f) by omega,List.take_add,List.count_append,show p.f+(p.o-p.f)-p.f=p.o-p.f by omega];cases p.b
  ·rw[cond_false];omega
  ·rw[cond_true,List.count_reverse];omega
 grind
theorem Zhy(d:zt)(s:Stop)(r:Rw5):(qt d r).count s=(qT d r.a).count s+(qT d r.b).count s+(qT d r.c).count s+(qT d r.d).count s+(qT d r.e).count s:=by grind[qt,Rw5.l]
theorem Zqf{d:zt}{m:Mv}(h:wN d m=true)(s:Stop):(qt d (yA d m).1).count s+(if m.a=m.b then 0 else (qt d (yA d m).2).count s)=(d.getD m.a []).count s+(if m.a=m.b then 0 else (d.getD m.b []).count s):=by
 unfold wN at h;rw[Ar]at h;obtain⟨-,h2⟩:=h;unfold ue at h2;unfold yA x9;have c:=Zdo d s;have e:=Zdo d s m.a;have f:=Zdo d s m.b;have g:=Zhx d s m.a;have i:=Zhx d s m.b;have key:=Zqe d s;rw[Zhy,Zhy]
 grind[yX]
theorem Zqg{d:zt}{i:Nat}{u:zU}(t:zU)(h:d[i]?=some u)(s:Stop):(d.set i t).flatten.count s+u.count s=t.count s+d.flatten.count s:=by grind[List.drop_eq_getElem_cons,List.take_append_drop,List.set_eq_take_append_cons_drop]
theorem Zdp{d:zt}{i:Nat}{u:zU}(t:zU)(h:d[i]?=some u)(x:Inst):yx x (d.set i t)+yN x (u.map (·.c))=yN x (t.map (·.c))+yx x d:=by grind[List.drop_eq_getElem_cons,List.take_append_drop,yx,List.set_eq_take_append_cons_drop]
theorem Zhz(d:zt)(m:Mv):(List.range d.length).map (wO d m)=(d.set m.b (qt d (yA d m).2)).set m.a (qt d (yA d m).1):=by
 refine A8 λi=>?_
 grind[wO]
theorem Zdq(d:zt)(m:Mv):∀l:List Nat,(l.filterMap (xF d m)).flatten=(l.map (wO d m)).flatten/\∀x,yx x (l.filterMap (xF d m))=yx x (l.map (wO d m))
 | []=>⟨rfl,λ_=>rfl⟩
 | i :: l=>by
  obtain⟨h1,h2⟩:=Zdq d m l;have e:xF d m i=if (wO d m i).length=0 then none else some (wO d m i):=rfl
  rw[List.filterMap_cons,e,AD]
  by_cases h:(wO d m i).length=0
  ·rw[if_pos h,Cq.1 h];refine⟨by simpa using h1,λx=>?_⟩;have:=h2 x;unfold yx at this ⊢;simpa[yN] using this
  simp_all[yx]
theorem Zqh{d:zt}{m:Mv}{t:zU}(h:t∈ug d m):t≠[]/\(t=qt d (yA d m).1\/t=qt d (yA d m).2\/t∈d):=by grind[ug,xF,wO]
theorem Zqi(d:zt)(m:Mv):(ug d m).length<=d.length:=by grind[ug]
theorem ZhA{d:zt}{m:Mv}(h:wN d m=true):(ug d m).flatten.Perm d.flatten:=by
 obtain⟨-,a,hb,-,-⟩:=JW h;refine List.perm_iff_count.2 λs=>?_
 have hc:=Zqf h s;unfold ug
 grind[Zdq,Zhz,Zqg]
theorem Zqj{x:Inst}{d:zt}{m:Mv}(h:wN d m=true)(h0:arc x 0 0=0):yx x (ug d m)=yx x d+Q1 x d m:=by
 obtain⟨-,k,hb,r1,r2⟩:=JW h;unfold ug Q1 Va;rw[(Zdq d m _).2,Zhz,Zdl r1 h0,Zdl r2 h0];obtain⟨j,f⟩:∃u,d[m.a]?=some u:=⟨_,Ac k⟩;obtain⟨l,g⟩:∃u,d[m.b]?=some u:=⟨_,Ac hb⟩;have n:d.getD m.a []=j:=by rw[Aa,f];rfl
 have o:d.getD m.b []=l:=by rw[Aa,g];rfl
 rw[n,o];generalize qt d (yA d m).1=t1 at *;generalize qt d (yA d m).2=t2 at *
 by_cases c:m.a=m.b
 ·rw[if_pos c,<-c,List.set_set];have:=Zdp t1 f x;omega
 ·rw[if_neg c];have h1:=Zdp t2 g x;have h2:=Zdp (d:=d.set m.b t2) (i:=m.a) (u:=j) t1 (by rw[AZ (λe=>c e.symm)];exact f) x;omega
open Go Go.Proofs Hp
theorem Zdr(x:Inst):∀(ds:List zt) (st:zt × Int × Bool),(ds.foldl (vY x) st).2.2=true->ds.foldl (vY x) st=st\/(∃d∈ds,yE x d=0/\ds.foldl (vY x) st=(d,W (yx x d),true))
 | [],st,_=>.inl rfl
 | d :: ds,st,h=>by
  rw[A5]at h ⊢;rcases Zdr x ds _ h with e | ⟨a,h1,h2,h3⟩
  ·rw[e];unfold vY;split
   ·rename_i h0;split
    ·exact .inr ⟨d,by simp,h0,rfl⟩
    ·exact .inl rfl
   ·exact .inl rfl
  ·exact .inr ⟨a,by simp[h1],h2,h3⟩
theorem Zqk{x:Inst}{e:Int}{ds:List zt}(h:(vZ x e ds).2=0):e=0/\(vZ x e ds).1∈ds/\yE x (vZ x e ds).1=0:=by
 unfold vZ at h ⊢
 by_cases a:e=0
 ·rw[if_pos a]at h ⊢;cases b:(QT x ds).2.2 with
  | false=>rw[b]at h;cases h
  | true =>
   refine⟨a,?_⟩;rcases Zdr x ds ([],0,false) b with q | ⟨d,h1,h2,h3⟩
   ·have:(QT x ds).2.2=false:=by unfold QT;rw[q]
    rw[this]at b;cases b
   ·have:QT x ds=(d,W (yx x d),true):=h3;rw[this];exact⟨h1,h2⟩
 ·rw[if_neg a]at h;exact absurd h a
theorem ZhB(x:Inst):qQ (yO x):=by
 refine Zpu λrow c d e=>?_
 simp only[yO,Al]at c;obtain⟨a,_,rfl⟩:=c;unfold uz at e;obtain⟨b,_,rfl⟩:=Al.1 e;split
 ·have:=x7 (arc x a b) 0 60 DO;omega
 ·omega
theorem Zql(x:Inst):0<=(yO x).veh:=(x7 x.veh 0 5 DO).1
open Go Go.Proofs
structure SG (x:Inst) (l:List Stop) (d:zt):Prop where
 may:∀t∈d,yc x t=0
 perm:d.flatten.Perm l
def ZhC(x:Inst)(t:zU):Prop:=(∀s∈t,jM x s=true)/\(t.map (·.c)).Nodup/\t.length<=1000
theorem Zds{x:Inst}{t:zU}(h:yc x t=0):(∀s∈t,jM x s=true)/\t≠[]:=by simp_all[XM,jD]
theorem Zdt{x:Inst}:∀t:zU,(∀s∈t,jM x s=true)->0<=ye t/\ye t<=2147483648*(t.length:Int)
 | [],_=>by simp[ye]
 | s :: t,h=>by
  have h1:=Zdt t λs hs=>h s (by simp[hs])
  have h2:=h s DP
  grind[jM,ye]
theorem Vb{x:Inst}(hx:qQ x){t:zU}(h:ZhC x t)(hn:t≠[]):yc x t=0<->ye t<=x.cap/\yN x (t.map (·.c))<=x.len:=by
 obtain⟨h1,h2,h3⟩:=h;have b1:=Zdt t h1;have b2:=XN hx (t.map (·.c))
 grind[wr,XM,jD]
theorem SG.each{x:Inst}{l:List Stop}{d:zt}(g:SG x l d):∀s∈l,jM x s=true:=by
 intro s hs;obtain⟨t,b,a⟩:=Bt.1 (g.perm.symm.subset hs);exact(Zds (g.may t b)).1 s a
section
variable {x:Inst} {l:List Stop} (h:SOk x l)
include h
theorem SG.len{d:zt}(g:SG x l d):d.flatten.length<=1000/\d.length<=1000:=by
 have h1:=ZaK d λt a=>(Zds (g.may t a)).2
 have h2:=g.perm.length_eq;have h3:=h.len;omega
theorem SG.tour{d:zt}(g:SG x l d){e:zt}(a:e.flatten.Perm l){t:zU}(b:t∈e):ZhC x t:=by
 have hs:=Y8 b;have hl:=h.len;refine⟨λs q=>g.each s (a.subset (hs.subset q)),?_,?_⟩
 ·exact((a.map _).nodup_iff.2 h.nd).sublist (hs.map _)
 ·have:=hs.length_le;have:=a.length_eq;omega
theorem SG.mv{d:zt}(g:SG x l d):MvDay d:=by
 refine⟨(g.len h).2,λt a=>(g.tour h g.perm a).2.2,λt a s hs=>?_⟩;have:=(g.tour h g.perm a).1 s hs;have hc:=h.cust
 grind[jM,qv]
theorem SG.ok{d:zt}(g:SG x l d):DayOk d:=by
 have h1:=g.len h;have h2:=g.mv h;exact⟨by omega,λt a=>AF (h2.t t a) DV,λt a s hs=>(h2.s t a s hs).1⟩
end
theorem ZhD{x:Inst}{d:zt}{r:Rw5}(a:Zd d r)(h0:arc x 0 0=0):vJ x d r<->ye (qt d r)<=x.cap/\yN x ((qt d r).map (·.c))<=x.len:=by simp_all[vJ,Zdl,Zp6]
theorem Zqm{d:zt}{m:Mv}(h:wN d m=true)(c:m.a=m.b):qt d (yA d m).2=[]:=by
 have e:qt d x8=[]:=rfl
 grind[wN,ue,yA,x9]
theorem Zqn{d:zt}{m:Mv}(h:wN d m=true)(hn:qt d (yA d m).1≠[]):qt d (yA d m).1∈ug d m:=by
 obtain⟨-,b,-⟩:=JW h;refine Cg.2 ⟨m.a,AK.2 b,?_⟩
 grind[wO,xF]
theorem Zqo{d:zt}{m:Mv}(h:wN d m=true)(c:m.a≠m.b)(hn:qt d (yA d m).2≠[]):qt d (yA d m).2∈ug d m:=by
 obtain⟨-,-,hb,-⟩:=JW h;refine Cg.2 ⟨m.b,AK.2 hb,?_⟩
 grind[wO,xF]
theorem Zqp{x:Inst}{l:List Stop}(h:SOk x l)(h0:arc x 0 0=0){d:zt}(g:SG x l d){m:Mv}(hm:wN d m=true):(vJ x d (yA d m).1/\vJ x d (yA d m).2)<->∀t∈ug d m,yc x t=0:=by
 obtain⟨-,n,hb,r1,r2⟩:=JW hm;have j:(ug d m).flatten.Perm l:=(ZhA hm).trans g.perm;rw[ZhD r1 h0,ZhD r2 h0];have q:0<=x.cap/\0<=x.len:=by
  have e:=g.may _ (Bc n);have i:=g.tour h g.perm (Bc n);have:=(Vb h.arc i (Zds e).2).1 e;have b1:=Zdt _ i.1;have b2:=XN h.arc (d[m.a].map (·.c));omega
 have r:ye []=0/\yN x (([]:zU).map (·.c))=0:=⟨rfl,rfl⟩;constructor
 ·rintro⟨o,p⟩ t e;obtain⟨hn,h3⟩:=Zqh e;have i:=g.tour h j e;rcases h3 with rfl | rfl | h3
  ·exact(Vb h.arc i hn).2 o
  ·exact(Vb h.arc i hn).2 p
  ·exact g.may t h3
 ·intro f;constructor
  ·by_cases hn:qt d (yA d m).1=[]
   ·simp_all
   ·have e:=Zqn hm hn;exact(Vb h.arc (g.tour h j e) hn).1 (f _ e)
  ·by_cases hn:qt d (yA d m).2=[]
   ·simp_all
   ·by_cases k:m.a=m.b
    ·simp_all[Zqm]
    ·have e:=Zqo hm k hn;exact(Vb h.arc (g.tour h j e) hn).1 (f _ e)
theorem ZhE(x:Inst)(d:zt):∀(ms:List Mv) (st:Mv × Int),(ms.foldl (Q3 x d) st=st)\/(∃m∈ms,(ms.foldl (Q3 x d) st)=(m,Q1 x d m)/\vJ x d (yA d m).1/\vJ x d (yA d m).2)
 | [],st=>.inl rfl
 | m :: ms,st=>by
  rw[A5];rcases ZhE x d ms (Q3 x d st m) with e | ⟨a,h1,h2,h3⟩
  ·rw[e];unfold Q3;split
   ·rename_i hc;exact .inr ⟨m,by simp,rfl,hc.2⟩
   ·exact .inl rfl
  grind
def uI(x:Inst)(d:zt):Option zt:=if (uf x d).2<0 then some (ug d (uf x d).1) else none
theorem ZhF{x:Inst}{d:zt}(hb:(uf x d).2<0):(uf x d).1∈Qf d/\Q1 x d (uf x d).1<0/\vJ x d (yA d (uf x d).1).1/\vJ x d (yA d (uf x d).1).2:=by grind[ZhE,uf]
theorem ZhG{x:Inst}{l:List Stop}(h:SOk x l)(h0:arc x 0 0=0){d e:zt}(g:SG x l d)(hs:uI x d=some e):SG x l e/\yx x e<yx x d/\e.length<=d.length:=by
 unfold uI at hs;split at hs
 ·rename_i hb;cases hs;obtain⟨h1,h2,h3⟩:=ZhF hb;have hm:=(Zdn h1).1;refine⟨⟨(Zqp h h0 g hm).1 h3,(ZhA hm).trans g.perm⟩,?_,Zqi _ _⟩
  grind[Zqj]
 ·cases hs
theorem ZhH{x:Inst}{l:List Stop}(h:SOk x l)(h0:arc x 0 0=0):Zhb x (uI x) (SG x l):=by
 intro d g;have hv:=g.mv h;have hl:∀a,je d a<=1000:=by
  intro a;unfold je;rw[Aa];cases i:d[a]? with
  | none=>simp
  | some l=>exact hv.t l (Ab i)
 have f:(uI x d).isSome=decide ((uf x d).2<0):=by
  unfold uI;split
  ·simp_all
  ·simp_all
 refine⟨_,_,_,_,_,_,by rw[f];exact Zqc x d h.arc hv,λe c=>⟨?_,(ZhG h h0 g c).1⟩⟩;unfold uI at c;split at c
 ·rename_i hb;cases c;obtain⟨h1,-,-⟩:=ZhF hb;obtain⟨h1,h2,h3⟩:=Zdn h1;have:=hl (uf x d).1.a;have:=hl (uf x d).1.b;exact Zqd x d _ hv.n hv.t h1 DO DO
 ·cases c
theorem ZaV{x:Inst}{l:List Stop}(h:SOk x l)(h0:arc x 0 0=0):∀(n:Nat) (d:zt),SG x l d->SG x l (vH (uI x) n d)/\yx x (vH (uI x) n d)<=yx x d/\(vH (uI x) n d).length<=d.length
 | 0,d,g=>⟨g,De _,Ag _⟩
 | n+1,d,g=>by
  unfold vH;cases hs:uI x d with
  | none=>simp_all
  | some e =>
   obtain⟨a,b,c⟩:=ZhG h h0 g hs;obtain⟨f,b',i⟩:=ZaV h h0 n e a
   grind
open Go Go.Proofs Hp
theorem ZhI(x:Inst):arc (yO x) 0 0=0:=by simp[yO,uz,arc]
theorem ZhJ{x:Inst}{l:List Stop}(h:wW x l=0):∀s∈l,yc x [s]=0:=by grind[wW]
theorem Zqq{x:Inst}{l:List Stop}(h:SOk x l)(hf:wW x l=0):∀t∈vB x l,yc x t=0:=by
 have key:∀(ps:List Pr) (st:zt × Int),(∀t∈st.1,t.length<=1\/yc x t=0)->∀t∈(ps.foldl (jE x) st).1,t.length<=1\/yc x t=0:=by
  intro ps
  induction ps with
  | nil=>intro st h;exact h
  | cons p ps g =>
   intro st e;rw[A5];refine g _ λt d=>?_
   unfold jE W3 at d;generalize Zy st.1 p.a=i at d;generalize Zy st.1 p.b=k at d;generalize st.1.getD i []=a at d;generalize st.1.getD k []=b at d;cases hc:qS x st.2 p i k a b with
   | false=>rw[hc]at d;exact e t d
   | true =>
    rw[hc]at d;simp only[cond_true]at d;unfold qS at hc;simp only[Ar,decide_eq_true_eq]at hc;rcases Bv d with d | d
    ·rcases Bv d with d | d
     ·exact e t d
     ·rw[d];exact .inr hc.2
    ·rw[d];exact .inl DP
 intro t d;obtain⟨-,j,-,f⟩:=h.join;have hs:=Y8 d;have h1:=key (jz x (l.map λs:Stop=>s.c)) (l.map λs=>[s],(l.length:Int)) (λt d=>by obtain⟨s,_,rfl⟩:=Al.1 d;simp) t (Bn.1 d).1;rcases h1 with h1 | h1
 ·have:=f t d
  match t,h1,this with
  | [s],_,_=>exact ZhJ hf s (j.subset (hs.subset DP))
 omega
theorem ZhK{x:Inst}{l:List Stop}(h:SOk x l)(hf:wW x l=0):∀d∈QY x l,SG x l d:=by
 intro d b;unfold QY at b;simp only[List.cons_append,AQ,Au]at b;rcases b with rfl | rfl | b
 ·exact⟨Zqq h hf,h.join.2.1⟩
 ·refine⟨λt c=>?_,by rw[h.apart.2.1]⟩;obtain⟨s,hs,rfl⟩:=Al.1 c;exact ZhJ hf s hs
 ·cases a:(jO x l).2 with
  | false=>simp_all
  | true =>
   rw[a]at b;simp at b;subst b;obtain⟨r,e⟩:=h.regret;exact⟨((ud x _).1 r.may).1,e a⟩
def vK(x:Inst)(b:Int)(d:zt):zt:=vH (uI x) b.toNat d
def Zf(x:Inst)(b:Int)(l:List Stop):zt × Int:=vZ x (wW x l) (YA x (vK x b) l)
theorem Zqr{x:Inst}{l:List Stop}(h:SOk x l)(h0:arc x 0 0=0)(hf:wW x l=0){b:Int}(hb:b<=9223372036854775807):Zhn x b (vK x b) (QY x l):=by
 intro d c;have g:=ZhK h hf d c;obtain⟨a,-,-⟩:=ZaV h h0 b.toNat d g;have o:=g.ok h;refine⟨⟨_,Zhc x d b (uI x) (SG x l) hb o.n o.t (λ_=>g) (ZhH h h0)⟩,a.ok h,?_⟩;have:=(a.len h).1
 show (vH (uI x) b.toNat d).flatten.length<=1048576
 omega
theorem Zqs{x:Inst}{l:List Stop}(h:SOk x l)(h0:arc x 0 0=0){b:Int}(hb:b<=9223372036854775807):Pure prog 249 [.agg (zE x),L l,I b] (.tup [.agg [L (Zf x b l).1],I (Zf x b l).2]) :=
 ZpX x l b _ h λhf=>Zqr h h0 hf hb
theorem Zqt{x:Inst}{l:List Stop}(h:SOk x l)(h0:arc x 0 0=0)(hf:wW x l=0)(b:Int):∀d∈YA x (vK x b) l,SG x l d:=by
 have hb:=ZhK h hf;have hi:=λd g=>(ZaV h h0 b.toNat d g).1
 intro d c;unfold YA at c;unfold QY at hb;simp only[List.cons_append,AQ,Au]at c hb;rcases c with rfl | rfl | rfl | c
 ·simp_all
 ·exact hi _ (hb _ (.inl rfl))
 ·exact hi _ (hb _ (.inr (.inl rfl)))
 ·cases a:(jO x l).2 with
  | false=>simp_all
  | true =>
   rw[a]at c;simp at c;subst c;exact hi _ (hb _ (.inr (.inr (by rw[a];simp))))
theorem ZhL(x:Inst):∀(ds:List zt) (st:zt × Int × Bool),(st.2.2=true->(ds.foldl (vY x) st).2.2=true/\(ds.foldl (vY x) st).2.1<=st.2.1)/\∀d∈ds,yE x d=0->(ds.foldl (vY x) st).2.2=true/\(ds.foldl (vY x) st).2.1<=W (yx x d)
 | [],st=>⟨λe=>⟨e,De _⟩,by simp⟩
 | d :: ds,st=>by
  rw[A5];obtain⟨h1,h2⟩:=ZhL x ds (vY x st d)
  grind[vY]
theorem Zqu{x:Inst}{e:Int}{ds:List zt}(c:e=0){d:zt}(a:d∈ds)(b:yE x d=0):(vZ x e ds).2=0/\W (yx x (vZ x e ds).1)<=W (yx x d):=by
 obtain⟨h1,h2⟩:=(ZhL x ds ([],0,false)).2 d a b
 grind[QT,vZ,Zdr]
theorem Zqv(x:Inst)(a:zt->zt)(l:List Stop):jk l∈YA x a l:=by simp[YA]
section
variable {x:Inst} {l:List Stop} (h:SOk x l) (h0:arc x 0 0=0) (b:Int)
include h h0
theorem Zqw(a:(Zf x b l).2=0):wW x l=0/\yE x (Zf x b l).1=0/\(Zf x b l).1.flatten.Perm l/\(yE x (jk l)=0->W (yx x (Zf x b l).1)<=W (yx x (jk l))):=by
 obtain⟨hf,hm,c⟩:=Zqk a;have g:=Zqt h h0 hf b _ hm;exact⟨hf,c,g.perm,λq=>(Zqu hf (Zqv x _ l) q).2⟩
omit h0 in
end
open Go
structure Visit where
 d:Int
 q:Int
 deriving DecidableEq
instance:Inhabited Visit:=⟨⟨0,0⟩⟩
instance:Enc Visit:=⟨λs=>[I s.d,I s.q],2,λ_=>rfl,λ_=>rfl⟩
@[simp] theorem ZzU(s:Visit):Enc.enc s=[I s.d,I s.q]:=rfl
@[simp high] theorem ZzV(l:List Visit):(l.flatMap Enc.enc).length=l.length*2:=js l
@[simp high] theorem ZzW(l:List Visit):(l.flatMap Enc.enc).take (l.length*2)=l.flatMap Enc.enc:=Y6 l
def told:Nat->List zt->List (Stop × Nat)
 | _,[]=>[]
 | i,d :: ds=>d.flatten.map (·,i)++told (i+1) ds
def JY(x:Stop × Nat):List PV:=[.agg [I x.1.c,I x.1.q,I x.2]]
theorem ZhM(p:zH):Pure prog 99 [.agg [L p]] (.fn (.func 135) [] [.ip [L p]]):=by
 refine zx func99 ntmps99 results99 λS nx a=>?_
 refine DY ?_;intro v0;refine DY ?_;refine wL 0 rfl ?_;exact DZ a
theorem ZhN(p:zH)(hp:p.length<=1048576)(r:∀d∈p,d.length<=1048576)(u:∀d∈p,∀t∈d,t.length<=1048576):QL prog 135 [.ip [L p]] ((told 0 p).map JY):=by
 have i:∀(pre rest:List (Stop × Nat)) (x:Stop × Nat),told 0 p=pre++x :: rest->((told 0 p).map JY)[pre.length]?=some (JY x):=by
  intro pre rest x e;rw[e];simp
 refine WM func135 DU rfl ntmps135 (congrArg Array.toList results135) DP λl V keep nx J n v A0 o=>?_
 refine DY ?_;refine zn (jX (σ:=Nat × Store × List (Stop × Nat)) (λs=>s.1<=p.length/\J s.2.2.length s.2.1/\told 0 p=s.2.2++told s.1 (p.drop s.1)) (λs=>[(0,xC l),(10,L p),(11,I p.length),(12,I s.1)]) (λs=>s.2.1) (λs=>[]) (λs=>p.length-s.1) (zZ (0,A0,[]) [] (by simp[o]) DP rfl DP) ?_);rintro⟨a,A,pre⟩ ⟨w,h,c⟩;simp only at w h c ⊢;refine DY ?_;refine ze (zA rfl (λhc=>?_) (λhc=>?_))
 ·simp at hc;obtain⟨d,tl,y,z,a3,e0⟩:=zN rfl p a hc;have k:=Ab y;have a0:=r d k;rw[z]at c;simp only[told]at c;refine zk (ze (zn (ze (zi [] (zq e0 hc) ?_))));intro v0;refine DY ?_;refine zn (jX (σ:=Nat × Store × List (Stop × Nat)) (λs=>s.1<=d.length/\J s.2.2.length s.2.1/\told 0 p=s.2.2++((d.drop s.1).flatten.map (·,a)++told (a+1) (p.drop (a+1)))) (λs=>[(0,xC l),(3,I a),(10,L p),(11,I p.length),(12,I a),(18,L d),(19,I d.length),(20,I s.1)]) (λs=>s.2.1) (λs=>[]) (λs=>d.length-s.1) (zZ (0,A,pre) [_] (by simp[h,c]) DP rfl rfl) ?_);rintro⟨b,A,pre⟩ ⟨hb,h,c⟩;simp only at hb h c ⊢;refine DY ?_;refine ze (zA rfl (λf=>?_) (λf=>?_))
  ·simp at f;obtain⟨t,a4,b1,b2,b3,e2⟩:=zN rfl d b f;have a5:=u d k t (Ab b1);rw[b2]at c;simp only[BG,List.map_append,List.append_assoc]at c;refine zk (ze (zn (ze (zi [] (zq e2 f) ?_))));intro v1;refine DY ?_;refine zn (jX (σ:=Nat × Store × List (Stop × Nat)) (λs=>s.1<=t.length/\J s.2.2.length s.2.1/\told 0 p=s.2.2++((t.drop s.1).map (·,a)++((d.drop (b+1)).flatten.map (·,a)++told (a+1) (p.drop (a+1))))) (λs=>[(0,xC l),(3,I a),(10,L p),(11,I p.length),(12,I a),(18,L d),(19,I d.length),(20,I b),(25,L t),(26,I t.length),(27,I s.1)]) (λs=>s.2.1) (λs=>[]) (λs=>t.length-s.1) (zZ (0,A,pre) [_] (by simp[h,c]) DP rfl rfl) ?_);rintro⟨j,A,pre⟩ ⟨hj,h,c⟩;simp only at hj h c ⊢;refine DY ?_;refine ze (zA rfl (λg=>?_) (λg=>?_))
   ·simp at g;obtain⟨s,a6,c1,c2,c3,_,e3⟩:=el 2 rfl t j g;rw[c2]at c;simp only[AD,List.cons_append]at c;refine zk (ze (zn (ze (zi [] (zq e3 g) ?_))));intro v2;refine DY ?_;refine λm=>XA rfl rfl rfl (v _ _ _ _ (i pre _ (s,a) c) h) ?_
    rintro _ ⟨A',q,rfl⟩;refine⟨_,_,rfl,zR m ?_⟩;refine zp rfl (zk (zg ?_));exact zu (j+1,A',pre++[(s,a)]) [_] ⟨g,by simpa using q,by simp[c]⟩ DT (by simp[zy j (by omega)]) rfl rfl
   ·simp at g;have:j=t.length:=DO
    subst this;simp only[BN,Bp,AQ]at c;refine zC (zg ?_);exact zu (b+1,A,pre) [] ⟨f,h,c⟩ DT (by simp[zy b (by omega)]) rfl DP
  ·simp at f;have:b=d.length:=DO
   subst this;simp only[BN,List.flatten_nil,Bp,AQ]at c;refine zC (zg ?_);exact zu (a+1,A,pre) [] ⟨hc,h,c⟩ DT (by simp[zy a (by omega)]) rfl DP
 ·simp at hc;have:a=p.length:=DO
  subst this;simp only[BN,told,AH]at c;refine zC (Zu (n _ _ h) rfl ?_);simpa[c] using h
open Go
def qk(c:Int)(l:List (Stop × Nat)):List Visit:=(l.filter λx=>decide (x.1.c=c)).map λx=>⟨x.2,x.1.q⟩
theorem ZhO(c:Int)(l m:List (Stop × Nat)):qk c (l++m)=qk c l++qk c m:=by simp[qk]
theorem ZhP(c:Int)(x:Stop × Nat):qk c [x]=if x.1.c=c then [⟨x.2,x.1.q⟩] else []:=by
 by_cases h:x.1.c=c<;>simp[qk,h]
theorem ZhQ(c:Int)(l:List (Stop × Nat)):(qk c l).length<=l.length:=by
 simp only[qk,List.length_map];exact BF _ _
structure PlanOk (p:zH):Prop where
 n:p.length<=1048576
 d:∀d∈p,d.length<=1048576
 t:∀d∈p,∀t∈d,t.length<=1048576
 told:(told 0 p).length<=1048576
theorem Zdu(p:zH)(c:Int)(e:PlanOk p):Pure prog 158 [.agg [L p],I c] (L (qk c (told 0 p))):=by
 have k:=e.told;refine zx func158 ntmps158 results158 λS nx u=>?_
 refine DY ?_;intro v0 v1;refine DY ?_;intro m
 repeat apply ze
 refine zg ?_;refine zv (ZhM p) ?_;refine jd 2 0 104 2 rfl rfl λv3=>?_
 refine zn (JE (xs:=(told 0 p).map JY) (σ:=List Visit × Nat) (λi s=>s.1=qk c ((told 0 p).take i)/\s.1.length<=i/\i<=(told 0 p).length) [(3,.ptr (nx+1) v1 0),(5,.ptr (nx+2) m 0)] (λ_=>S)
  (λ(out,v3)=>[.cells v0 30 [L p],.cells v1 3 [I c],.cells m 101 [.sl (nx+3) v3 2 0 out.length],.cells v3 104 (out.flatMap Enc.enc)]) ([],v3)
  (ZhN p e.n e.d e.t) rfl (by intro x hx;obtain⟨y,_,rfl⟩:=Al.1 hx;rfl) DV DP ⟨by simp[qk],by simp,by simp⟩ rfl DP DP ?_ ?_)
 ·rintro l i ⟨out,v3⟩ more x ⟨ho,hl,hi⟩ hx;simp only at ho hl hi ⊢;rw[Aj]at hx;obtain⟨y,v,rfl⟩:=Ap.1 hx;obtain⟨s,d⟩:=y;obtain⟨f,g⟩:=Ad.1 v;have a:(told 0 p).take (i+1)=(told 0 p).take i++[(s,d)]:=by rw[AR f,g]
  refine xL [] DU DU λK Gc Gh o h j X b r=>?_
  simp -implicitDefEqProofs [b,r,JY]
  try clear b r X
  intro v4;refine o _ _ _ ?_;clear o h j;clear K Gc Gh;refine zn (DY ?_);refine zA rfl (λhc=>?_) (λhc=>?_)
  ·simp at hc;refine zg ?_;refine⟨by omega,?_⟩;simp only[jW];exact wU (out++[⟨d,s.q⟩],v3+1) [_] ⟨by rw[a,ZhO,ZhP,if_pos hc,ho],by simp;omega,by omega⟩ rfl DQ
  ·simp at hc;refine zk ?_;simp only[jW];exact wU (out,v3) [_] ⟨by rw[a,ZhO,ZhP,if_neg hc,ho,AH],Co hl,by omega⟩ rfl DQ
 ·rintro⟨out,v3⟩ ⟨ho,hl,-⟩;simp only[List.length_map,Ai]at ho hl ⊢;refine DY ?_;refine yh 3 rfl ?_;exact zj (zm u DQ (by rw[ho];rfl))
open Go
theorem Zqx(p:zH)(c:Int)(e:PlanOk p):Pure prog 198 [.agg [L p],I c] (L ((qk c (told 0 p)).map (·.d))):=by
 have b:=AF (ZhQ c (told 0 p)) e.told;have a:=Zdu p c e;generalize qk c (told 0 p)=vs at b a ⊢;refine zx func198 ntmps198 results198 λS nx f=>?_
 refine DY ?_;intro v0;refine DY ?_;refine ze (q9 5 3 1 rfl λv1=>?_);refine DY ?_;refine zv a ?_;refine zn (zK (λs:Nat × List Int × Nat=>s.1<=vs.length/\s.2.1=(vs.take s.1).map (·.d)) (λ(k,out,v1)=>[(5,.sl (nx+1) v1 1 0 out.length),(10,L vs),(11,I vs.length),(12,I k)]) (λ(k,out,v1)=>[.cells v0 30 [L p],.cells v1 3 (out.flatMap Enc.enc)]) (λs=>vs.length-s.1) (0,[],v1) [] DP DP DP ?_);rintro⟨k,out,v1⟩ ⟨g,ho⟩;simp only at g ho ⊢;have h:out.length=k:=by rw[ho];simp;omega
 refine DY ?_;refine ze (zA rfl (λhc=>?_) (λhc=>?_))
 ·simp at hc;obtain⟨s,tl,j,l,a3,_,i⟩:=el 2 rfl vs k hc;refine zk (ze (zn (ze (zi [] (zq i hc) ?_))));intro m;refine zg ?_;refine⟨by omega,?_⟩;refine zg ?_;exact zu (k+1,out++[s.d],v1+1) [_] ⟨hc,by rw[a3,ho];simp⟩ DT (by simp[zy k (by omega)]) rfl DQ
 ·simp at hc;have:k=vs.length:=DO
  subst this;rw[Ai]at ho;refine zC (DY ?_);refine yh 1 rfl ?_;exact zj (zm f DQ (by simp[ho,zr]))
def jo(n:Nat)(d:Int):Nat:=if 0<=d/\d<64 then n ||| 2 ^ d.toNat else n
theorem ZaW(n:Nat)(d:Int)(hn:n<2 ^ 64):jo n d<2 ^ 64:=by
 unfold jo;split
 ·exact Nat.or_lt_two_pow hn (Cz DV DO)
 ·exact hn
def Q4(l:List Int):Nat:=l.foldl jo 0
theorem Zqy(l:List Int):Q4 l<2 ^ 64:=by
 have:∀(l:List Int) (n:Nat),n<2 ^ 64->l.foldl jo n<2 ^ 64:=by
  intro l;induction l with
  | nil=>intro n h;exact h
  | cons d l a=>intro n h;exact a _ (ZaW n d h)
 exact this l 0 DV
theorem Zdv(d:Int):Pure prog 260 [I d] (B (decide (0<=d/\d<64))):=by
 refine zx func260 ntmps260 results260 λS nx a=>?_
 refine DY ?_
 by_cases h1:0<=d
 ·refine ze (zi [(2,5)] h1 ?_);exact zj (zm a DQ (by simp[h1,zr]))
 ·refine ze (zi [(2,5)] (zq h1 zB) ?_);exact zj (zm a DQ (by simp[h1,zr]))
theorem ZhR(d:Nat)(h:d<64):IntKind.u64.wrap (2 ^ d)=((2 ^ d:Nat):Int):=by
 have h2:(2:Nat) ^ d<2 ^ 64:=Cz DV h;have h3:((2 ^ d:Nat):Int)<2 ^ 64:=by exact_mod_cast h2
 have a:(2:Int) ^ d=((2 ^ d:Nat):Int):=DP
 rw[a];generalize (2 ^ d:Nat)=m at h3 ⊢;simp only[IntKind.wrap,IntKind.bits,IntKind.signed];simp;omega
theorem ZhS(n:Nat)(d:Int)(hn:n<2 ^ 64):Pure prog 226 [U n,I d] (U (jo n d)):=by
 refine zx func226 ntmps226 results226 λS nx e=>?_
 refine DY ?_
 repeat apply ze
 refine zg ?_;refine zv (Zdv d) ?_
 by_cases h:0<=d/\d<64
 ·repeat apply ze
  refine zp (by simp[h]) ?_;refine zk ?_;have h1:¬d<0:=DO
  have h2:min d.toNat 64=d.toNat:=DO
  have h3:=ZhR d.toNat DO;have i:bits BinOp.or IntKind.u64 (n:Int) (2 ^ d.toNat)=((n ||| 2 ^ d.toNat:Nat):Int):=by
   have:=bits_or_u64_nat n (2 ^ d.toNat) DO (by have:(2:Nat) ^ d.toNat<2 ^ 64:=Cz (by decide) (by omega);omega);simpa using this
  refine ze (xL [] DU DU λK Gc Gh f b c X a g=>?_);simp -implicitDefEqProofs [a,g,h1,h2,IntKind.bits,h3,i]
  try clear a g X
  refine f _ _ _ ?_;clear f b c;clear K Gc Gh;exact zj (zm e DQ (by simp[jo,h,zr]))
 ·repeat apply ze
  refine zo DT ?_;refine DY ?_;exact zj (zm e DQ (by simp[jo,h,zr]))
theorem Zqz(l:List Int)(hl:l.length<=1048576):Pure prog 197 [L l] (U (Q4 l)):=by
 refine zx func197 ntmps197 results197 λS nx a=>?_
 refine DY ?_;refine DY ?_
 repeat apply ze
 refine zg ?_;refine zn (zK (λs:Nat × Nat=>s.1<=l.length/\s.2=Q4 (l.take s.1)) (λ(k,n)=>[(3,U n),(6,L l),(7,I l.length),(8,I k)]) (λ_=>[]) (λs=>l.length-s.1) (0,0) [] (by simp[Q4]) DP DP ?_);rintro⟨k,n⟩ ⟨b,ho⟩;simp only at b ho ⊢;refine DY ?_;refine ze (zA rfl (λhc=>?_) (λhc=>?_))
 ·simp at hc;obtain⟨d,tl,e,f,a3,c⟩:=zN rfl l k hc;refine zk (ze (zn (ze (zi [] (zq c hc) ?_))));refine zg ?_;refine zv (ZhS n d (by rw[ho];exact Zqy _)) ?_;refine zg ?_;exact zu (k+1,jo n d) [] ⟨hc,by rw[a3,ho];simp[Q4,Bx]⟩ DT (by simp[zy k (by omega)]) rfl DP
 ·simp at hc;have:k=l.length:=DO
  subst this;rw[Ai]at ho;refine zC (DY ?_);exact zj (zm a DQ (by simp[ho,zr]))
def Vc(l:List Nat)(v:Nat):Int:=if v∈l then (l.findIdx (·=v):Nat) else -1
theorem ZqA(l:List Nat)(v:Nat)(hl:l.length<=1048576):Pure prog 242 [L l,U v] (I (Vc l v)):=by
 refine zx func242 ntmps242 results242 λS nx b=>?_
 refine DY ?_
 repeat apply ze
 refine zg ?_;refine zn (zK (λs:Nat=>s<=l.length/\v ∉ l.take s) (λk=>[(0,L l),(1,U v),(6,L l),(7,I l.length),(8,I k)]) (λ_=>[]) (λs=>l.length-s) 0 [] DP DP DP ?_);rintro k ⟨i,ho⟩;refine DY ?_;refine ze (zA rfl (λhc=>?_) (λhc=>?_))
 ·simp at hc;obtain⟨d,tl,c,m,a3,f⟩:=zN rfl l k hc;refine zk (ze (zn (DY ?_)));refine ze (zi [] (zq hc f) ?_);refine zA rfl (λh=>?_) (λh=>?_)
  ·obtain rfl:v=d:=by simp at h;omega
   have a:Vc l v=k:=by
    have hm:=Ab c;have:l.findIdx (·=v)=k:=by
     rw[List.findIdx_eq DO];obtain⟨n,g⟩:=Ad.1 c;refine⟨by simp[g],λj o=>?_⟩;simp only[decide_eq_false_iff_not];intro e;apply ho;rw[List.mem_take_iff_getElem];exact⟨j,by omega,e⟩
    simp[Vc,hm,this]
   refine DY ?_;exact zj (zm b DQ (by simp[a,zr]))
  ·simp at h;refine zk (zg ?_);exact zu (k+1) [] ⟨hc,by rw[a3];simp;exact⟨ho,λe=>h DO⟩⟩ DO (by simp[zy k (by omega)]) rfl DP
 ·simp at hc;have:k=l.length:=DO
  subst this;rw[Ai]at ho;refine zC (DY ?_);exact zj (zm b DQ (by simp[Vc,ho,zr]))
theorem ZqB(l:List Nat)(v:Nat)(hl:l.length<=1048576):Pure prog 199 [L l,U v] (B (decide (v∈l))):=by
 refine zx func199 ntmps199 results199 λS nx a=>?_
 refine DY ?_;refine DY ?_;refine zv (ZqA l v hl) ?_;exact zj (zm a DQ (by by_cases h:v∈l<;>simp[Vc,h,zr]))
open Go
structure CustFits (c:Cust):Prop where
 rate:0<=c.rate/\c.rate<=2147483648
 size:0<=c.size/\c.size<=2147483648
 start:0<=c.start/\c.start<=2147483648
def YD(q:Int):Bool:=decide (q<0\/2147483648<q)
def xG(size rate:Int):Int->List Int->Option (List Int)
 | _,[]=>some []
 | there,q :: l=>if size<there+q\/there+q<rate then none else (xG size rate (there+q-rate) l).map ((there+q-rate) :: ·)
def jF(c:Cust)(q:List Int):List Int × Int :=
 if q.any YD then ([],1) else match xG c.size c.rate c.start q with
 | none=>([],8)
 | some l=>(l,0)
theorem ZhT(c:Cust){S:Store}{nx:Nat}(a:yd nx S):Spec prog 156 [.agg (yi c)] S (λp S'=>∃v,p=.fn (.func 201) [] [.ptr (nx+1) v 0,.ip (yi c)]/\S'=S.set (nx+1) (.cells v 3 [I c.start])):=by
 refine Zv a func156 ntmps156 results156 ?_;refine DY ?_;intro v0;refine DY ?_;intro v1;refine DY ?_;refine wL 0 rfl ?_;refine zj ⟨_,_,rfl,⟨v1,by simp[zr],rfl⟩,JD (j:=1) a DP⟩
theorem ZhU(c:Cust)(q there:Int){S:Store}{id v:Nat}(hid:S id=.cells v 3 [I there])(h1:-4611686018427387904<=there+q/\there+q<=4611686018427387904)(h2:-4611686018427387904<=there+q-c.rate/\there+q-c.rate<=4611686018427387904):
  Spec prog 201 [I q,.ptr id v 0,.ip (yi c)] S (λp S'=>p=.tup [I (there+q),I (there+q-c.rate)]/\S'=S.set id (.cells v 3 [I (there+q-c.rate)])):=by
 refine yt func201 ntmps201 results201 λnx f=>?_
 have a:id<nx:=by
  rcases Bh id nx with h | h
  ·exact h
  ·rw[f id h]at hid;cases hid
 have b:¬nx<=id:=DO
 have g:∀obs,ext S nx obs id=.cells v 3 [I there]:=λobs=>(zJ a).trans hid
 have d:∀obs x,ext (S.set id x) nx obs id=x:=λobs x=>(zJ a).trans (q11 _ _ _)
 have e:∀x,yd nx (S.set id x):=λx i hi=>by rw[q10 _ _ _ _ DO];exact f i hi
 have j:IntKind.i64.wrap (there+q)=there+q:=wr _ DO DO;have w2:IntKind.i64.wrap (there+q-c.rate)=there+q-c.rate:=wr _ DO DO;refine DY ?_;refine ze (zi [] (zq g j) ?_);refine ze (zi [] (zF g b w2) ?_);refine ze (zD none (Row.pures [0,1,2,3] .done) mixed d ?_);refine zj ⟨_,_,rfl,⟨rfl,rfl⟩,yb (e _)⟩
theorem ZqC{size rate there q:Int}{l:List Int}{out:List Int}{r:Option (List Int)}(h:r=(xG size rate there (q :: l)).map (out++·))(hs:¬size<there+q)(a:¬there+q<rate):
  r=(xG size rate (there+q-rate) l).map ((out++[there+q-rate])++·):=by
 rw[h];simp only[xG,hs,a,or_self,if_false,Option.map_map];congr 1;funext x;simp
theorem Zdw(c:Cust)(q:List Int)(hc:CustFits c)(w:q.length<=1048576):Pure prog 113 [.agg (yi c),L q] (.tup [L (jF c q).1,I (jF c q).2]):=by
 obtain⟨x,u,g⟩:=hc;refine zx func113 ntmps113 results113 λS nx e=>?_
 refine DY ?_;intro v0
 repeat apply ze
 refine zg ?_;refine qy (nx:=nx) (σ:=Nat) (λv0=>q.any YD=false) (λv0=>[(1,L q),(2,.ptr nx v0 0)]) (λ_=>S) (λv0=>[.cells v0 87 (yi c)]) ?_ ?_
 ·refine zn (zK (λs:Nat=>s<=q.length/\(q.take s).any YD=false) (λk=>[(1,L q),(2,.ptr nx v0 0),(14,L q),(15,I q.length),(16,I k)]) (λ_=>[.cells v0 87 (yi c)]) (λs=>q.length-s) 0 [] DP DP DP ?_);rintro k ⟨o,ho⟩;refine DY ?_;refine ze (zA rfl (λhc=>?_) (λhc=>?_))
  ·simp at hc;obtain⟨z,tl,i,r,a3,j⟩:=zN rfl q k hc;have bad:YD z=true->jF c q=([],1):=λh=>by
    have:q.any YD=true:=by rw[B8];exact⟨z,Ab i,h⟩
    simp[jF,this]
   refine zk (ze (zn (ze (zi [] (zq j hc) ?_))))
   by_cases h1:z<0
   ·refine ze (zi [(2,22)] (zq h1 zB) ?_);refine zo rfl (DY ?_);refine Yp 4 rfl ?_;exact zj (zm e DQ (by rw[bad (by simp[YD,h1])];rfl))
   by_cases h2:(2147483648:Int)<z
   ·refine ze (zi [(2,22)] (zq h1 h2) ?_);refine zo rfl (DY ?_);refine Yp 4 rfl ?_;exact zj (zm e DQ (by rw[bad (by simp[YD,h2])];rfl))
   refine ze (zi [(2,22)] (zq h1 h2) ?_);refine zp rfl (zk (zg ?_));exact zu (k+1) [] ⟨hc,by rw[a3,List.any_append,ho];simp[YD];omega⟩ DO (by simp[zy k (by omega)]) rfl DP
  ·simp at hc;obtain rfl:k=q.length:=DO
   rw[Ai]at ho;exact zC (zZ v0 [] ho DP rfl DP)
 ·intro v0 hb;have m:∀z∈q,0<=z/\z<=2147483648:=by
   intro z t;rw[CP]at hb;have:=hb z t;simp[YD]at this;omega
  have b:jF c q=match xG c.size c.rate c.start q with | none=>([],8) | some l=>(l,0):=by simp[jF,hb]
  refine DY ?_;refine λa=>((ZhT c xB).mono ?_).v
  rintro p T ⟨v1,rfl,rfl⟩;refine⟨_,_,Xz _,zR a ?_⟩;refine DY ?_;refine⟨by omega,λd=>?_⟩;refine ZlJ 3 0 rfl ?_;simp only[Dh,AV,A7,List.append_eq,List.cons_append,AQ,Ae,Ah]
  repeat apply ze
  refine zg ?_;refine zn (zK (λs:Nat × Int × List Int × Nat=>s.1<=q.length/\s.2.2.1.length=s.1/\(0<=s.2.1/\s.2.1<=2147483648)/\xG c.size c.rate c.start q=(xG c.size c.rate s.2.1 (q.drop s.1)).map (s.2.2.1++·))
   (λ(k,there,out,d)=>[(2,.ptr nx v0 0),(8,.fn (.func 201) [] [.ptr (nx+2) v1 0,.ip (yi c)]),(9,.sl (nx+3) d 1 0 out.length),(32,L q),(33,I q.length),(34,I k)])
   (λ(k,there,out,d)=>[.cells v0 87 (yi c),.dead,.cells v1 3 [I there],.cells d 3 (out.flatMap Enc.enc)]) (λs=>q.length-s.1) (0,c.start,[],d) [] ?_ DP DP ?_)
  ·refine⟨by simp,by simp,g,?_⟩;simp
  rintro⟨k,there,out,d⟩ ⟨o,f,n,ho⟩;simp only at o f n ho ⊢;refine DY ?_;refine ze (zA rfl (λhc=>?_) (λhc=>?_))
  ·simp at hc;obtain⟨z,tl,i,r,a3,j⟩:=zN rfl q k hc;have t:=m z (Ab i);rw[r]at ho;refine zk (ze (zn (ze (zi [] (zq j hc) ?_))));refine DY ?_;refine λa=>((ZhU c z there (id:=nx+2) (v:=v1) DP DO DO).mono ?_).v
   rintro p T ⟨rfl,rfl⟩;refine⟨_,_,yl _ DO DP,zR a ?_⟩;have bad:(c.size<there+z\/there+z<c.rate)->jF c q=([],8):=λh=>by
    rw[b,ho];simp only[xG,if_pos h,Option.map_none]
   by_cases h1:c.size<there+z
   ·repeat apply ze
    refine zi [(4,48)] (zq h1 zB) ?_;refine zo rfl (DY ?_);refine Yp 4 rfl ?_;exact zj (zm e DQ (by rw[bad (.inl h1)];rfl))
   by_cases h2:there+z<c.rate
   ·repeat apply ze
    refine zi [(4,48)] (zq h1 h2) ?_;refine zo rfl (DY ?_);refine Yp 4 rfl ?_;exact zj (zm e DQ (by rw[bad (.inr h2)];rfl))
   repeat apply ze
   refine zi [(4,48)] (zq h1 h2) ?_;refine zp rfl (zk (zg ?_));refine⟨by omega,?_⟩;refine zg ?_;exact zu (k+1,there+z-c.rate,out++[there+z-c.rate],d+1) [] ⟨hc,by simp[f],by dsimp only;omega,ZqC ho h1 h2⟩ DT (by simp[zy k (by omega)]) rfl DP
  ·simp at hc;obtain rfl:k=q.length:=DO
   rw[BN]at ho;simp only[xG,A4,AH]at ho;refine zC (DY ?_);refine yh 3 rfl ?_;exact zj (zm e DQ (by rw[b,ho];simp[zr]))
open Go
def JZ(rate size:Int):List Int->List Int->Bool
 | z :: q,n :: l=>decide (0<z/\n+rate≠size) || JZ rate size q l
 | _,_=>false
def Z1(c:Cust)(q:List Int):Int :=
 if (jF c q).2≠0 then (jF c q).2 else if c.rule≠1 then 0 else if JZ c.rate c.size q (jF c q).1 then 9 else 0
def ZB(c:Cust)(ns:List Int):Int:=W (c.hold*W ns.sum)
theorem ZhV(l:List Int)(x:Int):(l++[x]).sum=l.sum+x:=DP
theorem Zdx(c:Cust)(a:List Int)(hn:a.length<=1048576):Pure prog 115 [.agg (yi c),L a] (I (ZB c a)):=by
 refine zx func115 ntmps115 results115 λS nx b=>?_
 refine DY ?_;intro v0;refine DY ?_
 repeat apply ze
 refine zg ?_;refine zn (zK (λs:Nat=>s<=a.length) (λk=>[(2,.ptr nx v0 0),(5,I (W (a.take k).sum)),(8,L a),(9,I a.length),(10,I k)]) (λ_=>[.cells v0 87 (yi c)]) (λs=>a.length-s) 0 [] DP DP DP ?_);rintro k f;refine DY ?_;refine ze (zA rfl (λhc=>?_) (λhc=>?_))
 ·simp at hc;obtain⟨z,tl,g,h,a3,d⟩:=zN rfl a k hc;refine zk (ze (zn (ze (zi [] (zq d hc) ?_))));refine zg ?_;refine zg ?_;have e:W (W (a.take k).sum+z)=W (a.take (k+1)).sum:=by rw[a3,ZhV,Yq]
  exact zu (k+1) [] hc DO (by simp[zy k (by omega)];exact e) rfl DP
 ·simp at hc;obtain rfl:k=a.length:=DO
  rw[Ai];refine zC (DY ?_);exact DZ b
theorem ZhW(c:Cust)(q:List Int)(hc:CustFits c)(x:q.length<=1048576):Pure prog 200 [.agg (yi c),L q] (I (Z1 c q)):=by
 have n:=Zdw c q hc x;obtain⟨hr,y,o⟩:=hc;refine zx func200 ntmps200 results200 λS nx m=>?_
 refine DY ?_;intro v0
 repeat apply ze
 refine zg ?_;refine zv n ?_
 by_cases d:(jF c q).2=0
 case neg =>
  refine ze (zi [] d ?_);refine zo (by simp[d]) ?_;refine DY ?_;exact zj (zm m DQ (by simp[Z1,d,zr]))
 refine ze (zi [] d ?_);refine zp (by simp[d]) ?_;refine zk ?_
 by_cases b:c.rule=1
 case neg =>
  repeat apply ze
  refine zi [] b ?_;refine zo (by simp[b]) ?_;refine DY ?_;exact zj (zm m DQ (by simp[Z1,d,b,zr]))
 repeat apply ze
 refine zi [] b ?_;refine zp (by simp[b]) ?_;refine zk ?_;have e:Z1 c q=if JZ c.rate c.size q (jF c q).1 then 9 else 0:=by simp[Z1,d,b]
 obtain⟨l,hl,h⟩:∃l,xG c.size c.rate c.start q=some l/\(jF c q).1=l/\∀z∈q,0<=z/\z<=2147483648:=by
  unfold jF at d ⊢;split at d
  ·simp at d
  ·rename_i hb;cases a:xG c.size c.rate c.start q with
   | none=>simp[a]at d
   | some l =>
    refine⟨l,rfl,by simp[hb],λz w=>?_⟩;simp only[Bool.not_eq_true,CP]at hb;have:=hb z w;simp[YD]at this;omega
 obtain⟨r,h⟩:=h;rw[r]at e;refine DY ?_;refine λf=>((ZhT c xB).mono ?_).v
 rintro p T ⟨v1,rfl,rfl⟩;refine⟨_,_,Xz _,zR f ?_⟩
 repeat apply ze
 refine zg ?_;refine zn (zK (λs:Nat × Int=>s.1<=q.length/\(0<=s.2/\s.2<=2147483648)/\xG c.size c.rate s.2 (q.drop s.1)=some (l.drop s.1)/\JZ c.rate c.size q l=JZ c.rate c.size (q.drop s.1) (l.drop s.1))
  (λ(k,there)=>[(2,.ptr nx v0 0),(7,.fn (.func 201) [] [.ptr (nx+2) v1 0,.ip (yi c)]),(26,L q),(27,I q.length),(28,I k)])
  (λ(k,there)=>[.cells v0 87 (yi c),.dead,.cells v1 3 [I there]]) (λs=>q.length-s.1) (0,c.start) [] ⟨by simp,o,by simpa using hl,by simp⟩ DP DP ?_)
 rintro⟨k,there⟩ ⟨hk,t,a,ho⟩;simp only at hk t a ho ⊢;refine DY ?_;refine ze (zA rfl (λhc=>?_) (λhc=>?_))
 ·simp at hc;obtain⟨z,tl,a1,a2,a3,e0⟩:=zN rfl q k hc;have w:=h z (Ab a1);rw[a2]at a ho;simp only[xG]at a;split at a
  ·cases a
  rename_i a0;obtain⟨l2,i,j⟩:=Ap.1 a;rw[<-j]at ho;simp only[JZ]at ho;have g:l.drop (k+1)=l2:=by rw[<-List.drop_drop,<-j];rfl
  have u:there+z-c.rate+c.rate=there+z:=DO
  rw[u]at ho;refine zk (ze (zn (ze (zi [] (zq e0 hc) ?_))));refine DY ?_;refine λf=>((ZhU c z there (id:=nx+2) (v:=v1) DP DO DO).mono ?_).v
  rintro p T ⟨rfl,rfl⟩;refine⟨_,_,yl _ DO DP,zR f ?_⟩
  by_cases h1:0<z
  ·by_cases h2:there+z=c.size
   ·refine ze (zi [(2,40)] (zq h1 h2) ?_);refine zp (by simp[h2]) ?_;refine zk (zg ?_);exact zu (k+1,there+z-c.rate) [] ⟨hc,by dsimp only;omega,by rw[g];exact i,by rw[ho,g,decide_eq_false DO,Bool.false_or]⟩ DT (by simp[zy k (by omega)]) rfl (by simp[h2])
   ·refine ze (zi [(2,40)] (zq h1 h2) ?_);refine zo (by simp[h2]) ?_;refine DY ?_;exact zj (zm m DQ (by rw[e,ho];simp[h1,h2,zr]))
  ·refine ze (zi [(2,40)] (zq h1 zB) ?_);refine zp rfl (zk (zg ?_));exact zu (k+1,there+z-c.rate) [] ⟨hc,by dsimp only;omega,by rw[g];exact i,by rw[ho,g,decide_eq_false DO,Bool.false_or]⟩ DT (by simp[zy k (by omega)]) rfl DP
 ·simp at hc;obtain rfl:k=q.length:=DO
  rw[BN]at ho;simp only[JZ]at ho;refine zC (DY ?_);exact zj (zm m DQ (by rw[e,ho];rfl))
def w8(a b:Int):Int:=if a+b < -9223372036854775808 then -9223372036854775808 else if 9223372036854775807<a+b then 9223372036854775807 else a+b
theorem ZqD(a b:Int)(e:zT a)(hb:zT b):Pure prog 167 [I a,I b] (if -9223372036854775808<=a+b/\a+b<=9223372036854775807 then .tup [I (a+b),B true] else .tup [I 0,B false]):=by
 unfold zT at e hb;refine zx func167 ntmps167 results167 λS nx d=>?_
 refine DY ?_
 by_cases h:-9223372036854775808<=a+b/\a+b<=9223372036854775807
 ·have c:IntKind.i64.wrap (a+b)=a+b:=wr _ h.1 h.2;refine ze (zi [] c ?_)
  by_cases h1:b<0
  ·have h2:a+b<a:=DO
   repeat apply ze
   refine zi [] (zq h1 h2) ?_;refine zp DP ?_;refine zk (DY ?_);exact zj (zm d DQ (by simp[h,zr]))
  ·have h2:¬a+b<a:=DO
   repeat apply ze
   refine zi [] (zq h1 h2) ?_;refine zp DP ?_;refine zk (DY ?_);exact zj (zm d DQ (by simp[h,zr]))
 ·by_cases h0:a+b < -9223372036854775808
  ·have c:IntKind.i64.wrap (a+b)=a+b+18446744073709551616:=by rw[AA];omega
   have h1:b<0:=DO
   have h2:¬a+b+18446744073709551616<a:=DO
   refine ze (zi [] c ?_)
   repeat apply ze
   refine zi [] (zq h1 h2) ?_;refine zo DP ?_;refine DY ?_;exact zj (zm d DQ (by simp only[h,if_false];rfl))
  ·have c:IntKind.i64.wrap (a+b)=a+b-18446744073709551616:=by rw[AA];omega
   have h1:¬b<0:=DO
   have h2:a+b-18446744073709551616<a:=DO
   refine ze (zi [] c ?_)
   repeat apply ze
   refine zi [] (zq h1 h2) ?_;refine zo DP ?_;refine DY ?_;exact zj (zm d DQ (by simp only[h,if_false];rfl))
theorem ZaX(a b:Int)(e:zT a)(hb:zT b):Pure prog 123 [I a,I b] (I (w8 a b)):=by
 have c:=ZqD a b e hb;unfold zT at e hb;refine zx func123 ntmps123 results123 λS nx d=>?_
 refine DY ?_
 by_cases h:-9223372036854775808<=a+b/\a+b<=9223372036854775807
 ·rw[if_pos h]at c;refine DY ?_;refine zv c ?_;refine ze (zn (DY ?_));refine zo rfl (DY ?_);exact zj (zm d DQ (by simp only[w8,zr];rw[if_neg (by omega),if_neg (by omega)]))
 ·rw[if_neg h]at c;refine DY ?_;refine zv c ?_;refine ze (zn (DY ?_));refine zp rfl (DY ?_);refine zA rfl (λh1=>?_) (λh1=>?_)
  ·simp at h1;refine DY ?_;exact zj (zm d DQ (by simp only[w8,zr];rw[if_pos (by omega)]))
  ·simp at h1;refine zk (DY ?_);exact zj (zm d DQ (by simp only[w8,zr];rw[if_neg (by omega),if_pos (by omega)]))
theorem X2(a lo hi:Int):Pure prog 80 [I a,I lo,I hi] (I (min (max a lo) hi)):=by
 have h1:jJ (jy a lo) hi=min (max a lo) hi:=by unfold jJ jy;split<;>split<;>omega
 refine zx func80 ntmps80 results80 λS nx b=>?_
 refine DY ?_;refine ze (zi [] h1 ?_);exact DZ b
def yV(v:List Visit)(n:Int):List Int:=(List.range (min (max n 0) 64).toNat).map λ(d:Nat)=>((v.filter λs=>decide (s.d=(d:Int))).map (·.q)).sum
theorem ZaY(v:List Visit)(n:Int):(yV v n).length=(min (max n 0) 64).toNat:=by simp[yV]
theorem ZqE(n:Int):yV [] n=List.replicate (min (max n 0) 64).toNat 0:=by
 apply A3
 ·simp[yV]
 ·intro i h1 h2;simp[yV]
theorem ZqF(v:List Visit)(n:Int)(s:Visit)(h:¬(0<=s.d/\s.d<((min (max n 0) 64).toNat:Int))):yV (v++[s]) n=yV v n:=by
 unfold yV;apply AM;intro d a;have b:=AK.1 a;have:¬s.d=(d:Int):=DO
 simp[this]
theorem ZqG(v:List Visit)(n:Int)(s:Visit)(d:Nat)(hs:s.d=(d:Int))(b:Int)(hb:(yV v n)[d]?=some b):yV (v++[s]) n=(yV v n).set d (b+s.q):=by
 obtain⟨c,a⟩:=Ad.1 hb;apply A3
 ·simp[yV]
 ·intro i h1 h2;rw[CB];have e:i<(yV v n).length:=by simpa using h2
  by_cases q:d=i
  ·subst q;rw[if_pos rfl,<-a];simp[yV,hs]
  ·rw[if_neg q];have:¬s.d=(i:Int):=DO
   simp[yV,this]
structure VisOk (v:List Visit):Prop where
 n:v.length<=1048576
 q:∀s∈v,0<=s.q/\s.q<=2147483648
 d:∀s∈v,zT s.d
theorem ZqH(v:List Visit)(p:Visit->Bool)(h:∀s∈v,0<=s.q/\s.q<=2147483648):0<=((v.filter p).map (·.q)).sum/\((v.filter p).map (·.q)).sum<=2147483648*v.length:=by
 induction v with
 | nil=>simp
 | cons s v a =>
  have h1:=a λx hx=>h x (by simp[hx])
  have h2:=h s DP;rw[Cf];split
  ·simp only[AD,BR,Ae];omega
  ·simp only[Ae];omega
theorem ZqI{v:List Visit}(hv:∀s∈v,0<=s.q/\s.q<=2147483648)(n:Int):∀b∈yV v n,0<=b/\b<=2147483648*v.length:=by
 intro b hb;simp only[yV,Al]at hb;obtain⟨d,_,rfl⟩:=hb;exact ZqH v _ hv
theorem ZhX(v:List Visit)(n:Int)(hv:VisOk v):Pure prog 157 [L v,I n] (L (yV v n)):=by
 have t:=hv.n;have hm:min (max n 0) 64=(((min (max n 0) 64).toNat:Nat):Int):=DO
 have f:(min (max n 0) 64).toNat<=64:=DO
 refine zx func157 ntmps157 results157 λS nx g=>?_
 refine DY ?_;refine DY ?_;refine zv (X2 n 0 64) ?_;refine⟨by omega,λv1=>?_⟩;generalize c:(min (max n 0) 64).toNat=m at hm f;have r:=ZqE n;rw[c]at r
 repeat apply ze
 refine zg ?_;refine zn (zK (λs:Nat=>s<=v.length) (λk=>[(5,.sl nx v1 1 0 m),(11,L v),(12,I v.length),(13,I k)]) (λk=>[.cells v1 3 ((yV (v.take k) n).flatMap Enc.enc)]) (λs=>v.length-s) 0 [] DP (by simp[c]) (by simp[r,c,Zcr]) ?_);rintro k hk;have a:=ZaY (v.take k) n;rw[c]at a;refine DY ?_;refine ze (zA rfl (λhc=>?_) (λhc=>?_))
 ·simp at hc;obtain⟨s,tl,u,a2,a3,_,w⟩:=el 2 rfl v k hc;have j:=Ab u;have y:=hv.q s j;have e:=ZqF (v.take k) n s;rw[c]at e;refine zk (ze (zn (ze (zi [] (zq w hc) ?_))));intro v2
  by_cases h1:0<=s.d
  ·by_cases h2:s.d<(m:Int)
   ·obtain⟨d,g⟩:=Ay h1;have h:d<m:=DO
    obtain⟨b,z,b1,b2,b3,e2⟩:=zN rfl (yV (v.take k) n) d DO;have a0:=ZqI (λx hx=>hv.q x (BA hx)) n b (Ab b1);have a4:(v.take k).length<=1048576:=DT
    have l:=ZqG (v.take k) n s d g b b1;have o:=Zat (yV (v.take k) n) d (b+s.q) DO;have i:w8 b s.q=b+s.q:=by unfold w8;rw[if_neg DO,if_neg DO]
    have p:((yV (v.take k) n).flatMap Enc.enc).length=m:=by rw[jL,a]
    refine ze (zi [(3,20)] (zq h1 h2) ?_);refine zo rfl (zD (some [nx+1]) (Row.pures [0,1,2,3,4,5,6,8,9] (.alt 7 (Row.pures [10,11] (.alt 12 (.done) .stop)) .stop)) mixed (zS g h e2 a) ?_);refine zO (ZaX b s.q (by unfold zT;omega) (by unfold zT;omega)) (yr i o a h g) ?_;refine⟨by omega,?_⟩;refine zg ?_;exact zu (k+1) [_] hc DO (by simp[zy k (by omega)]) rfl (by rw[a3,l];rfl)
   ·refine ze (zi [(3,20)] (zq h1 h2) ?_);refine zp rfl (zk (zg ?_));exact zu (k+1) [_] hc DO (by simp[zy k (by omega)]) rfl (by rw[a3,e (by omega)];rfl)
  ·refine ze (zi [(3,20)] (zq h1 zB) ?_);refine zp rfl (zk (zg ?_));exact zu (k+1) [_] hc DO (by simp[zy k (by omega)]) rfl (by rw[a3,e (by omega)];rfl)
 ·simp at hc;obtain rfl:k=v.length:=DO
  rw[Ai]at a ⊢;refine zC (DY ?_);refine yh 0 rfl ?_;exact zj (zm g DQ (by simp[a,zr]))
open Go
theorem ZqJ{size rate:Int}:∀{q:List Int} {there:Int} {l:List Int},xG size rate there q=some l->l.length=q.length:=by
 intro q
 induction q with
 | nil=>intro there l h;simp only[xG,Option.some.injEq]at h;subst h;rfl
 | cons z q a =>
  intro there l h;simp only[xG]at h;split at h
  ·cases h
  ·obtain⟨b,h2,rfl⟩:=Ap.1 h;simp[a h2]
open Go
theorem ZqK(n d:Nat):((n:Int).fdiv (2 ^ d))=((n / 2 ^ d:Nat):Int):=by
 have h:(2:Int) ^ d=((2 ^ d:Nat):Int):=DP
 rw[h,Int.fdiv_eq_ediv_of_nonneg _ (Int.natCast_nonneg _)];rfl
theorem ZqL(n:Nat)(d:Int)(hn:n<2 ^ 64):Pure prog 297 [U n,I d] (B (decide (0<=d/\d<64/\yL n d.toNat=1))):=by
 by_cases h:0<=d/\d<64
 ·have h1:¬d<0:=DO
  have h2:min d.toNat 64=d.toNat:=DO
  have g:n / 2 ^ d.toNat<=n:=Nat.div_le_self _ _;have h3:=ZqK n d.toNat;have hb:yL n d.toNat=n / 2 ^ d.toNat % 2:=rfl;generalize n / 2 ^ d.toNat=m at g h3 hb;have k:=and_one_u64 (m:Int) DO DO;have l:IntKind.u64.wrap (m:Int)=(m:Int):=by
   simp only[IntKind.wrap,IntKind.bits,IntKind.signed];simp;omega
  have o:((m:Int) % 2=1)=(yL n d.toNat=1):=by rw[hb];exact propext ⟨λq=>by omega,λq=>by omega⟩
  refine zx func297 ntmps297 results297 λS nx i=>?_
  refine DY ?_;refine ze (xL [(2,7)] DU DU λK Gc Gh j b c X a e=>?_);simp -implicitDefEqProofs [a,e]
  try clear a e X
  refine b _ _ _ _ _ _ _ λf=>((Zdv d _).mono ?_).v
  rintro _ _ ⟨rfl,rfl⟩;refine⟨_,_,rfl,?_⟩;clear b c;clear Gc Gh;refine wK f (D:=[(2,7)]) DU λGc Gh b c X a e=>?_
  simp -implicitDefEqProofs [a,e,h,h1,h2,h3,l,k,IntKind.bits]
  try clear a e X
  refine j _ _ _ ?_;clear j b c;clear K Gc Gh;exact zj (zm i DQ (by simp[h,zr,o]))
 ·refine zx func297 ntmps297 results297 λS nx i=>?_
  refine DY ?_;refine ze (zi [(2,7)] trivial ?_);refine yW [(2,7)] (Zdv d) (zq h zB) ?_;have p:¬(0<=d/\d<64/\yL n d.toNat=1):=λq=>h ⟨q.1,q.2.1⟩
  exact zj (zm i DQ (by simp only[p,zr,decide_false]))
def yH(n a k:Nat):List Int:=((List.range k).filter λi=>decide (a<=i) && decide (yL n i=1)).map λ(i:Nat)=>(i:Int)
theorem Q5(n a k:Nat):(yH n a k).length<=k:=by
 simp only[yH,List.length_map];exact AF (BF _ _) DP
theorem ZhY(n a k:Nat)(h:a<=k):yH n a (k+1)=yH n a k++(if yL n k=1 then [(k:Int)] else []):=by
 simp only[yH,AO,B6,List.map_append]
 by_cases q:yL n k=1<;>simp[q,h]
theorem Zdy(n a k:Nat)(h:k<=a):yH n a k=[]:=by
 simp only[yH,List.map_eq_nil_iff,CN,AK];intro i hi;simp;omega
theorem ZhZ(n:Nat)(d:Int)(hn:n<2 ^ 64)(i:d<=1000):Pure prog 296 [.fn (.func 297) [U n] [],I d] (L (yH n d.toNat 64)):=by
 have b:jy d 0=((d.toNat:Nat):Int):=by unfold jy;split<;>omega
 have c:yH n d.toNat (max d.toNat 64)=yH n d.toNat 64:=by
  by_cases q:d.toNat<=64
  ·rw[Nat.max_eq_right q]
  ·rw[Nat.max_eq_left DO,Zdy _ _ _ (Ag _),Zdy _ _ _ DO]
 have h:d.toNat<=1000:=DO
 have e:∀a:Nat,a<=1000->yH n a (max a 64)=yH n d.toNat 64->jy d 0=(a:Int)->Pure prog 296 [.fn (.func 297) [U n] [],I d] (L (yH n d.toNat 64)):=by
  intro a h c b;refine zx func296 ntmps296 results296 λS nx j=>?_
  refine DY ?_;refine DY ?_;refine ze (q9 5 3 1 rfl λv1=>?_);refine ze (zi [] b ?_);refine zn (zK (λs:Nat × List Int × Nat=>a<=s.1/\s.1<=max a 64/\s.2.1=yH n a s.1) (λ(k,out,v1)=>[(0,.fn (.func 297) [U n] []),(5,.sl nx v1 1 0 out.length),(6,I k)]) (λ(k,out,v1)=>[.cells v1 3 (out.flatMap Enc.enc)]) (λs=>max a 64-s.1) (a,[],v1) [] (by simp[Zdy];omega) DP DP ?_);rintro⟨k,out,v1⟩ ⟨f,l,ho⟩;simp only at f l ho ⊢;have m:out.length<=k:=by rw[ho];exact Q5 _ _ _
  repeat apply ze
  refine zg ?_;refine zA rfl (λhc=>?_) (λhc=>?_)
  ·simp at hc;have o:k<64:=DO
   refine zk (ze (zn (DY ?_)));refine zv (ZqL n k hn) ?_;have hs:=ZhY n a k f;refine zA rfl (λhb=>?_) (λhb=>?_)
   ·simp at hb;refine zg ?_;refine⟨by omega,?_⟩;refine zg ?_;exact zu (k+1,out++[(k:Int)],v1+1) [] ⟨by omega,by omega,by rw[hs,if_pos hb.2,ho]⟩ DT (by simp[zy k (by omega)]) rfl DP
   ·have g:¬yL n k=1:=by simp at hb;exact hb DO
    refine zk (zg ?_);exact zu (k+1,out,v1) [] ⟨by omega,by omega,by rw[hs,if_neg g,ho];simp⟩ DT (by simp[zy k (by omega)]) rfl DP
  ·simp at hc;obtain rfl:k=max a 64:=DO
   refine zC (DY ?_);refine yh 0 rfl ?_;exact zj (zm j DQ (by simp[ho,c,zr]))
 exact e d.toNat h c b
def w9(n:Nat)(d:Int):Int:=(yH n d.toNat 64).headD (-1)
theorem ZqM(n:Nat)(d:Int)(hn:n<2 ^ 64)(c:d<=1000):Pure prog 261 [U n,I d] (I (w9 n d)):=by
 have b:=Q5 n d.toNat 64;refine zx func261 ntmps261 results261 λS nx e=>?_
 refine DY ?_;refine DY ?_;refine zv (ZhZ n d hn c) ?_;unfold w9;generalize yH n d.toNat 64=l at b ⊢;cases l with
 | nil =>
  repeat apply ze
  refine zg ?_;refine zo rfl (DY ?_);exact DZ e
 | cons a l =>
  have h1:¬((l.length:Int)+1=0):=DO
  repeat apply ze
  refine zi [] h1 ?_;refine zp rfl (zk ?_);have h2:(0:Int)<(l.length:Int)+1:=DO
  refine ze (zi [] h2 ?_);exact DZ e
open Go
def zX(n lo hi:Int):Bool:=decide (lo<=n/\n<=hi)
theorem Zg(n lo hi:Int):Pure prog 145 [I n,I lo,I hi] (B (zX n lo hi)):=by
 refine zx func145 ntmps145 results145 λS nx a=>?_
 refine DY ?_
 by_cases h:lo<=n
 ·refine ze (zi [(3,10)] h ?_);exact zj (zm a DQ (by simp[zX,h,zr]))
 ·refine ze (zi [(3,10)] (zq h zB) ?_);exact zj (zm a DQ (by simp[zX,h,zr]))
abbrev Zh(c:Cust)(days:Int):List PV:=[I c.kind,I c.demand,L c.pats,I c.rate,I c.size,I c.start,I c.rule,I c.hold,I days]
def uh(c:Cust)(days:Int):Bool:=(c.pats.all λp=>decide (w9 p days<0)) && zX c.pats.length 1 64
def we(c:Cust):Bool:=decide (c.rate=0/\c.size=0/\c.start=0/\c.rule=0/\c.hold=0)
def ui(c:Cust):Bool:=decide (c.rule=1\/c.rule=2)
def uJ(c:Cust):Bool:=decide (c.pats.length=0/\c.demand=0)
theorem ZqN(c:Cust)(d:Int):Pure prog 227 [.agg (Zh c d)] (B (zX c.demand 1 2147483648)):=by
 refine zx func227 ntmps227 results227 λS nx a=>?_
 refine DY ?_;intro v0;refine DY ?_;refine zv (Zg _ _ _) ?_;exact DZ a
theorem ZqO(c:Cust)(d:Int):Pure prog 230 [.agg (Zh c d)] (B (zX c.rate 0 2147483648)):=by
 refine zx func230 ntmps230 results230 λS nx a=>?_
 refine DY ?_;intro v0;refine DY ?_;refine zv (Zg _ _ _) ?_;exact DZ a
theorem ZqP(c:Cust)(d:Int):Pure prog 231 [.agg (Zh c d)] (B (zX c.size 1 2147483648)):=by
 refine zx func231 ntmps231 results231 λS nx a=>?_
 refine DY ?_;intro v0;refine DY ?_;refine zv (Zg _ _ _) ?_;exact DZ a
theorem ZqQ(c:Cust)(d:Int):Pure prog 232 [.agg (Zh c d)] (B (zX c.start 0 c.size)):=by
 refine zx func232 ntmps232 results232 λS nx a=>?_
 refine DY ?_;intro v0;refine DY ?_;refine zv (Zg _ _ _) ?_;exact DZ a
theorem ZqR(c:Cust)(d:Int):Pure prog 234 [.agg (Zh c d)] (B (zX c.hold 0 1024)):=by
 refine zx func234 ntmps234 results234 λS nx a=>?_
 refine DY ?_;intro v0;refine DY ?_;refine zv (Zg _ _ _) ?_;exact DZ a
theorem ZqS(c:Cust)(d:Int):Pure prog 233 [.agg (Zh c d)] (B (ui c)):=by
 refine zx func233 ntmps233 results233 λS nx a=>?_
 refine DY ?_;intro v0
 by_cases h:c.rule=1
 ·refine ze (zi [(4,7)] (zq h zB) ?_);exact zj (zm a DQ (by simp[ui,h,zr]))
 ·refine ze (zi [(4,7)] h ?_);exact zj (zm a DQ (by simp[ui,h,zr]))
theorem ZqT(c:Cust)(d:Int):Pure prog 235 [.agg (Zh c d)] (B (uJ c)):=by
 refine zx func235 ntmps235 results235 λS nx a=>?_
 refine DY ?_;intro v0
 by_cases h:c.pats=[]
 ·refine ze (zi [(5,8)] h ?_);exact zj (zm a DQ (by simp[uJ,h,zr]))
 ·refine ze (zi [(5,8)] (zq h zB) ?_);exact zj (zm a DQ (by simp[uJ,h,zr]))
theorem ZqU(c:Cust)(d:Int):Pure prog 229 [.agg (Zh c d)] (B (we c)):=by
 refine zx func229 ntmps229 results229 λS nx a=>?_
 refine DY ?_;intro v0
 by_cases h1:c.rate=0
 ·by_cases h2:c.size=0
  ·by_cases h3:c.start=0
   ·by_cases b:c.rule=0
    ·refine ze (zi [(4,7),(10,13),(16,19),(22,25)] (zS h1 h2 h3 b) ?_);exact zj (zm a DQ (by simp[we,h1,h2,h3,b,zr]))
    ·refine ze (zi [(4,7),(10,13),(16,19),(22,25)] (yr h1 h2 h3 b zB) ?_);exact zj (zm a DQ (by simp[we,b,zr]))
   ·refine ze (zi [(4,7),(10,13),(16,19),(22,25)] (zS h1 h2 h3 zB) ?_);exact zj (zm a DQ (by simp[we,h3,zr]))
  ·refine ze (zi [(4,7),(10,13),(16,19),(22,25)] (zF h1 h2 zB) ?_);exact zj (zm a DQ (by simp[we,h2,zr]))
 ·refine ze (zi [(4,7),(10,13),(16,19),(22,25)] (zq h1 zB) ?_);exact zj (zm a DQ (by simp[we,h1,zr]))
theorem ZqV(c:Cust)(d:Int)(f:∀p∈c.pats,p<2 ^ 64)(hl:c.pats.length<=9223372036854775807)(g:d<=1000):Pure prog 228 [.agg (Zh c d)] (B (uh c d)):=by
 refine zx func228 ntmps228 results228 λS nx i=>?_
 refine DY ?_;intro v0
 repeat apply ze
 refine zg ?_;refine zn (zK (λs:Nat=>s<=c.pats.length/\∀p∈c.pats.take s,w9 p d<0) (λk=>[(1,.ptr nx v0 0),(7,L c.pats),(8,I c.pats.length),(9,I k)]) (λk=>[.cells v0 207 (Zh c d)]) (λs=>c.pats.length-s) 0 [] DP DP DP ?_);rintro k ⟨j,ho⟩;simp only at j ho ⊢;refine DY ?_;refine ze (zA rfl (λhc=>?_) (λhc=>?_))
 ·simp at hc;obtain⟨p,tl,l,n,a3,m⟩:=zN rfl c.pats k hc;have b:=Ab l;refine zk (ze (zn (ze (zi [] (zq m hc) ?_))));refine DY ?_;refine zv (ZqM p d (f p b) g) ?_;refine zA rfl (λh=>?_) (λh=>?_)
  ·simp at h;have a:uh c d=false:=by
    have:(c.pats.all λp=>decide (w9 p d<0))=false:=by
     rw[Bm];exact⟨p,b,by simp;omega⟩
    simp[uh,this]
   refine DY ?_;exact zj (zm i DQ (by simp[a,zr]))
  ·simp at h;refine zk (zg ?_);exact zu (k+1) [] ⟨hc,by rw[a3];intro q e;rcases AB.1 e with e | e;exact ho q e;rw[AU.1 e];exact h⟩ DO (by simp[zy k (by omega)]) rfl DP
 ·simp at hc;obtain rfl:k=c.pats.length:=DO
  rw[Ai]at ho;have a:uh c d=zX c.pats.length 1 64:=by
   have:(c.pats.all λp=>decide (w9 p d<0))=true:=by
    rw[Aw];intro p f;simpa using ho p f
   simp[uh,this]
  refine zC (DY ?_);refine zv (Zg _ _ _) ?_;exact zj (zm i DQ (by simp[a,zr]))
structure Must where
 f:FuncId
 b:Bool
instance:Enc Must:=⟨λm=>[.fn (.func m.f) [] []],1,λ_=>rfl,λ_=>rfl⟩
@[simp] theorem ZzX(m:Must):Enc.enc m=[.fn (.func m.f) [] []]:=rfl
@[simp high] theorem ZzY(l:List Must):(l.flatMap Enc.enc).length=l.length:=(js l).trans (BO _)
def YE(c:Cust)(d:Int)(k:Int):List Must :=
 if k=1 then [⟨227,zX c.demand 1 2147483648⟩,⟨228,uh c d⟩,⟨229,we c⟩]
 else if k=2 then [⟨230,zX c.rate 0 2147483648⟩,⟨231,zX c.size 1 2147483648⟩,⟨232,zX c.start 0 c.size⟩,
  ⟨233,ui c⟩,⟨234,zX c.hold 0 1024⟩,⟨235,uJ c⟩]
 else []
theorem ZqW(c:Cust)(d k:Int):Pure prog 193 [I k] (L (YE c d k)):=by
 refine zx func193 ntmps193 results193 λS nx a=>?_
 refine DY ?_
 repeat apply ze
 refine zg ?_;refine zn (DY ?_);refine zA rfl (λh=>?_) (λh=>?_)
 ·simp at h;subst h;refine DY ?_;exact DZ a
 ·simp at h;refine DY ?_;refine zA rfl (λh2=>?_) (λh2=>?_)
  ·simp at h2;subst h2;refine DY ?_;exact DZ a
  ·simp at h2;refine zk (DY ?_);refine Yp 2 rfl ?_;exact zj (zm a DQ (by simp[YE,h,h2,zr]))
theorem ZqX(c:Cust)(d:Int)(e:∀p∈c.pats,p<2 ^ 64)(hl:c.pats.length<=9223372036854775807)(a:d<=1000):∀m∈YE c d c.kind,Pure prog m.f [.agg (Zh c d)] (B m.b):=by
 intro m hm;unfold YE at hm;split at hm
 ·simp only[Au,A9,or_false]at hm;rcases hm with rfl | rfl | rfl
  ·exact ZqN c d
  ·exact ZqV c d e hl a
  ·exact ZqU c d
 ·split at hm
  ·simp only[Au,A9,or_false]at hm;rcases hm with rfl | rfl | rfl | rfl | rfl | rfl
   ·exact ZqO c d
   ·exact ZqP c d
   ·exact ZqQ c d
   ·exact ZqS c d
   ·exact ZqR c d
   ·exact ZqT c d
  ·cases hm
def j7(c:Cust)(d:Int):Bool :=
 if c.kind=1 then (zX c.demand 1 2147483648 && uh c d && we c)
 else if c.kind=2 then (zX c.rate 0 2147483648 && zX c.size 1 2147483648 && zX c.start 0 c.size && ui c && zX c.hold 0 1024 && uJ c) else false
theorem ZqY(c:Cust)(d:Int):j7 c d=((YE c d c.kind).all (·.b) && decide (0<(YE c d c.kind).length)):=by
 unfold j7 YE;split
 ·simp[Bool.and_assoc]
 ·split
  ·simp[Bool.and_assoc]
  ·simp
theorem ZqZ(c:Cust)(d:Int)(j:∀p∈c.pats,p<2 ^ 64)(hl:c.pats.length<=9223372036854775807)(g:d<=1000):Pure prog 146 [.agg (Zh c d)] (B (j7 c d)):=by
 have a:=ZqX c d j hl g;have e:=ZqW c d c.kind;have h:(YE c d c.kind).length<=6:=by unfold YE;split;simp;split<;>simp
 rw[ZqY];generalize YE c d c.kind=ms at a e h ⊢;refine zx func146 ntmps146 results146 λS nx i=>?_
 refine DY ?_;intro v0;refine DY ?_;refine zv e ?_
 repeat apply ze
 refine zg ?_;refine zn (zK (λs:Nat=>s<=ms.length/\(ms.take s).all (·.b)=true) (λk=>[(1,.ptr nx v0 0),(3,L ms),(10,L ms),(11,I ms.length),(12,I k)]) (λk=>[.cells v0 207 (Zh c d)]) (λs=>ms.length-s) 0 [] DP DP DP ?_);rintro k ⟨l,ho⟩;simp only at l ho ⊢;refine DY ?_;refine ze (zA rfl (λhc=>?_) (λhc=>?_))
 ·simp at hc;obtain⟨m,tl,n,q,a3,o⟩:=zN rfl ms k hc;have hm:=Ab n;refine zk (ze (zn (ze (zi [] (zq o hc) ?_))));refine DY ?_;refine zv (a m hm) ?_;cases hb:m.b with
  | false =>
   have f:ms.all (·.b)=false:=by rw[Bm];exact⟨m,hm,by simp[hb]⟩
   refine zo rfl (DY ?_);exact zj (zm i DQ (by simp only[f,zr,Cu]))
  | true =>
   refine zp rfl (zk (zg ?_));exact zu (k+1) [] ⟨hc,by rw[a3,BD,ho];simp[hb]⟩ DO (by simp[zy k (by omega)]) rfl DP
 ·simp at hc;obtain rfl:k=ms.length:=DO
  rw[Ai]at ho;refine zC (DY ?_);exact zj (zm i DQ (by simp[ho,zr]))
open Go
def vf(n:Nat):Nat->List (List Int)->Bool
 | _,[]=>true
 | a,row :: l=>(decide (row.length=n) && decide (row.getD a 0=0) && row.all (zX · 0 2147483648)) && vf n (a+1) l
def Zi(l:List (List Int))(n:Nat):Bool:=decide (l.length=n) && vf n 0 l
def yS(x:Inst):Bool :=
 zX x.days 1 64 && decide (x.cust.length<=2000) && zX x.veh 0 2147483648 && zX x.cap 0 2147483648 && zX x.len 0 2147483648 && x.cust.all (j7 · x.days) && Zi x.dist (x.cust.length+1)
theorem Zq0(l:List (List Int))(n:Nat)(hn:n<=1048576)(hl:l.length<=9223372036854775807)(t:∀r∈l,r.length<=9223372036854775807):Pure prog 147 [L l,I n] (B (Zi l n)):=by
 refine zx func147 ntmps147 results147 λS nx g=>?_
 refine DY ?_
 by_cases h:l.length=n
 ·have h1:((l.length:Int)=n):=DO
  repeat apply ze
  refine zi [] h1 ?_;refine zp DP ?_;refine zk ?_
  repeat apply ze
  refine zg ?_;refine zn (zK (λs:Nat=>s<=l.length/\vf n 0 l=vf n s (l.drop s)) (λk=>[(0,L l),(1,I n),(13,L l),(14,I l.length),(15,I k)]) (λk=>[]) (λs=>l.length-s) 0 [] DP (by simp[h1]) DP ?_);rintro k ⟨u,ho⟩;simp only at u ho ⊢;refine DY ?_;refine ze (zA rfl (λhc=>?_) (λhc=>?_))
  ·simp at hc;obtain⟨row,tl,v,w,a3,x⟩:=zN rfl l k hc;have y:=t row (Ab v);rw[w]at ho;simp only[vf]at ho;refine zk (ze (zn (ze (zi [] (zq x hc) ?_))));have bad:(row.length=n/\row.getD k 0=0->row.all (zX · 0 2147483648)=false)->Zi l n=false:=by
    intro q;simp only[Zi,ho]
    by_cases o:row.length=n
    ·by_cases p:row.getD k 0=0
     ·rw[q ⟨o,p⟩];simp
     ·simp only[p,decide_false,CA,Cu]
    ·simp only[o,decide_false,CA,Cu]
   by_cases h2:row.length=n
   ·have c:((row.length:Int)=n):=DO
    have h3:k<n:=DO
    obtain⟨d,z,b1,b2,b3,e2⟩:=zN rfl row k DO;have i:row.getD k 0=d:=by rw[Aa,b1];rfl
    by_cases m:d=0
    ·repeat apply ze
     refine zi [(4,24)] (zS c h3 e2 m) ?_;refine zp DP ?_;refine zk (DY ?_);refine zn (zK (λs:Nat=>s<=row.length/\(row.take s).all (zX · 0 2147483648)=true) (λj=>[(0,L l),(1,I n),(13,L l),(14,I l.length),(15,I k),(31,L row),(32,I row.length),(33,I j)]) (λk=>[]) (λs=>row.length-s) 0 [] DP (by simp[h1,c]) DP ?_);rintro j ⟨hj,f⟩
     try simp only at hj f ⊢
     refine DY ?_;refine ze (zA rfl (λb=>?_) (λb=>?_))
     ·simp at b;obtain⟨e,a0,c1,c2,c3,e3⟩:=zN rfl row j b;refine zk (ze (zn (ze (zi [] (zq e3 b) ?_))));refine DY ?_;refine zv (Zg _ _ _) ?_;cases hb:zX e 0 2147483648 with
      | false =>
       have a:=bad (λ_=>by rw[Bm];exact⟨e,Ab c1,by simp[hb]⟩);refine zo rfl (DY ?_);exact zj (zm g DQ (by simp only[a,zr]))
      | true =>
       refine zp rfl (zk (zg ?_));exact zu (j+1) [] ⟨b,by rw[c3,BD,f];simp[hb]⟩ DO (by simp[zy j (by omega)]) rfl DP
     ·simp at b;obtain rfl:j=row.length:=DO
      rw[Ai]at f;refine zC (zg ?_);exact zu (k+1) [] ⟨hc,by rw[ho,f,i];simp[h2,m]⟩ DO (by simp[zy k (by omega)]) rfl DP
    ·have a:=bad (λq=>absurd (i.symm.trans q.2) m)
     repeat apply ze
     refine zi [(4,24)] (zS c h3 e2 m) ?_;refine zo (by simp[m]) ?_;refine DY ?_;exact zj (zm g DQ (by simp only[a,zr]))
   ·have a:=bad (λq=>absurd q.1 h2);have c:((row.length:Int) != (n:Int))=true:=DT
    repeat apply ze
    refine zi [(4,24)] (zq c zB) ?_;refine zo DP ?_;refine DY ?_;exact zj (zm g DQ (by simp only[a,zr]))
  ·simp at hc;obtain rfl:k=l.length:=DO
   simp only[BN,vf]at ho;refine zC (DY ?_);exact zj (zm g DQ (by simp[Zi,h,ho,zr]))
 ·have h1:¬((l.length:Int)=n):=DO
  repeat apply ze
  refine zi [] h1 ?_;refine zo (by simp[h1]) ?_;refine DY ?_;exact zj (zm g DQ (by simp[Zi,h,zr]))
theorem Zh0(x:Inst)(hx:InstOk x):Pure prog 108 [.agg (zE x)] (I (if yS x=true then 0 else 3)):=by
 have i:=hx.ncust;refine zx func108 ntmps108 results108 λS nx b=>?_
 refine DY ?_;intro v0
 by_cases a:zX x.days 1 64=true
 ·have j:1<=x.days/\x.days<=64:=by simpa[zX] using a
  by_cases d:(2000:Int)<x.cust.length
  ·repeat apply ze
   refine zi [(4,11)] trivial ?_;refine yW [(4,11)] (Zg _ _ _) (zq a d) ?_;refine zo DP ?_;refine DY ?_;exact zj (zm b DQ (by simp[yS,show ¬x.cust.length<=2000 by omega,zr]))
  ·repeat apply ze
   refine zi [(4,11)] trivial ?_;refine yW [(4,11)] (Zg _ _ _) (zq a d) ?_;refine zp DP ?_;refine zk ?_
   repeat apply ze
   refine zg ?_;refine zn (zK (λs:Nat=>s<=3/\(1<=s->zX x.veh 0 2147483648=true)/\(2<=s->zX x.cap 0 2147483648=true)/\(3<=s->zX x.len 0 2147483648=true)) (λk=>[(1,.ptr nx v0 0),(23,.lst 3 [I x.veh,I x.cap,I x.len]),(24,I 3),(25,I k)]) (λk=>[.cells v0 25 (zE x)]) (λs=>3-s) 0 [] DP DP DP ?_);rintro k ⟨h,i1,i2,i3⟩;simp only at h i1 i2 i3 ⊢
   match k,h with
   | 0,_ =>
    refine DY ?_;refine ze (zo rfl (zk (ze (zn (DY ?_)))));refine DY ?_;refine zv (Zg _ _ _) ?_;cases hb:zX x.veh 0 2147483648 with
    | false =>
     refine zo rfl (DY ?_);exact zj (zm b DQ (by simp[yS,hb,zr]))
    | true =>
     refine zp rfl (zk (zg ?_));exact zu 1 [] (by simp[hb]) DP DQ rfl DP
   | 1,_ =>
    refine DY ?_;refine ze (zo rfl (zk (ze (zn (DY ?_)))));refine DY ?_;refine zv (Zg _ _ _) ?_;cases hb:zX x.cap 0 2147483648 with
    | false =>
     refine zo rfl (DY ?_);exact zj (zm b DQ (by simp[yS,hb,zr]))
    | true =>
     refine zp rfl (zk (zg ?_));exact zu 2 [] (by simp[hb,i1 (by omega)]) DP DQ rfl DP
   | 2,_ =>
    refine DY ?_;refine ze (zo rfl (zk (ze (zn (DY ?_)))));refine DY ?_;refine zv (Zg _ _ _) ?_;cases hb:zX x.len 0 2147483648 with
    | false =>
     refine zo rfl (DY ?_);exact zj (zm b DQ (by simp[yS,hb,zr]))
    | true =>
     refine zp rfl (zk (zg ?_));exact zu 3 [] (by simp[hb,i1 (by omega),i2 (by omega)]) DP DQ rfl DP
   | 3,_ =>
    have l:=i1 DO;have m:=i2 DO;have n:=i3 DO;refine DY ?_;refine ze (zp rfl (zC ?_))
    repeat apply ze
    refine zg ?_;refine zn (zK (λs:Nat=>s<=x.cust.length/\(x.cust.take s).all (j7 · x.days)=true) (λk=>[(1,.ptr nx v0 0),(34,L x.cust),(35,I x.cust.length),(36,I k)]) (λk=>[.cells v0 25 (zE x)]) (λs=>x.cust.length-s) 0 [] DP DP DP ?_);rintro k ⟨h,ho⟩
    try simp only at h ho ⊢
    refine DY ?_;refine ze (zA rfl (λhc=>?_) (λhc=>?_))
    ·simp at hc;obtain⟨c,tl,o,u,a3,_,p⟩:=el 8 rfl x.cust k hc;have e:=Ab o;have f:=hx.cust c e;refine zk (ze (zn (ze (zi [] (zq p hc) ?_))));intro v1;refine DY ?_;refine zv (ZqZ c x.days f.pats f.npats DO) ?_;cases hb:j7 c x.days with
     | false =>
      have g:x.cust.all (j7 · x.days)=false:=by rw[Bm];exact⟨c,e,by simp[hb]⟩
      refine zo rfl (DY ?_);exact zj (zm b DQ (by simp[yS,g,zr]))
     | true =>
      refine zp rfl (zk (zg ?_));exact zu (k+1) [_] ⟨hc,by rw[a3,BD,ho];simp[hb]⟩ DO (by simp[zy k (by omega)]) rfl rfl
    ·simp at hc;obtain rfl:k=x.cust.length:=DO
     rw[Ai]at ho;have q:=zy x.cust.length DO;refine zC ?_
     repeat apply ze
     refine zi [] q ?_;refine zv (Zq0 x.dist (x.cust.length+1) DO hx.ndist (λr t=>(hx.dist r t).1)) ?_;cases hb:Zi x.dist (x.cust.length+1) with
     | false =>
      refine zo rfl (DY ?_);exact zj (zm b DQ (by simp[yS,hb,zr]))
     | true =>
      refine zp rfl (zk (DY ?_));exact zj (zm b DQ (by simp[yS,hb,a,l,m,n,ho,show x.cust.length<=2000 by omega,zr]))
 ·repeat apply ze
  refine zi [(4,11)] trivial ?_;refine yW [(4,11)] (Zg _ _ _) (zq a zB) ?_;refine zo DP ?_;refine DY ?_;exact zj (zm b DQ (by simp[yS,a,zr]))
open Go
theorem Zq1(n:Nat)(hn:n<2 ^ 64):Pure prog 187 [U n] (L (yH n 0 64)):=by
 have hl:=QN n;refine zx func187 ntmps187 results187 λS nx e=>?_
 refine DY ?_;refine DY ?_;refine ze (q9 3 3 1 rfl λv1=>?_);refine zg ?_;refine zv (Zcs n hn) ?_
 repeat apply ze
 refine zg ?_;refine zn (zK (λs:Nat × List Int × Nat=>s.1<=64/\s.2.1=yH n 0 s.1) (λ(k,out,v1)=>[(3,.sl nx v1 1 0 out.length),(4,L (qh n)),(5,I k)]) (λ(k,out,v1)=>[.cells v1 3 (out.flatMap Enc.enc)]) (λs=>64-s.1) (0,[],v1) [] (by simp[yH]) DP DP ?_);rintro⟨k,out,v1⟩ ⟨f,ho⟩;simp only at f ho ⊢;have g:out.length<=k:=by rw[ho];exact Q5 _ _ _
 have hs:=ZhY n 0 k DO
 repeat apply ze
 refine zg ?_;refine zA rfl (λhc=>?_) (λhc=>?_)
 ·simp at hc;have c:k<64:=DO
  obtain⟨b,tl,d,i,a3,h⟩:=zN rfl (qh n) k DO;rw[Zct n k c]at d;cases d;have g1:(k:Int)<64:=DO
  refine zk (ze (zn (ze (zi [] (zF h hl g1) ?_))));refine zA rfl (λhb=>?_) (λhb=>?_)
  ·have a:yL n k=1:=by simp at hb;omega
   refine zg ?_;refine⟨by omega,?_⟩;refine zg ?_;exact zu (k+1,out++[(k:Int)],v1+1) [] ⟨by omega,by rw[hs,if_pos a,ho]⟩ DT (by simp[zy k (by omega)]) rfl DP
  ·have a:¬yL n k=1:=by simp at hb;omega
   refine zk (zg ?_);exact zu (k+1,out,v1) [] ⟨by omega,by rw[hs,if_neg a,ho];simp⟩ DT (by simp[zy k (by omega)]) rfl DP
 ·simp at hc;obtain rfl:k=64:=DO
  refine zC (DY ?_);refine yh 0 rfl ?_;exact zj (zm e DQ (by simp[ho,zr]))
theorem Zdz(n:Nat)(d:Int):yH n d.toNat 64=(yH n 0 64).filter λx=>decide (d<=x):=by
 simp only[yH,List.filter_map,List.filter_filter,Cj,decide_true,CJ];congr 1;apply List.filter_congr;intro i _;have:(d.toNat<=i)=(d<=(i:Int)):=propext ⟨λh=>by omega,λh=>by omega⟩;simp only[Function.comp,this]
theorem Zq2(n:Nat)(d:Int)(hn:n<2 ^ 64):Pure prog 132 [U n,I d] (I (w9 n d)):=by
 have c:=Q5 n 0 64;have b:w9 n d=((yH n 0 64).filter λx=>decide (d<=x)).headD (-1):=by rw[w9,Zdz]
 have a:=Zq1 n hn;generalize yH n 0 64=l at c b a;refine zx func132 ntmps132 results132 λS nx f=>?_
 refine DY ?_;refine DY ?_;refine zv a ?_
 repeat apply ze
 refine zg ?_;refine zn (zK (λs:Nat=>s<=l.length/\w9 n d=((l.drop s).filter λx=>decide (d<=x)).headD (-1)) (λk=>[(1,I d),(5,L l),(6,I k)]) (λ_=>[]) (λs=>l.length-s) 0 [] (by simp[b]) DP DP ?_);rintro k ⟨j,ho⟩
 repeat apply ze
 refine zg ?_;refine zA rfl (λhc=>?_) (λhc=>?_)
 ·simp at hc;obtain⟨e,tl,m,i,a3,g⟩:=zN rfl l k hc;rw[i]at ho;refine zk (ze (zn (ze (zi [] (zq g hc) ?_))));refine zA rfl (λh=>?_) (λh=>?_)
  ·simp at h;refine ze (zi [] (zq g hc) ?_);exact zj (zm f DQ (by rw[ho];simp[h,zr]))
  ·simp at h;refine zk (zg ?_);exact zu (k+1) [] ⟨hc,by rw[ho];simp[h]⟩ DO (by simp[zy k (by omega)]) rfl DP
 ·simp at hc;obtain rfl:k=l.length:=DO
  rw[BN]at ho;refine zC (DY ?_);exact zj (zm f DQ (by rw[ho];rfl))
theorem ZdA(c:Cust)(d:Int)(h:c.kind=1):j7 c d=(zX c.demand 1 2147483648 && uh c d && we c):=by simp[j7,h]
theorem ZdB(c:Cust)(d:Int)(h:c.kind=2):j7 c d=(zX c.rate 0 2147483648 && zX c.size 1 2147483648 && zX c.start 0 c.size && ui c && zX c.hold 0 1024 && uJ c):=by simp[j7,h]
theorem Zh1(c:Cust)(d:Int)(h:¬c.kind=1)(h2:¬c.kind=2):j7 c d=false:=by simp[j7,h,h2]
theorem Zq3(c:Cust)(d:Int)(x:∀p∈c.pats,p<2 ^ 64)(hl:c.pats.length<=9223372036854775807):Pure prog 93 [.agg (yi c),I d] (B (j7 c d)):=by
 refine zx func93 ntmps93 results93 λS nx a=>?_
 refine DY ?_;intro v0
 repeat apply ze
 refine zg ?_;refine zA rfl (λj=>?_) (λj=>?_)
 ·simp at j;rw[ZdA c d j]
  by_cases h1:c.demand<1
  ·repeat apply ze
   refine zi [(3,12),(8,17),(14,23),(20,29),(25,34),(30,39),(35,44),(40,49)] (zq h1 zB) ?_;refine zo rfl (DY ?_);exact zj (zm a rfl (by simp only[zX,show ¬(1<=c.demand/\c.demand<=2147483648) by omega];rfl))
  by_cases h2:(2147483648:Int)<c.demand
  ·repeat apply ze
   refine zi [(3,12),(8,17),(14,23),(20,29),(25,34),(30,39),(35,44),(40,49)] (zF h2 h1 zB) ?_;refine zo rfl (DY ?_);exact zj (zm a rfl (by simp only[zX,show ¬(1<=c.demand/\c.demand<=2147483648) by omega];rfl))
  by_cases h3:c.pats=[]
  ·repeat apply ze
   refine zi [(3,12),(8,17),(14,23),(20,29),(25,34),(30,39),(35,44),(40,49)] (zS h3 h1 h2 zB) ?_;refine zo rfl (DY ?_);exact zj (zm a rfl (by simp[uh,h3,zX,zr]))
  have b:¬(c.pats.length:Int)<1:=by have:=Bs.2 h3;omega
  by_cases e:(64:Int)<(c.pats.length:Int)
  ·repeat apply ze
   refine zi [(3,12),(8,17),(14,23),(20,29),(25,34),(30,39),(35,44),(40,49)] (zW e h1 h2 h3 b zB) ?_;refine zo rfl (DY ?_);exact zj (zm a rfl (by simp[uh,zX,zr,show ¬((c.pats.length:Int)<=64) by omega]))
  by_cases f:c.rate=0
  case neg =>
   repeat apply ze
   refine zi [(3,12),(8,17),(14,23),(20,29),(25,34),(30,39),(35,44),(40,49)] (zW f h1 h2 h3 b (zq e zB)) ?_;refine zo rfl (DY ?_);exact zj (zm a rfl (by simp[we,f,zr]))
  by_cases i:c.size=0
  case neg =>
   repeat apply ze
   refine zi [(3,12),(8,17),(14,23),(20,29),(25,34),(30,39),(35,44),(40,49)] (zW i h1 h2 h3 b (zF e f zB)) ?_;refine zo rfl (DY ?_);exact zj (zm a rfl (by simp[we,i,zr]))
  by_cases m:c.start=0
  case neg =>
   repeat apply ze
   refine zi [(3,12),(8,17),(14,23),(20,29),(25,34),(30,39),(35,44),(40,49)] (zW m h1 h2 h3 b (zS e f i zB)) ?_;refine zo rfl (DY ?_);exact zj (zm a rfl (by simp[we,m,zr]))
  by_cases n:c.rule=0
  case neg =>
   repeat apply ze
   refine zi [(3,12),(8,17),(14,23),(20,29),(25,34),(30,39),(35,44),(40,49)] (zW n h1 h2 h3 b (yr e f i m zB)) ?_;refine zo rfl (DY ?_);exact zj (zm a rfl (by simp[we,n,zr]))
  by_cases r:c.hold=0
  case neg =>
   repeat apply ze
   refine zi [(3,12),(8,17),(14,23),(20,29),(25,34),(30,39),(35,44),(40,49)] (zW r h1 h2 h3 b (zW e f i m n zB)) ?_;refine zo rfl (DY ?_);exact zj (zm a rfl (by simp[we,r,zr]))
  repeat apply ze
  refine zi [(3,12),(8,17),(14,23),(20,29),(25,34),(30,39),(35,44),(40,49)] (zW h1 h2 h3 b e (yr f i m n r)) ?_;refine zp rfl (zk ?_);have l:(zX c.demand 1 2147483648 && uh c d && we c)=c.pats.all λp=>decide (w9 p d<0):=by
   have t:zX c.demand 1 2147483648=true:=by simp[zX];omega
   have e2:zX c.pats.length 1 64=true:=by simp[zX];omega
   have u:we c=true:=by simp[we,f,i,m,n,r]
   rw[t,u,uh,e2];simp
  rw[l]
  repeat apply ze
  refine zg ?_;refine zn (zK (λs:Nat=>s<=c.pats.length/\(c.pats.take s).all (λp=>decide (w9 p d<0))=true) (λk=>[(1,I d),(2,.ptr nx v0 0),(5,I k)]) (λ_=>[.cells v0 87 (yi c)]) (λs=>c.pats.length-s) 0 [] DP DP DP ?_);rintro k ⟨hk,ho⟩
  repeat apply ze
  refine zg ?_;refine zA rfl (λhc=>?_) (λhc=>?_)
  ·simp at hc;obtain⟨p,tl,y,a2,a3,z⟩:=zN rfl c.pats k hc;have o:=Ab y;refine zk (ze (zn (ze (zi [] (zq z hc) ?_))));refine zv (Zq2 p d (x p o)) ?_;refine zA rfl (λh=>?_) (λh=>?_)
   ·simp at h;have v:(c.pats.all λp=>decide (w9 p d<0))=false:=by rw[Bm];exact⟨p,o,by simp;omega⟩
    refine DY ?_;exact zj (zm a DQ (by simp only[v,zr]))
   ·simp at h;refine zk (zg ?_);exact zu (k+1) [] ⟨hc,by rw[a3,BD,ho];simp[h]⟩ DO (by simp[zy k (by omega)]) rfl DP
  ·simp at hc;obtain rfl:k=c.pats.length:=DO
   rw[Ai]at ho;refine zC (DY ?_);exact zj (zm a DQ (by rw[ho];rfl))
 ·simp at j;refine zk ?_
  by_cases g:c.kind=2
  ·rw[ZdB c d g]
   by_cases h1:0<c.pats.length
   ·repeat apply ze
    refine zi [(3,72),(9,78)] (zF h1 g zB) ?_;refine zo rfl (DY ?_);exact zj (zm a rfl (by simp[uJ,List.ne_nil_of_length_pos h1,zr]))
   have w:c.pats=[]:=Av DO
   by_cases h2:c.demand=0
   case neg =>
    repeat apply ze
    refine zi [(3,72),(9,78)] (zS h2 g h1 zB) ?_;refine zo rfl (DY ?_);exact zj (zm a rfl (by simp[uJ,h2,zr]))
   repeat apply ze
   refine zi [(3,72),(9,78)] (zF g h1 h2) ?_;refine zp rfl (zk ?_)
   by_cases h3:c.rate<0
   ·repeat apply ze
    refine zi [(3,86),(8,91),(13,96),(18,101),(23,106)] (zq h3 zB) ?_;refine zo rfl (DY ?_);exact zj (zm a rfl (by simp only[zX,show ¬(0<=c.rate/\c.rate<=2147483648) by omega];rfl))
   by_cases e:(2147483648:Int)<c.rate
   ·repeat apply ze
    refine zi [(3,86),(8,91),(13,96),(18,101),(23,106)] (zF e h3 zB) ?_;refine zo rfl (DY ?_);exact zj (zm a rfl (by simp only[zX,show ¬(0<=c.rate/\c.rate<=2147483648) by omega];rfl))
   by_cases f:c.size<1
   ·repeat apply ze
    refine zi [(3,86),(8,91),(13,96),(18,101),(23,106)] (zS f h3 e zB) ?_;refine zo rfl (DY ?_);exact zj (zm a rfl (by simp[zX,zr,show ¬1<=c.size by omega]))
   by_cases i:(2147483648:Int)<c.size
   ·repeat apply ze
    refine zi [(3,86),(8,91),(13,96),(18,101),(23,106)] (yr i h3 e f zB) ?_;refine zo rfl (DY ?_);exact zj (zm a rfl (by simp[zX,zr,show ¬c.size<=2147483648 by omega]))
   by_cases m:c.start<0
   ·repeat apply ze
    refine zi [(3,86),(8,91),(13,96),(18,101),(23,106)] (zW m h3 e f i zB) ?_;refine zo rfl (DY ?_);exact zj (zm a rfl (by simp[zX,zr,show ¬0<=c.start by omega]))
   by_cases n:c.size<c.start
   ·repeat apply ze
    refine zi [(3,86),(8,91),(13,96),(18,101),(23,106)] (zW n h3 e f i (zq m zB)) ?_;refine zo rfl (DY ?_);exact zj (zm a rfl (by simp[zX,zr,show ¬c.start<=c.size by omega]))
   repeat apply ze
   refine zi [(3,86),(8,91),(13,96),(18,101),(23,106)] (zW h3 e f i m n) ?_;refine zp rfl (zk ?_);have l:(zX c.rate 0 2147483648 && zX c.size 1 2147483648 && zX c.start 0 c.size && ui c && zX c.hold 0 1024 && uJ c)=(ui c && zX c.hold 0 1024):=by
    have t:zX c.rate 0 2147483648=true:=by simp[zX];omega
    have e2:zX c.size 1 2147483648=true:=by simp[zX];omega
    have u:zX c.start 0 c.size=true:=by simp[zX];omega
    have e4:uJ c=true:=by simp[uJ,w,h2]
    rw[t,e2,u,e4];simp
   rw[l]
   by_cases r1:c.rule=1
   ·by_cases r3:0<=c.hold
    ·refine ze (zi [(3,116),(8,121),(13,126)] (zF r1 r3 zB) ?_);exact zj (zm a DQ (by simp[ui,r1,zX,r3,zr]))
    ·refine ze (zi [(3,116),(8,121),(13,126)] (zF r1 r3 zB) ?_);exact zj (zm a DQ (by simp[ui,r1,zX,r3,zr]))
   ·by_cases r2:c.rule=2
    ·by_cases r3:0<=c.hold
     ·refine ze (zi [(3,116),(8,121),(13,126)] (zS r1 r2 r3 zB) ?_);exact zj (zm a DQ (by simp[ui,r2,zX,r3,zr]))
     ·refine ze (zi [(3,116),(8,121),(13,126)] (zS r1 r2 r3 zB) ?_);exact zj (zm a DQ (by simp[ui,r2,zX,r3,zr]))
    ·refine ze (zi [(3,116),(8,121),(13,126)] (zF r1 r2 zB) ?_);exact zj (zm a DQ (by simp[ui,r1,r2,zr]))
  ·rw[Zh1 c d j g];have q:(c.kind != 2)=true:=by simpa using g
   repeat apply ze
   refine zi [(3,72),(9,78)] (zq q zB) ?_;refine zo rfl (DY ?_);exact DZ a
end Go.Proofs.YtcocagkbfpgmiaaGreatDoor.Pv
