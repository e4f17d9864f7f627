/- Part of a proof, packed. -/
import Derived.Test.YtcocagkbfpgmiaaGreatDoorE3
open Go.Proofs.Tryz
set_option maxRecDepth 100000
set_option maxHeartbeats 3200000
namespace Go.Proofs.YtcocagkbfpgmiaaGreatDoor.Pv
open Go Go.Proofs
theorem Sim.drewN{C:Ctx}{S:Store}{w:World}(h:Sim C S w):∀q:Nat,Sim C S (w.drewN q)/\Step C S w C S (w.drewN q)
 | 0=>by
  have e:w.drewN 0=w:=rfl;rw[e];exact⟨h,.refl _ _ _⟩
 | q+1=>by
  obtain⟨a,b⟩:=Sim.drewN h q;obtain⟨c,d⟩:=a.drew;have e:w.drewN (q+1)=(w.drewN q).drew:=by unfold World.drewN World.drew;simp[Nat.add_assoc]
  rw[e];exact⟨c,b.trans d⟩
theorem Zog(zs:List Int)(c:Int)(hn:zs.length<=1048576)(hs:zs.Pairwise (·<=·)):Pure prog 353 [L zs,I c] (.tup [I (zs.countP (·<c):Nat),B (zs.contains c)]):=by
 intro S;refine⟨qe func353 DM rfl,?_⟩;intro C w vs hS hl hr;obtain⟨u,v,rfl⟩:∃u v,vs=#[u,v]:=Zfv hl;obtain rfl:=Je (hr 1 _ v rfl rfl);have h0:Rel C S w (.lst zs.length (zs.flatMap Enc.enc)) u:=hr 0 _ u rfl rfl;have hret:∀(k:Int) (b:Bool),Rel C S w (.tup [I k,B b]) (.tuple #[.int .i64 k,.bool b]):=by
  intro k b;refine .tup rfl ?_;intro i p v hc hv
  match i with
  | 0=>have hc:some (I k)=some p:=hc;have hv:some (Value.int .i64 k)=some v:=hv;cases hc;cases hv;exact .sc _
  | 1=>have hc:some (B b)=some p:=hc;have hv:some (Value.bool b)=some v:=hv;cases hc;cases hv;exact .sc _
  | i+2=>simp at hc
 rw[VX]at h0;generalize hcs:zs.map I=cs at h0;generalize hzl:zs.length=n at h0 hn;cases h0 with
 | lst0 =>
  obtain rfl:zs=[]:=Au hzl;refine(slices_BinarySearch_int_empty _ _ c w).mono ?_;rintro e w' ⟨rfl,rfl⟩;exact⟨_,_,_,_,rfl,⟨rfl,rfl⟩,hret 0 false,hS,.refl _ _ _⟩
 | lst1 g1 g2 g3 g4 g5 g6 g7 =>
  rename_i cap b o ca e fz
  by_cases hz:zs=[]
  ·subst hz;simp at hzl;subst hzl;refine(slices_BinarySearch_int_empty _ _ c w).mono ?_;rintro e w' ⟨rfl,rfl⟩;exact⟨_,_,_,_,rfl,⟨rfl,rfl⟩,hret 0 false,hS,.refl _ _ _⟩
  ·subst hcs;have g5':=g5 (by simpa using hz);rw[List.length_map]at g5';have hcell:∀j,j<zs.length->w.cell? ⟨b,o+j,none⟩=some (.int .i64 (zs.getD j 0)):=by
    intro j hj;have e2:ca[o+j]?=some ca[o+j]:=by rw[AK]
    have e3:=Je (g7 j (I (zs.getD j 0)) _ (by simp[hj]) e2);rw[e3]at e2;simp[World.cell?,g3,e2]
   refine(slices_BinarySearch_int b o n cap zs c w DH DH hcell (hs.sublist (List.take_sublist _ _))).mono ?_;rintro e w' ⟨rfl,q,rfl⟩;obtain⟨s1,s2⟩:=hS.drewN q;rw[Af DH];exact⟨_,_,_,_,rfl,⟨rfl,rfl⟩,(hret _ _).mono s2,s1,s2⟩
theorem Zoh{n k:Nat}(hk:k<n)(W:Nat->List Spot)(E:List Spot)(i:Nat)(x:List PV)(h:((W k).map Zo)[i]?=some x):(((List.range n).flatMap W++E).map Zo)[((List.range k).flatMap W).length+i]?=some x:=by
 obtain⟨m,rfl⟩:∃m,n=k+(m+1):=⟨n-k-1,by omega⟩;rw[Ai]at h ⊢;rw[Da,Ar,List.append_assoc,Aj (CU _ _),AG,CC];have hi:i<(W k).length:=by
  rcases Bh i (W k).length with e | e
  ·exact e
  ·rw[An e]at h;cases h
 rw[Ap DL];simp only[AA,Az,Bx];rw[Ap DH];exact h
theorem Zoi(W:Nat->List Spot)(k:Nat):((List.range (k+1)).flatMap W).length=((List.range k).flatMap W).length+(W k).length:=by
 rw[AL,Ar,Aq];simp
theorem Zoj(l:List Int)(c:Int):(yP l).contains c=l.contains c:=by
 rw[Dx,Cp,Cp];exact(B9 l _).mem_iff
theorem Zgd{x:Inst}{s:Stop}(hx:x.cust.length<=1048576)(h:zT x [s]≠1):qb s.c:=by
 have:=ZfW h;unfold jh at this;simp only[Aw,decide_eq_true_eq]at this;unfold qb;omega
theorem Zge(x:Inst)(d:zk)(s:Stop)(hx:x.cust.length<=1048576)(hdo:DayOk d)(hf:d.flatten.length<=1048576):Qk prog 352 [.ip [I s.c,I s.q],.ip (Zn x d)] ((qg x d s).map Zo):=by
 have hmay:=Wu x [s] hx DI;have hse:=Zog (yP (d.flatten.map (·.c))) s.c (by rw[Qm,List.length_map];exact hf) (Ws _);rw[Zoj]at hse;generalize ((yP (d.flatten.map (·.c))).countP (·<s.c):Nat)=cnt at hse;obtain⟨tw,htw⟩:∃tw,tw=decide (¬(yP (d.flatten.map (·.c))).Nodup):=⟨_,rfl⟩;have htw':tw=decide (¬(d.flatten.map (·.c)).Nodup):=by rw[htw];exact decide_eq_decide.2 (not_congr (B9 _ _).nodup_iff)
 obtain⟨th,hth⟩:∃th,th=(d.flatten.map (·.c)).contains s.c:=⟨_,rfl⟩;rw[<-hth]at hse;have hlk:Zn x d=uB x d (yP (d.flatten.map (·.c))) tw (d.map (zT x)) (yV x d) (d.map ji) (d.map (jy x)):=by rw[htw]
 rw[hlk];obtain⟨on,hon⟩:∃on,on=yP (d.flatten.map (·.c)):=⟨_,rfl⟩;rw[<-hon]at hse ⊢;obtain⟨fa,hfa⟩:∃fa,fa=zT x [s]:=⟨_,rfl⟩;rw[<-hfa]at hmay;have hdn:=hdo.n;refine Wl func352 DM rfl ntmps352 (congrArg Array.toList results352) DI λl V keep nx J hJd hY A0 hA0=>?_
 refine za (zz (some []) (Row.pures [0,1,2,3,4,5] (.alt 6 (.alt 7 (Row.pures [8] .done) .stop) .stop)) mixed trivial ?_);refine zK (ZbQ s) trivial ?_;intro v0;refine DQ ?_;refine zr hmay ?_;refine DQ ?_;refine zr hse ?_
 by_cases hout:zT x [s]=1\/s.c∈d.flatten.map (·.c)\/¬(d.flatten.map (·.c)).Nodup\/x.veh<d.length
 ·have hz:qg x d s=[]:=by unfold qg;rw[if_pos hout]
  rw[hz]at hY ⊢
  by_cases h1:fa=1
  ·repeat apply za
   refine ze [(2,30),(5,33),(9,37)] (zo h1 zN) ?_;exact zn rfl (zg (uV (hJd _ _ hA0) rfl (by simpa using hA0)))
  cases h2:th with
  | true =>
   repeat apply za
   refine ze [(2,30),(5,33),(9,37)] (zo h1 zN) ?_;exact zn rfl (zg (uV (hJd _ _ hA0) rfl (by simpa using hA0)))
  | false =>
   cases h3:tw with
   | true =>
    repeat apply za
    refine ze [(2,30),(5,33),(9,37)] (zo h1 zN) ?_;exact zn rfl (zg (uV (hJd _ _ hA0) rfl (by simpa using hA0)))
   | false =>
    have h4:x.veh<d.length:=by
     rcases hout with e | e | e | e
     ·exact absurd (hfa.trans e) h1
     ·have:th=true:=by rw[hth,Cp];exact e
      rw[h2]at this;cases this
     ·have:tw=true:=by rw[htw'];exact decide_eq_true e
      rw[h3]at this;cases this
     ·exact e
    repeat apply za
    refine ze [(2,30),(5,33),(9,37)] (zF h1 h4 zN) ?_;exact zn rfl (zg (uV (hJd _ _ hA0) rfl (by simpa using hA0)))
 have h1:¬fa=1:=λe=>hout (.inl (hfa ▸ e))
 have h2:th=false:=by
  cases e:th with
  | false=>rfl
  | true=>rw[hth,Cp]at e;exact absurd (.inr (.inl e)) hout
 have h3:tw=false:=by
  cases e:tw with
  | false=>rfl
  | true=>rw[htw']at e;exact absurd (.inr (.inr (.inl (of_decide_eq_true e)))) hout
 have h4:¬x.veh<d.length:=λe=>hout (.inr (.inr (.inr e)))
 have hsm:=Zgd hx (s:=s) (λe=>hout (.inl e));obtain⟨WW,hWW⟩:∃WW:Nat->List Spot,WW=λt=>uZ x t (d.getD t []) (zT x (d.getD t [])) (yV x d) (ji (d.getD t [])) (jy x (d.getD t [])) s:=⟨_,rfl⟩
 obtain⟨EE,hEE⟩:∃EE:List Spot,EE=if yV x d=0/\zT x [s]=0/\(d.length:Int)<x.veh then [⟨d.length,0,W (yB x [s.c])⟩] else []:=⟨_,rfl⟩
 have hz:qg x d s=(List.range d.length).flatMap WW++EE:=by unfold qg;rw[if_neg hout,hWW,hEE]
 rw[hz]at hY ⊢;subst h2 h3
 repeat apply za
 refine ze [(2,30),(5,33),(9,37)] (zF h1 h4 zN) ?_;refine zm rfl (zh ?_)
 repeat apply za
 refine zb ?_;refine zj (jt (σ:=Nat × Store) (λs'=>s'.1<=d.length/\J ((List.range s'.1).flatMap WW).length s'.2) (λs'=>[(0,jQ l),(1,.ip [I s.c,I s.q]),(2,.ip (uB x d on false (d.map (zT x)) (yV x d) (d.map ji) (d.map (jy x)))),(4,.ptr nx v0 0),(5,I d.length),(6,I fa),(44,I d.length),(45,I s'.1)]) (λs'=>s'.2)
  (λ_=>[.cells v0 42 [L [s]]]) (λs'=>d.length-s'.1) (z8 (0,A0) [] (by simpa using hA0) DI rfl DI) ?_)
 rintro⟨k,A⟩ ⟨hk,hJ⟩;simp only at hk hJ ⊢;refine DQ ?_;refine za (zv rfl (λhc=>?_) (λhc=>?_))
 ·simp at hc;have hdk:d[k]?=some d[k]:=Ae hc;have hg:d.getD k []=d[k]:=by rw[Aa,hdk];rfl
  have hb:zT x d[k]=13->0<yV x d:=by
   intro e;rcases BY (yV x d) with q | q
   ·rw[Qt.1 q _ (Bd hc)]at e;cases e
   ·exact q
  have hw:=ZnY x d on false (d.map (zT x)) (yV x d) (d.map ji) (d.map (jy x)) k d[k] s (zT x d[k]) (ji d[k]) (jy x d[k]) (AD (ZfJ x d) hdn) hdn hdk (by rw[Ai,hdk];rfl) (by rw[Ai,hdk];rfl) (by rw[Ai,hdk];rfl) DI DI DI hb (hdo.t _ (Bd hc)) (hdo.s _ (Bd hc)) hsm;have hWk:WW k=uZ x k d[k] (zT x d[k]) (yV x d) (ji d[k]) (jy x d[k]) s:=by rw[hWW];simp only[hg]
  rw[<-hWk]at hw;have hlen:=Zoi WW k;refine zh (za (zj (DQ ?_)));refine DQ ?_;refine λhsuf=>((ZfM hw keep hY _ (Zoh hc WW EE) hJ _).mono ?_)
  rintro _ _ ⟨A',rfl,hJ',rfl⟩;rw[List.length_map,<-hlen]at hJ';refine⟨_,_,rfl,zG hsuf ?_⟩;refine zm rfl (zh (zb ?_));exact zq (k+1,A') [] ⟨hc,hJ'⟩ DL (by simp[zu k (by omega)]) rfl DI
 ·simp at hc;obtain rfl:k=d.length:=DH
  refine zx ?_
  by_cases he:yV x d=0/\zT x [s]=0/\(d.length:Int)<x.veh
  ·have hE:EE=[⟨d.length,0,W (yB x [s.c])⟩]:=by rw[hEE,if_pos he]
   obtain⟨e1,e2,e3⟩:=he;have hlw:=Wr x [s] DI (by simpa using hsm);have h5:fa=0:=hfa.trans e2;have hy:(((List.range d.length).flatMap WW++EE).map Zo)[((List.range d.length).flatMap WW).length]?=some (Zo ⟨d.length,0,W (yB x [s.c])⟩):=by
    rw[Ai,Aj (Ag _),Bp,hE];rfl
   simp only[AA,Bo]at hlw;refine za (ze [(3,58),(7,62)] (zV e1 h5 e3 zN) ?_);refine zn rfl (zb ?_);refine zr hlw ?_;refine λhsuf=>J9 rfl rfl rfl (hY _ _ _ _ hy hJ) ?_
   rintro _ ⟨A',hJ',rfl⟩;refine⟨_,_,rfl,zG hsuf ?_⟩;exact uV (hJd _ _ hJ') rfl (by rw[List.length_map,Aq,hE];exact hJ')
  ·have hE:EE=[]:=by rw[hEE,if_neg he]
   have hfin:J (((List.range d.length).flatMap WW++EE).map Zo).length A:=by rw[hE,AH,List.length_map];exact hJ
   by_cases e1:yV x d=0
   ·by_cases e2:fa=0
    ·have e3:¬(d.length:Int)<x.veh:=λe=>he ⟨e1,hfa ▸ e2,e⟩
     refine za (ze [(3,58),(7,62)] (zV e1 e2 e3 zN) ?_);exact zm rfl (zh (uV (hJd _ _ hJ) rfl hfin))
    ·refine za (ze [(3,58),(7,62)] (zF e1 e2 zN) ?_);exact zm rfl (zh (uV (hJd _ _ hJ) rfl hfin))
   ·refine za (ze [(3,58),(7,62)] (zo e1 zN) ?_);exact zm rfl (zh (uV (hJd _ _ hJ) rfl hfin))
open Go Go.Proofs
theorem Zok(id v:Nat)(cs:List PV)(d:zk):(d.flatMap Enc.enc).map (qf id v cs)=(d.flatMap Enc.enc:List PV):=DI
theorem Zol(id v:Nat)(cs:List PV)(d:zk)(t:Nat)(p:PV):((d.flatMap Enc.enc).set t p).map (qf id v cs)=(d.flatMap Enc.enc:List PV).set t (qf id v cs p):=DI
theorem Zgf:∀(d:zk) (t:Nat) (l:zL),(d.flatMap Enc.enc:List PV).set t (L l)=(d.set t l).flatMap Enc.enc
 | [],t,l=>rfl
 | m :: d,0,l=>rfl
 | m :: d,t+1,l=>by
  rw[AV,Az,Az,<-Zgf d t l];rfl
theorem Zom{S:Store}{nx m:Nat}{obs:List Ob}(x y:Ob)(hm:m=nx+obs.length):((ext S nx obs).set (m+3) x).set (m+4) y=ext S nx (obs++[.dead,.dead,.dead,x,y]):=by
 subst hm;rw[Xb 3];have:=qG (S:=S) (nx:=nx) (obs:=obs++List.replicate 3 .dead++[x]) y
 grind
theorem Zon(d:zk)(hd0:d.length<=1048576)(hd1:∀l∈d,l.length<=1048576)(S:Store)(nx:Nat)(hd:zW nx S):
  Spec prog 337 [.agg [L d]] S (λp S'=>∃v,p=.agg [.sl (nx+3) v 1 0 d.length]/\S'=S.set (nx+3) (.cells v 42 (d.flatMap Enc.enc))):=by
 refine(Zcc d d.length hd0 hd1 DI S nx hd).mono ?_;rintro _ _ ⟨v,ts,ob,⟨h1,h2,-⟩,rfl,rfl⟩;obtain⟨rfl,rfl⟩:=h2 (Ag _);rw[Ak];refine⟨v,rfl,?_⟩;funext o
 by_cases h4:o=nx+4
 ·subst h4;rw[q11,q10 _ _ _ _ DH,hd _ DH]
 simp_all[q10]
theorem Zoo(cs:List PV)(i:Nat)(p q:PV)(h:i<cs.length):ye (cs.set i p) i [q]=cs.set i q:=by
 unfold ye;rw[AF,if_pos h,AF,if_pos h];have hl:(cs.take i).length=i:=by rw[Ax];omega
 simp_all[Cl]
theorem Zgg(id v sz k:Nat)(cs:List PV)(h:k*sz=cs.length):qf id v cs (.sl id v sz 0 k)=.lst k cs:=by simp[qf,h]
theorem Zco{α β:Type}{f:β->α->β}{b:β}{l:List α}{i:Nat}{a:α}(h:l[i]?=some a):(l.take (i+1)).foldl f b=f ((l.take i).foldl f b) a:=by grind[List.take_succ_eq_append_getElem]
theorem Zop{x:Inst}{d:zk}{s:Stop}{b:Spot}(h:b∈qg x d s)(hb:b.t≠d.length):∃l,d[b.t]?=some l/\0<l.length/\b.p<=l.length:=by
 obtain⟨-,-,-,-,h⟩:=WB h;rcases h with ⟨l,hl,hi,ho,-⟩ | ⟨rfl,-⟩
 ·refine⟨l,hl,?_,hi⟩;have hself:zT x l=0\/zT x l=13:=by
   by_cases hf:zT x l=13
   ·exact .inr hf
   ·rw[if_neg hf]at ho;exact .inl (Qt.1 DH l (Ab hl))
  have hst:qZ x l=true:=by
   cases e:qZ x l with
   | true=>rfl
   | false=>rw[Zci e]at hself;rcases hself with h | h<;>cases h
  exact BI.2 (Zae hst)
 ·exact absurd rfl hb
theorem Zoq{x:Inst}{d:zk}{s:Stop}{b:Spot}(h:b∈qg x d s):b.t<=d.length:=by
 obtain⟨-,-,-,-,h⟩:=WB h;rcases h with ⟨l,hl,-⟩ | ⟨rfl,-⟩
 ·exact Dw (Ac.1 hl).1
 ·exact Ag _
theorem Zcp(x:Inst)(d:zk)(s:Stop)(hx:x.cust.length<=1048576)(hdo:DayOk d)(hf:d.flatten.length<=1000000):Pure prog 323 [.agg (zy x),.agg [L d],.agg [I s.c,I s.q]] (.tup [.agg [L (yK x d s).1],B (yK x d s).2]):=by
 have hit:=Zge x d s hx hdo DH;have hsee:=ZfK x d hx hdo DH;have hmem:=λh=>Zac (l:=qg x d s) h
 have hle:∀b∈qg x d s,b.t<=d.length:=λb hb=>Zoq hb
 have htour:∀b∈qg x d s,b.t≠d.length->∃l,d[b.t]?=some l/\0<l.length/\b.p<=l.length:=λb hb=>Zop hb
 have hins:yK x d s=bif (Zp (qg x d s)).2 then (jI d (Zp (qg x d s)).1 s,true) else (d,false):=rfl
 have hsF:=ZfH (Zn x d) s rfl;rw[hins];clear hins;generalize qg x d s=xs at *;generalize hlk:Zn x d=lk at *;have hdn:=hdo.n;have hd1:∀l∈d,l.length<=1000000:=λl hl=>AD (YD hl).length_le hf
 refine zt func323 ntmps323 results323 λS nx hd=>?_
 refine DQ ?_;intro v0 v1 v2 v3;refine DQ ?_;intro v4 v5
 repeat apply za
 refine zz none (Row.pures [0,1,2,3,4] .done) mixed trivial ?_;refine zK (hsee) trivial ?_;refine zK (hsF) trivial ?_;refine zj (Ja (xs:=xs.map Zo) (σ:=Spot × Bool) (λi st=>st=(xs.take i).foldl YE (⟨0,0,0⟩,false)) [(3,.ptr nx v0 0),(4,.ptr (nx+1) v1 0),(5,.ptr (nx+2) v2 0),(6,.ptr (nx+3) v3 0),(8,.ptr (nx+4) v4 0),(9,.ptr (nx+5) v5 0)] (λ_=>S)
  (λ(b,found)=>[.cells v0 25 (zy x),.cells v1 39 [L d],.cells v2 100 [I s.c,I s.q],.cells v3 39 [yq],.cells v4 400 [I b.t,I b.p,I b.m],.cells v5 4 [B found]]) (⟨0,0,0⟩,false)
  hit rfl (by intro x hx;obtain⟨y,_,rfl⟩:=Al.1 hx;rfl) DN DI DI rfl DI DI ?_ ?_)
 ·rintro l i ⟨b,found⟩ more y hst hy;simp only at hst ⊢;rw[Ai]at hy;obtain⟨p,hp,rfl⟩:=Ao.1 hy;have hsucc:=Zco (f:=YE) (b:=(⟨0,0,0⟩,false)) hp;rw[<-hst]at hsucc;unfold YE at hsucc;simp only at hsucc;refine zb ?_;intro v6;refine zj ?_;cases found with
  | false =>
   rw[if_pos (.inl rfl)]at hsucc;refine za (ze [(2,21)] zN ?_);refine zn rfl (zb ?_);simp only[js];exact ww (p,true) [_] hsucc.symm rfl DJ
  | true =>
   by_cases hm:p.m<b.m
   ·rw[if_pos (.inr hm)]at hsucc;refine za (ze [(2,21)] (zo hm zN) ?_);refine zn rfl (zb ?_);simp only[js];exact ww (p,true) [_] hsucc.symm rfl DJ
   ·rw[if_neg (by simp[hm])]at hsucc;refine za (ze [(2,21)] (zo hm zN) ?_);refine zm rfl (zh ?_);simp only[js];exact ww (b,true) [_] hsucc.symm rfl DJ
 ·rintro⟨b,found⟩ hst;simp only[List.length_map,Ak]at hst ⊢;have hbz:Zp xs=(b,found):=hst.symm;rw[hbz]at hmem ⊢;simp only at hmem ⊢;cases found with
  | false =>
   simp only[cond_false];refine DQ ?_;refine zr (ZnU d hdn (λl hl=>AD (hd1 l hl) DN)) ?_;refine za (zj (DQ ?_));refine zn rfl (DQ ?_);exact zg (zi hd DJ (by simp[zp]))
  | true =>
   have hb:=hmem rfl;have hbl:=hle b hb;simp only[cond_true]
   by_cases hbt:b.t=d.length
   ·have hpd:jI d b s=d++[[s]]:=by unfold jI;rw[if_pos hbt]
    rw[hpd];have hfl:(d.flatMap Enc.enc:List PV).length=d.length:=jR d;have htk:(d.flatMap Enc.enc:List PV).take d.length=d.flatMap Enc.enc:=Af DH;have hsn:((d++[[s]]).flatMap Enc.enc:List PV)=d.flatMap Enc.enc++[L [s]]:=by rw[Ar];rfl
    refine DQ ?_;refine λhsuf=>((Zon d hdn (λl hl=>AD (hd1 l hl) DN) _ _ jF).mono ?_).v
    rintro _ _ ⟨v7,rfl,rfl⟩;refine⟨_,_,Xb 3 _,jH [] Nat.add_assoc hsuf ?_⟩;generalize hds:(d.flatMap Enc.enc:List PV)=ds at *;refine za (zj (DQ ?_));refine zm rfl (DQ ?_);refine zn DL ?_;refine zz (some [nx+2]) (Row.pures [0,2,3,4] (.alt 1 (.alt 5 (Row.pures [6] (.alt 7 (.done) .stop)) .stop) .stop)) mixed (zo hfl htk) ?_;refine zK (ZbQ s) (zo hfl htk) ?_;refine⟨by omega,?_⟩;refine yb 9 rfl ?_;refine DQ ?_;exact zg (zi hd DJ (by simp[zp,hfl,hds]))
   ·obtain⟨l,hl,hl0,hp⟩:=htour b hb hbt;have hblt:b.t<d.length:=DH
    have hpd:jI d b s=d.set b.t (j8 l b.p s):=by unfold jI;rw[if_neg hbt,Aa,hl];rfl
    have hl1:=hd1 l (Ab hl);rw[hpd];refine DQ ?_;refine λhsuf=>((ZnV d b.t l hdn (λl hl=>AD (hd1 l hl) DN) hl hl0 _ _ jF).mono ?_).v
    rintro _ _ ⟨v7,w7,rfl,rfl⟩;refine⟨_,_,Zom _ _ rfl,jH [] Nat.add_assoc hsuf ?_⟩;refine za (zj (DQ ?_));refine zm rfl (DQ ?_);refine zm DL ?_;refine za (ze [] hblt ?_);refine zz (some [nx+4,nx+2]) (Row.pures [0,1,2,3,5,6,7,8] (.alt 4 (.alt 9 (Row.pures [10,11] (.alt 12 (.done) .stop)) .stop) .stop)) mixed hblt ?_
    skip
    refine((ZnR l b.p s hp hl1 DI).mono ?_).v;rintro _ _ ⟨rfl,rfl⟩;have hcl:((j8 l b.p s).flatMap Enc.enc:List PV).length=(l.length+1)*2:=by
     have e:=(WC l s b.p).length_eq;rw[Ql,e];simp
    have hLi:L (j8 l b.p s)=.lst (l.length+1) ((j8 l b.p s).flatMap Enc.enc):=by
     have e:=(WC l s b.p).length_eq
     show PV.lst _ _=_
     rw[e];rfl
    rw[show l.take b.p++s :: l.drop b.p=j8 l b.p s from rfl];generalize hcs:((j8 l b.p s).flatMap Enc.enc:List PV)=cs at *;rw[yc _ DH DI,AG];refine⟨by simp[yH],ju hblt ?_⟩;refine⟨by omega,?_⟩;rw[Zoo _ _ _ _ (by rw[jR];exact hblt)];have e10:qf (nx+10) (w7+1) cs (.sl (nx+10) (w7+1) 2 0 (l.length+1))=L (j8 l b.p s):=by
     rw[Zgg _ _ _ _ _ hcl.symm,hLi]
    have e9:qf (nx+9) v7 ((d.set b.t (j8 l b.p s)).flatMap Enc.enc) (.sl (nx+9) v7 1 0 d.length)=L (d.set b.t (j8 l b.p s)):=by
     rw[Zgg _ _ _ _ _ (by rw[jR];simp)]
     show _=PV.lst _ _
     rw[BE]
    have n9:qf (nx+10) (w7+1) cs (.sl (nx+9) v7 1 0 d.length)=.sl (nx+9) v7 1 0 d.length:=by
     simp only[qf];rw[if_neg DH]
    refine yb 10 rfl ?_;simp only[AA,Bo,AV,A4,xH,Zol,e10,Zgf,n9];refine yb 9 rfl ?_;simp only[AA,Bo,AV,A4,xH,e9];refine za (ze [] (zo e9 n9) ?_);exact zg (zi hd DJ (by simp[zp]))
open Go Go.Proofs
theorem Zgh{α:Type}(f:Nat->List α)(m:Nat):∀n,(∀t,t<n->(f t).length<=m)->((List.range n).flatMap f).length<=n*m
 | 0,_=>by simp
 | n+1,h=>by
  rw[AL,Ar,Aq];have h1:=Zgh f m n λt ht=>h t DH
  have h2:=h n DH;simp only[Az,Cn,AH];rw[Nat.add_mul,DD];omega
theorem Zor{d:zk}(h1:d.length<=1000000)(h2:d.flatten.length<=1000000):(Qu d).length<=1000001*1000001:=by
 unfold Qu;refine AD (Zgh _ 1000001 _ λt _=>?_) (Cf _ DH);rw[List.length_map,List.length_range,Aa];cases hq:d[t]? with
 | none=>simp
 | some l =>
  have:=(YD (Ab hq)).length_le;simp only[Option.getD_some];omega
theorem Zos{x:Inst}{d:zk}{s:Stop}(hd:yr x d=0)(h1:d.length<=1000000)(h2:d.flatten.length<=1000000):(qg x d s).length<=1000001*1000001:=by
 rw[Zn9 hd];exact AD (Cu _ _) (Zor h1 h2)
theorem Zot(cs:List PV)(v:PV)(h:0<cs.length):ye cs (cs.length-1) [v]=cs.set (cs.length-1) v:=by
 unfold ye;rw[AF,if_pos DH];simp
theorem Zgi:∀(l:List Int) (k:Nat) (v:Int),(l.flatMap Enc.enc:List PV).set k (I v)=(l.set k v).flatMap Enc.enc
 | [],k,v=>rfl
 | a :: l,0,v=>rfl
 | a :: l,k+1,v=>by
  rw[AV,Az,Az,<-Zgi l k v];rfl
theorem Zou(st:List Int × Int)(p:Spot):(wU st p).1.length<=st.1.length+1:=by
 unfold wU;split<;>simp
def Zcq(st:List Int × Int):Prop:=st.2=-1\/0<st.1.length
theorem Zov{st:List Int × Int}(h:Zcq st)(p:Spot):Zcq (wU st p):=by
 unfold wU;split
 ·exact .inr DI
 ·rename_i e;rcases h with h | h
  ·exfalso;simp only[ne_eq]at e;omega
  ·exact .inr (by simpa using h)
theorem Zow(x:Inst)(d:zk)(s:Stop)(hx:x.cust.length<=1048576)(hdo:DayOk d)(h0:yr x d=0)(h1:d.length<=1000000)(h2:d.flatten.length<=1000000):Pure prog 351 [.agg (Zn x d),.agg [I s.c,I s.q]] (L (Xo x d s)):=by
 have hit:=Zge x d s hx hdo DH;have hfold:=Zoe (s:=s) h0;have hlen:=Zos (s:=s) h0 h1 h2;have hml:=Zof x d s (d.length+1);have hsF:=ZfH (Zn x d) s rfl;unfold Xo;rw[<-hfold]at hml ⊢;clear hfold;generalize qg x d s=xs at *;obtain⟨on,tw,fs,bd,ls,ws,hlk⟩:∃on tw fs bd ls ws,Zn x d=uB x d on tw fs bd ls ws:=⟨_,_,_,_,_,_,rfl⟩;rw[hlk]at hit hsF ⊢;clear hlk;refine zt func351 ntmps351 results351 λS nx hd=>?_
 refine DQ ?_;intro v0 v1;refine DQ ?_;intro v2;refine DQ ?_;intro v3
 repeat apply za
 refine zb ?_;refine zr hsF ?_;refine qQ 2 0 3 1 rfl rfl λv4=>?_
 refine zj (Ja (xs:=xs.map Zo) (σ:=(List Int × Int) × Nat) (λi st=>st.1=(xs.take i).foldl wU ([],-1)/\Zcq st.1/\st.1.1.length<=i/\i<=xs.length) [(2,.ptr nx v0 0),(3,.ptr (nx+1) v1 0),(5,.ptr (nx+2) v2 0),(6,.ptr (nx+3) v3 0)] (λ_=>S)
  (λ((l,last),v4)=>[.cells v0 395 (uB x d on tw fs bd ls ws),.cells v1 100 [I s.c,I s.q],.cells v2 26 [.sl (nx+4) v4 1 0 l.length],.cells v3 3 [I last],.cells v4 3 (l.flatMap Enc.enc)]) (([],-1),v4)
  hit rfl (by intro x hx;obtain⟨y,_,rfl⟩:=Al.1 hx;rfl) DN DI ⟨rfl,.inl rfl,by simp,by simp⟩ rfl DI DI ?_ ?_)
 ·rintro lp i ⟨⟨l,last⟩,v4⟩ more y ⟨hst,hok,hli,hi⟩ hy;simp only at hst hok hli hi ⊢;rw[Ai]at hy;obtain⟨p,hp,rfl⟩:=Ao.1 hy;have hsucc:=Zco (f:=wU) (b:=([],-1)) hp;rw[<-hst]at hsucc;have hok2:=Zov hok p;have hln2:=Zou (l,last) p;simp only at hln2;have hil:=(Ac.1 hp).1;have hdef:wU (l,last) p=wU (l,last) p:=rfl
  conv at hdef=>rhs;unfold wU
  simp only at hdef;have hlf:(l.flatMap Enc.enc:List PV).length=l.length:=jG l;have hlt:(l.flatMap Enc.enc:List PV).take l.length=l.flatMap Enc.enc:=Af DH;refine zb ?_;intro v5;refine zj ?_
  repeat apply za
  refine zb ?_
  by_cases hpl:(p.t:Int)=last
  ·have hl0:0<l.length:=by
    rcases hok with e | e
    ·simp only at e;omega
    ·exact e
   obtain⟨m,hm⟩:∃m,l.length=m+1:=⟨l.length-1,by omega⟩;obtain⟨z,tz,z1,z2,z3,z0⟩:=zJ rfl l m DH;rw[if_neg (by simp[hpl])]at hdef;have hgz:l.getD (l.length-1) 0=z:=by rw[hm,B1,Aa,z1];rfl
   rw[hgz]at hdef;have wm:IntKind.i64.wrap ((l.length:Int)-1)=(m:Int):=by rw[wr _ DH DH];omega
   have hml1:m<l.length:=DH
   have hml2:1<=l.length-m:=DH
   have hsp:=Zot (l.flatMap Enc.enc) (I (if p.m<z then p.m else z)) DH;rw[hlf,Zgi]at hsp;have hmin:je z p.m=if p.m<z then p.m else z:=rfl
   refine zm (by simp[hpl]) ?_;refine zh ?_;rw[show l.length-1=m by omega]at hsp;refine zz (some [nx+2,nx+(more.length+5)]) (Row.pures [0,1,2,3,4,5,6,7,8,10,11] (.alt 9 (Row.pures [12,13] (.alt 14 (.done) .stop)) .stop)) mixed (yl wm hml1 hml2 z0 hmin hlf) ?_;refine⟨by omega,?_⟩;simp only[js];rw[hm,B1]at hdef;rw[hdef]at hsucc hok2;refine ww ((l.set m (if p.m<z then p.m else z),last),v4) [_] ⟨hsucc.symm,hok2,by simp;omega,by omega⟩ rfl (by simp[hsp];rfl)
  ·rw[if_pos hpl]at hdef;rw[hdef]at hsucc hok2 hln2;have w0:IntKind.i64.wrap (l.length:Int)=(l.length:Int):=wr _ DH DH;have w2:(l.length:Int)<(l.length:Int)+1:=DH
   have hmin:je p.m p.m=p.m:=by unfold je;split<;>rfl
   have hat:(l.flatMap Enc.enc++[I p.m]:List PV)[l.length]?=some (I p.m):=by rw[Aj DH,hlf,Bp];rfl
   have hdl:(l.flatMap Enc.enc++[I p.m]:List PV).drop l.length=[I p.m]:=by rw[<-hlf,List.drop_left]
   have hspl:ye (l.flatMap Enc.enc++[I p.m]:List PV) l.length [I p.m]=l.flatMap Enc.enc++[I p.m]:=by
    unfold ye;rw[<-hlf,List.take_left,Ba DI];simp
   refine zn (by simp[hpl]) ?_;refine zz (some [nx+(more.length+5)]) (Row.pures [1,2,3,5,6] (.alt 0 (.alt 4 (.alt 7 (.alt 8 (.done) .stop) .stop) .stop) .stop)) mixed (zo hlf hlt) ?_;refine⟨by omega,?_⟩;refine zz (some [nx+2,nx+(more.length+5)]) (Row.pures [0,1,2,3,4,5,6,7,8,10,11] (.alt 9 (Row.pures [12,13] (.alt 14 (.done) .stop)) .stop)) mixed (yE w0 w2 hmin hat hlf) ?_;simp only[js];refine ww ((l++[p.m],(p.t:Int)),v4+1) [_] ⟨hsucc.symm,hok2,by simp;omega,by omega⟩ rfl (by simp[hspl];rfl)
 ·rintro⟨⟨l,last⟩,v4⟩ ⟨hst,-⟩;simp only[List.length_map,Ak]at hst ⊢;rw[<-hst]at hml ⊢;simp only at hml ⊢;have hz4:=Qm l;refine DQ ?_;refine λhsuf=>((VY l DI DH).mono ?_).v
  rintro _ _ rfl;refine⟨_,_,yc _ DH DI,jH [] (show nx+4-nx=4 by omega) hsuf ?_⟩;generalize yP l=c at *;rw[<-hz4];refine yb 4 rfl ?_;refine DQ ?_;exact DR hd
open Go Go.Proofs Go.Shelf Go.RowKit Go.Lib
theorem Zox{P:Program}(b o:Nat)(vs:List Value)(w:World)(cur:Array Value)(t:TypeId)(hw:w.heap[b]?=some (.cells cur t (0,0)))(hl:o+vs.length<=cur.size)(h1:∀v∈vs,v.oneCell'=true):
  w.setCells b o vs=w.setRow b (cur.toList.take o++vs++cur.toList.drop (o+vs.length)).toArray:=by
 have a:=run_storeCells_cells (P:=P) b o vs 0 w (λj hj=>by simp[World.cell?,hw];omega) (λj _=>by simp[World.frozen?,hw]) h1;have c:=run_storeCells_at (P:=P) b o t vs 0 cur w hw (by simpa using hl) h1;rw[a]at c;simpa using c
theorem Zoy(zc:Array Value):(Builtin.zeroCells zc 1).toList=zc.toList:=by
 apply A6
 ·simp[Builtin.zeroCells]
 ·intro i h1 h2;simp[Builtin.zeroCells,CP (show i<zc.size by simpa using h2)];exact getElem!_pos zc i (by simpa using h2)
theorem Zoz{P:Program}(w:World)(t e ty:TypeId)(zc:Array Value)(ht:P.underlying t=some (.slice e))(hv:∀w,(zeroValue e).run P w=.ok (.agg zc) w)(h1:∀v∈zc.toList,v.oneCell'=true)(b o c:Nat)(cur:Array Value)(t':TypeId)(hw:w.heap[b]?=some (.cells cur t' (0,0)))(hl:o+zc.size<=cur.size):
  (Builtin.clear_ #[t] ty #[.slice (some ⟨b,o,none⟩) 1 c]).run P w=.ok (.tuple #[]) (w.setRow b (cur.toList.take o++zc.toList++cur.toList.drop (o+zc.size)).toArray):=by
 have c:=run_storeCells_at (P:=P) b o t' zc.toList 0 cur w hw (by simpa using hl) h1;simp only[Bx,Array.length_toList]at c;simp[Builtin.clear_,run_underlying ht,hv,Zoy,c]
theorem ZoA(b n c i:Nat)(V:List Value)(w:World)(i0:TypeInfo)(hi0:prog.info? 100=some i0)(hzs:i0.size=2)(cur:Array Value)(hcur:w.heap[b]?=some (.cells cur 100 (0,0)))(hcc:cur.size=c*2)
  (hi:i<n) (hnc:n<=c) (hc63:c<=9223372036854775807) (hn:n<=1048576) (hV:V.length=n*2) (hcV:cur.toList.take (n*2)=V) (h1:∀v∈V,v.oneCell'=true) (R1 R2:Array Value)
  (hR1:R1=(cur.toList.take (i*2)++V.drop ((i+1)*2)++cur.toList.drop (i*2+(V.drop ((i+1)*2)).length)).toArray) (hR2:R2=(R1.toList.take ((i+(n-(i+1)))*2)++([.int .i64 0,.int .i64 0]:List Value)++R1.toList.drop ((i+(n-(i+1)))*2+2)).toArray) :
  Calls prog 335 #[.slice (some ⟨b,0,none⟩) n c,.int .i64 i,.int .i64 ((i:Int)+1)] w λe w' =>
   e=.returned (.slice (some ⟨b,0,none⟩) (i+(n-(i+1))) c)/\w'=(w.drew.setRow b R1).setRow b R2:=by
 obtain⟨news,hnews⟩:∃news,news=V.drop ((i+1)*2):=⟨_,rfl⟩;have hlen:news.length=(n-(i+1))*2:=by rw[hnews,Bn,hV];omega
 have hget:∀t u,news[t]?=some u->w.drew.cell? ⟨b,(i+1)*2+t,none⟩=some u:=by
  intro t u hu;rw[hnews,AQ,<-hcV,By]at hu;split at hu
  ·rw[Array.getElem?_toList]at hu
   show w.cell? _=_
   simp[World.cell?,hcur,hu]
  ·cases hu
 obtain⟨A,hA,hsrc⟩:∃A:Addr,(if c=i+1 then some (⟨b,0,none⟩:Addr) else some ⟨b,(i+1)*2,none⟩)=some A/\Hid (∀t u,news[t]?=some u->w.drew.cell? (A.add t)=some u):=by
  by_cases h:c=i+1
  ·refine⟨⟨b,0,none⟩,by simp[h],λt u hu=>?_⟩;have h0:news.length=0:=by rw[hlen];omega
   rw[Ck.1 h0]at hu;simp at hu
  ·refine⟨⟨b,(i+1)*2,none⟩,by simp[h],λt u hu=>?_⟩;rw[Addr.add_lit];exact hget t u hu
 have s1:Hid (news.length=(n-(i+1))*2):=hlen;have s2:Hid (∀u∈news,u.oneCell'=true):=λu hu=>h1 u (by rw[hnews]at hu;exact Cd hu)
 have s3:Hid (∀t,t<news.length->(w.drew.cell? ⟨b,0+i*2+t,none⟩).isSome=true/\w.drew.frozen? ⟨b,0+i*2+t,none⟩=false):=by
  intro t ht;rw[hlen]at ht;refine⟨?_,?_⟩
  ·show (w.cell? _).isSome=true
   simp[World.cell?,hcur];omega
  ·show w.frozen? _=false
   simp[World.frozen?,hcur]
 obtain⟨W1,hW1⟩:∃W1,W1=w.drew.setCells b (0+i*2) news:=⟨_,rfl⟩;have hW1':W1=w.drew.setRow b R1:=by
  rw[hW1,Zox (P:=prog) b (0+i*2) news w.drew cur 100 hcur (by rw[hlen,hcc];omega) s2,hR1,hnews,AS]
 have hW1h:W1.heap[b]?=some (.cells R1 100 (0,0)):=by rw[hW1'];exact setRow_heap _ _ _ _ _ _ hcur
 have hR1s:R1.size=c*2:=by rw[hR1,<-hnews];simp[hlen];omega
 have hcl:∀ty,(Builtin.clear_ #[40] ty #[.slice (some ⟨b,(i+(n-(i+1)))*2,none⟩) (n-(i+(n-(i+1)))) (c-(i+(n-(i+1))))]).run prog W1=.ok (.tuple #[]) (W1.setRow b R2):=λty=>by
  have:=Zoz (P:=prog) W1 40 100 ty #[.int .i64 0,.int .i64 0] underlying40 zeroValue100 (by intro v hv;simp at hv;rcases hv with rfl | rfl<;>rfl) b ((i+(n-(i+1)))*2) (c-(i+(n-(i+1)))) R1 100 hW1h DL;rw[show n-(i+(n-(i+1)))=1 by omega,this,hR2];simp
 have hW:Hid (W1=w.drew.setCells b (0+i*2) news):=hW1;have hX:Hid (W1=w.drew.setRow b R1):=hW1';clear hW1 hW1' hW1h hR1 hR2 hR1s hcur hcV hget hnews hlen h1 hV hcc;have hic:i<=c:=DH
 have hjc:i+1<=c:=DH
 have hin:i<=n:=DH
 have hjn:i+1<=n:=DH
 have hne:¬(i:Int)=(i:Int)+1:=DH
 have hb1:(0:Int)<=(i:Int)+1:=DH
 have htn:((i:Int)+1).toNat=i+1:=DH
 have hb2:(i:Int)+1<=(n:Int):=DH
 have hb3:(i:Int)<=(i:Int)+1:=DH
 have hcn:¬c=i+(n-(i+1)):=DH
 have hnn:i+(n-(i+1))<=n:=DH
 have mixed:prog.follows .mixedOrders=true:=DK
 go_enter func335,ntmps335
 go_wp2_with fail
 go_region_law_o (refine step_append_room rfl (.tmp 22) (.tmp 25) 40 rfl 100 i0 2 underlying40 hi0 hzs b 0 i c (by simp[Act.eval,Act.put]) A (n-(i+1)) (c-(i+1)) news (by simp[Act.eval,Act.put]) s1.out hsrc.out s2.out DH s3.out ?_;rw[<-hW.out])
 go_wp2
 go_ret
 exact⟨rfl,by rw[hX.out]⟩
theorem ZoB(l:List Stop)(i:Nat)(h:i<l.length):yo (l.eraseIdx i)=(yo l).take (i*2)++(yo l).drop ((i+1)*2):=by
 rw[CI,ZbM,Ze3 l i DH,Ze4 l (i+1) DH]
theorem ZoC{S:Store}{id ver:Nat}(cs:List Stop)(i:Nat)(hi:i<cs.length)(hn:cs.length<=1000000)(hid:S id=.cells ver 100 (cs.flatMap Enc.enc)):
  Spec prog 335 [.sl id ver 2 0 cs.length,I i,I ((i:Int)+1)] S (λp S'=>p=.sl id (ver+1) 2 0 (cs.eraseIdx i).length/\S'=S.set id (.cells (ver+1) 100 ((cs.eraseIdx i).flatMap Enc.enc))):=by
 refine⟨qe func335 DM rfl,?_⟩;intro C w vs hS hl hr;obtain⟨u,v,x,rfl⟩:=Ze5 hl;obtain rfl:=Je (hr 1 _ v rfl rfl);obtain rfl:=Je (hr 2 _ x rfl rfl);have hu:=hr 0 _ u rfl rfl;have hvl:(yo cs).length=cs.length*2:=Xf cs;have hel:(cs.eraseIdx i).length=i+(cs.length-(i+1)):=by rw[BO hi];omega
 have hnew:=ZoB cs i hi;have hnl:(yo (cs.eraseIdx i)).length=(i+(cs.length-(i+1)))*2:=by rw[Xf,hel]
 rw[Ze2]at hid ⊢;rw[hel];generalize cs.eraseIdx i=es at *;obtain⟨i0,hi0⟩:=B0.1 ZbE;have hc:=ZbD;simp only[Program.cellsOf,hi0,A9,Option.getD_some]at hc;cases hu with
 | sl h1 h2 h3 =>
  obtain⟨ad,cap,rfl,q1,q2,q3,q4⟩:=h1;have hloc:=(h3 ver (by rw[hid];rfl)).2 rfl;rcases hS.cells id ver _ _ hid with ⟨hno,hnil⟩ | ⟨b,k,c,g1,g2,g3,g4,g5,g6⟩
  ·have:=congrArg List.length hnil;simp[hvl]at this;exfalso;omega
  rcases hloc with ⟨z1,_⟩ | ⟨b',k',ad',cap',z1,z2,z3,z4⟩
  ·rw[g1]at z1;cases z1
  rw[g1]at z1;cases z1;cases z2;obtain⟨rfl,hcap⟩:=z3 rfl;rw[List.length_map,hvl]at g4;have hcells:∀(j:Nat) v,(yo cs)[j]?=some v->c[j]?=some v:=by
   intro j v hj;have hjl:=(Ac.1 hj).1;have e2:c[j]?=some c[j]:=AK DH;have:=g6 j (.sc v) _ (by rw[Ai,hj];rfl) e2;rw[e2];generalize c[j]=y at this;cases this;rfl
  have hcur:c.toList.take (cs.length*2)=yo cs:=by
   apply A5;intro j
   by_cases hj:j<cs.length*2
   ·rw[AJ hj,Array.getElem?_toList];have e:(yo cs)[j]?=some (yo cs)[j]:=Ae DH;rw[e,hcells j _ e]
   ·rw[An DL,An DH]
  have hcsz:c.size=cap*2:=g3.trans hcap.symm;have hdl:((yo cs).drop ((i+1)*2)).length=(cs.length-(i+1))*2:=by rw[Bn,hvl];omega
  obtain⟨R1,hR1⟩:∃R1:Array Value,R1=(c.toList.take (i*2)++(yo cs).drop ((i+1)*2)++c.toList.drop (i*2+((yo cs).drop ((i+1)*2)).length)).toArray:=⟨_,rfl⟩;obtain⟨R2,hR2⟩:∃R2:Array Value,R2=(R1.toList.take ((i+(cs.length-(i+1)))*2)++([.int .i64 0,.int .i64 0]:List Value)++R1.toList.drop ((i+(cs.length-(i+1)))*2+2)).toArray:=⟨_,rfl⟩;have htk:c.toList.take (i*2)=(yo cs).take (i*2):=by rw[<-hcur,DA,Bf DH]
  have hR1l:R1.toList.take ((i+(cs.length-(i+1)))*2)=yo es:=by
   rw[hR1];simp only[];rw[htk,<-hnew,<-hnl,List.take_left]
  have hR1s:R1.size=cap*2:=by rw[hR1];simp[hdl];omega
  have hR2l:R2.toList=yo es++(([.int .i64 0,.int .i64 0]:List Value)++R1.toList.drop ((i+(cs.length-(i+1)))*2+2)):=by
   rw[hR2,hR1l];simp
  have hR2s:R2.size=cap*2:=by
   rw[<-Array.length_toList,hR2l];simp[hnl,hR1s];omega
  refine(ZoA b cs.length cap i (yo cs) w i0 hi0 hc c g2 hcsz hi q1 (by unfold maxLen at q3;omega) DH hvl hcur (Xg cs) R1 R2 hR1 hR2).mono ?_;rintro e w' ⟨rfl,rfl⟩;obtain⟨r1,r2⟩:=ZbN (C:=C) (S:=S) (w:=w) hR2l (Xg _);have hb1:=setRow_heap w.drew b c R1 _ _ g2;obtain⟨t1,t2⟩:=hS.turn (l:=some (b,cap*2)) (ver':=ver+1) (cs':=(yo es).map .sc) hid DH (λh=>absurd h DH) (w':=(w.drew.setRow b R1).setRow b R2)
   (by
    rw[g1];refine⟨⟨rfl,rfl,rfl,by simp[World.setRow],λj hj hne=>?_⟩,CF _⟩;have hjb:j≠b:=λe=>hne (by rw[e];rfl)
    rw[setRow_other _ _ _ _ hjb,setRow_other _ _ _ _ hjb];rfl)
   (.inr ⟨b,cap*2,R2,rfl,.inr (by rw[g1];rfl),setRow_heap _ _ _ _ _ _ hb1,hR2s,by rw[List.length_map,hnl];omega,r1,r2⟩)
  refine⟨_,_,_,_,rfl,⟨rfl,rfl⟩,?_,t1,t2⟩;refine .sl ⟨_,_,rfl,by omega,by unfold jE;omega,q3,λ_=>⟨_,_,rfl⟩⟩ ⟨h2.1,by simp only[Ctx.at];omega⟩ λv0 hv0=>?_
  rw[q11]at hv0;cases hv0;exact⟨Ag _,λ_=>.inr ⟨b,_,_,_,by simp[Ctx.at],rfl,λ_=>⟨rfl,rfl⟩,λ_=>rfl⟩⟩
open Go Go.Proofs
def Jp(c:Int)(l:List Stop):Int:=((l.filter λs=>decide (s.c=c)).map (·.q)).sum
theorem ZoD(c:Int)(d:zk):ZfX c d=W (Jp c d.flatten):=rfl
theorem ZoE(c:Int)(l:List Stop)(s:Stop):Jp c (l++[s])=Jp c l+if s.c=c then s.q else 0:=by
 unfold Jp;rw[B3,List.map_append,List.sum_append]
 by_cases h:s.c=c<;>simp[h]
theorem ZoF(c:Int)(l:List Stop)(s:Stop):xS c (l++[s])=xS c l++if s.c=c then [] else [s]:=by
 unfold xS;rw[B3]
 by_cases h:s.c=c<;>simp[h]
theorem ZoG(c:Int)(d:zk)(t:zL):j9 c (d++[t])=j9 c d++if (xS c t).length=0 then [] else [xS c t]:=by
 rw[Zn5];congr 1;unfold j9;rw[AA,Bo];generalize xS c t=u;cases u<;>simp
theorem Zcr(c:Int)(t:zL):(xS c t).length<=t.length:=BC _ _
theorem Zgj(c:Int)(d:zk):(j9 c d).length<=d.length:=by
 unfold j9;exact AD (BC _ _) DI
theorem ZoH(d:zk)(c:Int)(hdn:d.length<=1048576)(hdt:∀t∈d,t.length<=1048576):Pure prog 321 [.agg [L d],I c] (.tup [.agg [L (j9 c d)],I (ZfX c d)]):=by
 rw[ZoD];refine zt func321 ntmps321 results321 λS nx hd=>?_
 refine DQ ?_;intro v0 v1;refine DQ ?_;intro v2;refine qQ 2 0 42 1 rfl rfl λv3=>?_
 refine DQ ?_
 repeat apply za
 refine zb ?_;refine zj (zD (λ(s:Nat × Nat)=>s.1<=d.length) (λ(k,v3)=>[(1,I c),(4,.ptr (nx+1) v1 0),(6,.ptr (nx+2) v2 0),(7,I (W (Jp c (d.take k).flatten))),(14,L d),(15,I d.length),(16,I k)]) (λ(k,v3)=>[.cells v0 39 [L d],.cells v1 39 [yq],.cells v2 39 [.sl (nx+3) v3 1 0 (j9 c (d.take k)).length],.cells v3 42 ((j9 c (d.take k)).flatMap Enc.enc)]) (λs=>d.length-s.1) (0,v3) [] DI (by simp[Jp]) (by simp[j9]) ?_);rintro⟨k,v3⟩ hk;simp only at hk ⊢;refine DQ ?_;refine za (zv rfl (λhc=>?_) (λhc=>?_))
 ·simp at hc;obtain⟨t,tl,a1,a2,a3,e0⟩:=zJ rfl d k hc;have hk1:1<=d.length-k:=DH
  have htm:=Ab a1;have htn:=hdt t htm;have hrd:=ZoG c (d.take k) t;rw[<-a3]at hrd;have hfl:(d.take (k+1)).flatten=(d.take k).flatten++t:=by rw[a3,List.flatten_append];simp
  generalize (d.take k).flatten=pre at *;have hrl:(j9 c (d.take k)).length<=1048576:=AD (Zgj _ _) (by rw[Ax];omega);refine zh (za (zj ?_));generalize hrk:j9 c (d.take k)=rk at *;have hfz:∀id v cs,(rk.flatMap Enc.enc).map (qf id v cs)=(rk.flatMap Enc.enc:List PV):=λid v cs=>Zok id v cs rk
  have hrf:(rk.flatMap Enc.enc:List PV).length=rk.length:=jR rk;have hrt:(rk.flatMap Enc.enc:List PV).take rk.length=rk.flatMap Enc.enc:=Af DH;refine za (ze [] (zF hc e0 hk1) ?_);intro v4;refine DQ ?_;refine jg 10 100 2 rfl λv5=>?_
  repeat apply za
  refine zb ?_;refine zj (zD (λ(s:Nat × Nat)=>s.1<=t.length) (λ(j,v5)=>[(1,I c),(4,.ptr (nx+1) v1 0),(6,.ptr (nx+2) v2 0),(7,I (W (Jp c (pre++t.take j)))),(10,.sl (nx+5) v5 2 0 (xS c (t.take j)).length),(14,L d),(15,I d.length),(16,I k),(21,L t),(22,I t.length),(23,I j)]) (λ(j,v5)=>[.cells v0 39 [L d],.cells v1 39 [yq],.cells v2 39 [.sl (nx+3) v3 1 0 rk.length],.cells v3 42 (rk.flatMap Enc.enc),.cells v4 42 [L t],.cells v5 100 ((xS c (t.take j)).flatMap Enc.enc)]) (λs=>t.length-s.1) (0,v5) [] DI (by simp[xS]) (by simp[xS]) ?_);rintro⟨j,v5⟩ hj;simp only at hj ⊢;refine DQ ?_;refine za (zv rfl (λhcj=>?_) (λhcj=>?_))
  ·simp at hcj;obtain⟨s,ts,b1,b2,b3,b4,b5⟩:=el 2 rfl t j hcj;have hj2:2<=t.length*2-j*2:=DH
   have hsum:=ZoE c (pre++t.take j) s;rw[List.append_assoc,<-b3]at hsum;have hrs:=ZoF c (t.take j) s;rw[<-b3]at hrs;have hul:(xS c (t.take j)).length<=1048576:=AD (Zcr _ _) (by rw[Ax];omega);generalize xS c (t.take j)=u at *;have huf:(u.flatMap Enc.enc:List PV).length=u.length*2:=Ql u;have hut:(u.flatMap Enc.enc:List PV).take (u.length*2)=u.flatMap Enc.enc:=Af DH;refine zh (za (zj (za (ze [] (zF hcj b5 hj2) ?_))));intro v6;refine DQ ?_;refine zv rfl (λhq=>?_) (λhq=>?_)
   ·simp at hq;rw[if_pos hq]at hsum hrs;rw[AH]at hrs;refine zb ?_;refine zb ?_;exact zq (j+1,v5) [_] DL DL (by simp[zu j (by omega),hsum,ZT,hrs]) rfl (by simp[hrs];rfl)
   ·simp at hq;rw[if_neg hq]at hsum hrs;rw[Int.add_zero]at hsum;have hul':((xS c (t.take (j+1))).flatMap Enc.enc:List PV)=u.flatMap Enc.enc++[I s.c,I s.q]:=by rw[hrs,Ar];rfl
    refine ze [] (zo huf hut) ?_;refine⟨by omega,?_⟩;refine zb ?_;exact zq (j+1,v5+1) [_] DL DL (by simp[zu j (by omega),hsum,hrs]) rfl (by simp[hul'];rfl)
  ·simp at hcj;obtain rfl:j=t.length:=DH
   refine zx ?_;rw[Ak];have hul:(xS c t).length<=1048576:=AD (Zcr _ _) htn;generalize xS c t=u at *;have huf:(u.flatMap Enc.enc:List PV).length=u.length*2:=Ql u;refine yb 5 rfl ?_;simp only[AA,Bo,AV,A4,xH,hfz];refine DQ ?_;refine zv rfl (λhq=>?_) (λhq=>?_)
   ·simp at hq;rw[if_neg DH]at hrd;have hrl':((rk++[u]).flatMap Enc.enc:List PV)=rk.flatMap Enc.enc++[L u]:=by rw[Ar];rfl
    refine ze [] (zo hrf hrt) ?_;refine⟨by omega,?_⟩;refine zb ?_;exact zq (k+1,v3+1) [_,_] DL DL (by simp[zu k (by omega),hfl]) rfl (by simp[hrd,hrl'];exact⟨rfl,rfl⟩)
   ·simp at hq;rw[if_pos (by rw[hq];rfl),AH]at hrd;refine zh (zb ?_);exact zq (k+1,v3) [_,_] DL DL (by simp[zu k (by omega),hfl]) rfl (by simp[hrd];exact⟨rfl,rfl⟩)
 ·simp at hc;obtain rfl:k=d.length:=DH
  refine zx (yb 3 rfl ?_);have g1:d.take d.length=d:=Ak;refine DQ ?_;exact zg (zi hd DJ (by simp[zp,g1]))
open Go Hp
theorem ZoI{x:Inst}(h:∀row∈x.dist,∀d∈row,0<=d/\d<=2147483648):qt x:=by
 intro a b;unfold arc;split
 ·omega
 ·rw[Aa,Aa];cases hr:x.dist[a.toNat]? with
  | none=>simp
  | some row =>
   simp only[Option.getD_some];cases hd:row[b.toNat]? with
   | none=>simp
   | some d=>exact h row (Ab hr) d (Ab hd)
open Go Go.Proofs
theorem Zgk{x:Inst}{d:zk}{s:Stop}(hx:x.cust.length<=1048576)(hdo:DayOk d)(hd1:d.length<=1000000)(hf:d.flatten.length<=1000000):DayOk (yK x d s).1:=by
 unfold yK;cases hb:(Zp (qg x d s)).2 with
 | false=>exact hdo
 | true =>
  have hm:=Zac hb;have hp:=Zcg hm;have hs:=Zgd hx (WB hm).1;simp only[cond_true];have hfl:(jI d (Zp (qg x d s)).1 s).flatten.length<=1000001:=by rw[hp.length_eq,Ad];omega
  refine⟨?_,λt ht=>?_,λt ht a ha=>?_⟩
  ·unfold jI;split
   ·simp;omega
   ·simp;omega
  ·have:=(YD ht).length_le;omega
  ·have:=hp.subset ((YD ht).subset ha);rw[As]at this;rcases this with rfl | h
   ·exact hs
   ·obtain⟨u,hu,hau⟩:=Bs.1 h;exact hdo.s u hu a hau
open Go Go.Proofs
def Zq(l:List Int):Int:=if 1<l.length then W (l.getD 1 0-l.getD 0 0) else 1099511627776
def uc(c:Stop->List Int):List Stop->Nat->Int->Int->Int
 | [],_,place,_=>place
 | s :: l,i,place,most=>if (c s).length=0 then (i:Int) else if place<0\/most<Zq (c s) then uc c l (i+1) (i:Int) (Zq (c s)) else uc c l (i+1) place most
def Z2(x:Inst)(d:zk)(l:List Stop):Int:=uc (Xo x d) l 0 (-1) 0
theorem Zcs(c:Stop->List Int):∀(l:List Stop) (i:Nat) (place most:Int),(l≠[]\/0<=place)->place<i->0<=uc c l i place most/\uc c l i place most<(i+l.length:Nat)
 | [],i,place,most,h,hp=>by
  rcases h with h | h
  ·exact absurd rfl h
  ·simp only[uc,Ah];omega
 | s :: l,i,place,most,_,hp=>by
  unfold uc;split
  ·simp only[Ad];omega
  ·split
   ·have:=Zcs c l (i+1) i (Zq (c s)) (.inr DH) DH;simp only[Ad];omega
   ·rename_i hc;have:=Zcs c l (i+1) place most (.inr DH) DH;simp only[Ad];omega
theorem Zgl{x:Inst}{d:zk}{l:List Stop}(h:l≠[]):∃k:Nat,Z2 x d l=k/\k<l.length:=by
 have:=Zcs (Xo x d) l 0 (-1) 0 (.inl h) DH;exact⟨(Z2 x d l).toNat,by unfold Z2;omega,by unfold Z2;omega⟩
def ud(x:Inst):Nat->zk->List Stop->zk × Bool
 | 0,d,_=>(d,true)
 | n+1,d,l=>bif (yK x d (l.getD (Z2 x d l).toNat default)).2 then ud x n (yK x d (l.getD (Z2 x d l).toNat default)).1 (l.eraseIdx (Z2 x d l).toNat) else (d,false)
def jk(x:Inst)(l:List Stop):zk × Bool:=ud x l.length [] l
structure RgOk (x:Inst) (d:zk) (l:List Stop):Prop where
 ok:DayOk d
 may:yr x d=0
 len:d.flatten.length+l.length<=1000
theorem RgOk.dl{x:Inst}{d:zk}{l:List Stop}(h:RgOk x d l):d.length<=1000:=by
 have h1:=Zab d (Zf9 h.may);have h2:=h.len;omega
theorem RgOk.step{x:Inst}{d:zk}{l:List Stop}(hx:x.cust.length<=1048576)(h:RgOk x d l){i:Nat}(hi:i<l.length){s:Stop}(hs:(yK x d s).2=true):RgOk x (yK x d s).1 (l.eraseIdx i):=by
 have hf:=h.len;have hl:=h.dl;refine⟨Zgk hx h.ok DH DH,?_,?_⟩
 ·unfold yK at hs ⊢;cases hb:(Zp (qg x d s)).2 with
  | false=>rw[hb]at hs;cases hs
  | true=>exact Zcj (Zac hb)
 ·rw[(Zch hs).length_eq,Ad,BO hi];omega
theorem Zgm{x:Inst}(hv:0<=x.veh){l:List Stop}(hl:l.length<=1000):RgOk x [] l :=
 ⟨⟨by simp,by simp,by simp⟩,(vB x []).2 ⟨by simp,by simp,by simpa using hv⟩,by simpa using hl⟩
theorem ZoJ{c:Stop->List Int}{l:List Stop}{k:Nat}{s:Stop}{place most:Int}(hd:l.drop k=s :: l.drop (k+1)):
  uc c (l.drop k) k place most=if (c s).length=0 then (k:Int) else if place<0\/most<Zq (c s) then uc c (l.drop (k+1)) (k+1) (k:Int) (Zq (c s)) else uc c (l.drop (k+1)) (k+1) place most:=by
 rw[hd];rfl
theorem ZoK(x:Inst)(d:zk)(l:List Stop)(hx:x.cust.length<=1048576)(h:RgOk x d l){S:Store}{id ver:Nat}(hid:S id=.cells ver 100 (l.flatMap Enc.enc)):
  Spec prog 334 [.agg (Zn x d),.sl id ver 2 0 l.length] S (λp S'=>p=I (Z2 x d l)/\S'=S):=by
 have hf:=h.len;have hl:=h.dl;have hco:=λs=>Zow x d s hx h.ok h.may DH DH
 have hu:Z2 x d l=uc (Xo x d) (l.drop 0) 0 (-1) 0:=rfl;rw[hu];clear hu;obtain⟨on,tw,fs,bd,ls,ws,hlk⟩:∃on tw fs bd ls ws,Zn x d=uB x d on tw fs bd ls ws:=⟨_,_,_,_,_,_,rfl⟩;rw[hlk]at hco ⊢;clear hlk;generalize hcz:Xo x d=cz at *;refine yi func334 ntmps334 results334 λnx hd=>?_
 have hlt:id<nx:=yU hd hid DI;have xid:=λobs=>zB (S:=S) (obs:=obs) hlt
 refine DQ ?_;intro v0;refine DQ ?_
 repeat apply za
 refine zb ?_;refine zj (zD (λs':Nat × Int × Int=>s'.1<=l.length/\uc cz (l.drop s'.1) s'.1 s'.2.1 s'.2.2=uc cz (l.drop 0) 0 (-1) 0) (λ(k,place,most)=>[(2,.ptr nx v0 0),(5,I place),(6,I most),(11,.sl id ver 2 0 l.length),(12,I l.length),(13,I k)]) (λ_=>[.cells v0 395 (uB x d on tw fs bd ls ws)]) (λs'=>l.length-s'.1) (0,-1,0) [] ⟨by simp,rfl⟩ DI DI ?_);rintro⟨k,place,most⟩ ⟨hk,hg⟩;simp only at hk hg ⊢;rw[<-hg];refine DQ ?_;refine za (zv rfl (λhc=>?_) (λhc=>?_))
 ·simp at hc;obtain⟨s,tl,a1,a2,a3,e1,e0⟩:=el 2 rfl l k hc;have hk2:2<=l.length*2-k*2:=DH
  have hun:=ZoJ (c:=cz) (place:=place) (most:=most) a2;have hcs:=hco s;generalize hc0:cz s=c at *;have wk:=zu k DH;refine zh (za (zj (za (ze [] (yE xid hid e0 hc hk2) ?_))));intro v1;refine DQ ?_;refine zr hcs ?_
  by_cases h0:c.length=0
  ·rw[if_pos h0]at hun
   repeat apply za
   refine ze [] h0 ?_;refine zn rfl (DQ ?_);exact zg ⟨_,S,DJ,⟨by simp[zp,hun],rfl⟩,zR hd⟩
  rw[if_neg h0]at hun
  repeat apply za
  refine zb ?_;refine zm (by simp;exact λe=>h0 (by rw[e];rfl)) ?_;refine zh ?_
  repeat apply za
  refine zb ?_;refine qS (nx:=nx) (λ_:Unit=>True) (λ_=>[(2,.ptr nx v0 0),(5,I place),(6,I most),(7,I k),(10,I (Zq c)),(11,.sl id ver 2 0 l.length),(12,I l.length),(13,I k)]) (λ_=>S) (λ_=>[.cells v0 395 (uB x d on tw fs bd ls ws)]) ?_ ?_
  ·by_cases h1:1<c.length
   ·obtain⟨a,ta,q1,-,-,q0⟩:=zJ rfl c 1 h1;obtain⟨b,tb,r1,-,-,r0⟩:=zJ rfl c 0 DH;have hab:Zq c=W (a-b):=by unfold Zq;rw[if_pos h1,Aa,Aa,q1,r1];rfl
    have g1:1<=c.length-1:=DH
    have g2:0<c.length:=DH
    have g3:1<=c.length:=DH
    have r0':(c.flatMap Enc.enc:List PV)=Enc.enc b++tb:=by simpa using r0
    have h1':(1:Int)<c.length:=DH
    refine zn DL ?_;rw[r0']at q0;have htb:tb=I a :: ta:=by simpa using q0
    rw[htb]at r0';refine zz none (Row.pures [0,1,2,3,4,5,6,7] .done) mixed (yl r0' h1 h1' g1 g2 g3) ?_;exact z8 () [_] trivial (by simp[hab]) rfl DJ
   ·have hab:Zq c=1099511627776:=by unfold Zq;rw[if_neg h1]
    refine zm DL ?_;exact zh (z8 () [_] trivial (by simp[hab]) rfl DJ)
  ·rintro⟨⟩ -;generalize Zq c=ab at *
   by_cases hq:place<0
   ·rw[if_pos (.inl hq)]at hun;refine za (ze [(2,37)] (zo hq zN) ?_);refine zn rfl (zb ?_);refine zb ?_;exact zq (k+1,(k:Int),ab) [] ⟨hc,by rw[<-hun,hg]⟩ DL (by simp[wk]) rfl DI
   ·by_cases hq2:most<ab
    ·rw[if_pos (.inr hq2)]at hun;refine za (ze [(2,37)] (zo hq hq2) ?_);refine zn rfl (zb ?_);refine zb ?_;exact zq (k+1,(k:Int),ab) [] ⟨hc,by rw[<-hun,hg]⟩ DL (by simp[wk]) rfl DI
    ·rw[if_neg (by rintro(q | q);exact hq q;exact hq2 q)]at hun;refine za (ze [(2,37)] (zo hq hq2) ?_);refine zm rfl (zh (zb ?_));exact zq (k+1,place,most) [] ⟨hc,by rw[<-hun,hg]⟩ DL (by simp[wk]) rfl DI
 ·simp at hc;obtain rfl:k=l.length:=DH
  refine zx ?_;have hgl:uc cz (l.drop l.length) l.length place most=place:=by rw[B5];rfl
  refine DQ ?_;exact zg ⟨_,S,DJ,⟨by simp[zp];rfl,rfl⟩,zR hd⟩
open Go Go.Proofs
theorem ZoL{x:Inst}{d:zk}{l:List Stop}{k:Nat}{s:Stop}(hu:Z2 x d l=k)(hk:l[k]?=some s):
  ud x l.length d l=bif (yK x d s).2 then ud x (l.eraseIdx k).length (yK x d s).1 (l.eraseIdx k) else (d,false):=by
 have hlt:=(Ac.1 hk).1;obtain⟨n,hn⟩:∃n,l.length=n+1:=⟨l.length-1,by omega⟩;have he:(l.eraseIdx k).length=n:=by rw[BO hlt];omega
 have hg:l.getD k default=s:=by rw[Aa,hk];rfl
 rw[hn,he,ud,hu,AN,hg]
theorem ZoM{x:Inst}{d:zk}{l:List Stop}(h:RgOk x d l):d.length<=1000/\d.flatten.length<=1000/\l.length<=1000:=by
 have h1:=h.dl;have h2:=h.len;omega
theorem ZoN(x:Inst)(l:List Stop)(hx:x.cust.length<=1048576)(hv:0<=x.veh)(hl:l.length<=1000):Pure prog 319 [.agg (zy x),L l] (.tup [.agg [L (jk x l).1],B (jk x l).2]):=by
 have hb:=Zgm hv hl;unfold jk
 by_cases h0:0<l.length
 case neg =>
  obtain rfl:l=[]:=Au DH;have hcl:=V8 [] DI;refine zt func319 ntmps319 results319 λS nx hd=>?_
  refine DQ ?_;intro v0 v1;refine DQ ?_;intro v2;refine qk 2 0 rfl rfl ?_;refine DQ ?_;refine zr hcl ?_;refine za (zj (zD (λ_:Nat=>True) (λ_=>[(2,.ptr nx v0 0),(4,.ptr (nx+1) v1 0),(6,.ptr (nx+2) v2 0),(7,L ([]:List Stop))]) (λ_=>[.cells v0 25 (zy x),.cells v1 39 [yq],.cells v2 39 [L ([]:zk)]]) (λk=>k) 0 [] trivial DI DI ?_));rintro k -
  repeat apply za
  refine zb ?_;refine zm rfl (zx (DQ ?_));exact zg (zi hd DJ (by simp[zp,ud]))
 refine zt func319 ntmps319 results319 λS nx hd=>?_
 refine DQ ?_;intro v0 v1;refine DQ ?_;intro v2;refine qk 2 0 rfl rfl ?_;refine DQ ?_;refine λhsuf=>((Zcb l h0 DH _ _ uU).mono ?_).v
 rintro _ _ ⟨v3,rfl,rfl⟩;refine⟨_,_,qG _,zG hsuf ?_⟩;refine za (zj (zD (λs':zk × List Stop × Nat=>ud x s'.2.1.length s'.1 s'.2.1=ud x l.length [] l/\RgOk x s'.1 s'.2.1) (λ(d,m,v3)=>[(2,.ptr nx v0 0),(4,.ptr (nx+1) v1 0),(6,.ptr (nx+2) v2 0),(7,.sl (nx+3) v3 2 0 m.length)]) (λ(d,m,v3)=>[.cells v0 25 (zy x),.cells v1 39 [yq],.cells v2 39 [L d],.cells v3 100 (m.flatMap Enc.enc)]) (λs'=>s'.2.1.length) ([],l,v3) [] ⟨rfl,hb⟩ DI DI ?_));rintro⟨d,m,v3⟩ ⟨hr,hok⟩;simp only at hr hok ⊢;rw[<-hr]
 by_cases hm:m=[]
 ·subst hm
  repeat apply za
  refine zb ?_;refine zm rfl (zx (DQ ?_));exact zg (zi hd DJ (by simp[zp,ud]))
 ·have hm0:0<m.length:=BI.2 hm;obtain⟨k,hu,hk⟩:=Zgl (x:=x) (d:=d) hm;obtain⟨s,tl,a1,a2,a3,e1,e0⟩:=el 2 rfl m k hk;have hk2:2<=m.length*2-k*2:=DH
  have hst:=ZoL hu a1;obtain⟨b1,b2,b3⟩:=ZoM hok;have hsee:=ZfK x d hx hok.ok DH;have hins:=Zcp x d s hx hok.ok DH;have hnx:=λh=>hok.step hx hk (s:=s) h
  have hurg:=λ(S:Store) (id ver:Nat) h=>ZoK x d m hx hok (S:=S) (id:=id) (ver:=ver) h
  rw[hu]at hurg;obtain⟨on,tw,fs,bd,ls,ws,hlk⟩:∃on tw fs bd ls ws,Zn x d=uB x d on tw fs bd ls ws:=⟨_,_,_,_,_,_,rfl⟩;rw[hlk]at hsee hurg;clear hlk;have hno:=ZfV (x:=x) (d:=d) (s:=s);generalize hi:yK x d s=r at *;obtain⟨d2,ok⟩:=r;simp only at hst hnx hno;have wk:=zu k DH;have hm0':(0:Int)<m.length:=DH
  repeat apply za
  refine ze [] hm0' ?_;refine zn (by simp;exact hm0) ?_;refine zh (zj (DQ ?_));refine λhsuf=>((hsee _).mono ?_).v
  rintro _ _ ⟨rfl,rfl⟩;refine⟨_,_,rfl,zG hsuf ?_⟩;refine λhsuf=>((hurg _ _ _ (by rw[zQ];rfl)).mono ?_).v
  rintro _ _ ⟨rfl,rfl⟩;refine⟨_,_,rfl,zG hsuf ?_⟩;refine za (zz (some [nx,nx+2,nx+3]) (Row.pures [0,1,2,3,4,5,6,7,8,9] (.alt 10 (.alt 11 (Row.pures [12] .done) .stop) .stop)) mixed (zF e0 hk hk2) ?_);refine zK (hins) trivial ?_;intro v4
  repeat apply za
  refine zb ?_;cases ok with
  | false =>
   simp only[cond_false]at hst;refine zn rfl (DQ ?_);exact zg (zi hd DJ (by simp[zp,hst]))
  | true =>
   simp only[cond_true]at hst;refine zm rfl (zh ?_);have hkl:=BO hk;refine zz (some [nx+4]) (Row.pures [0,1,2,3,4] (.alt 5 (.alt 6 (Row.pures [7] .done) .stop) .stop)) mixed wk ?_
   skip
   refine((ZoC m k hk DH (by rw[zQ];rfl)).mono ?_).v;rintro _ _ ⟨rfl,rfl⟩;rw[yc _ DH DI,AG];refine⟨by simp[yH],ju trivial ?_⟩;exact zq (d2,m.eraseIdx k,v3+1) [_] ⟨hst.symm,hnx rfl⟩ (by simp only;omega) DI rfl DJ
open Go Go.Proofs
def wV(step:zk->Option zk):Nat->zk->zk
 | 0,d=>d
 | n+1,d=>match step d with
  | none=>d
  | some e=>wV step n e
def Zr(step:zk->Option zk):Nat->zk->Nat
 | 0,_=>0
 | n+1,d=>match step d with
  | none=>0
  | some e=>Zr step n e+1
def Zgn(x:Inst)(step:zk->Option zk)(G:zk->Prop):Prop:=∀d,G d->∃mk ma mb mi mj least,Pure prog 291 [.agg (zy x),.agg [L d]] (.tup [.agg [I mk,I ma,I mb,I mi,I mj],I least,B (step d).isSome]) /\
 ∀e,step d=some e->Pure prog 292 [.agg (zy x),.agg [L d],.agg [I mk,I ma,I mb,I mi,I mj]] (.tup [.agg [L e],I 0])/\G e
theorem Zgo(x:Inst)(d:zk)(b:Int)(step:zk->Option zk)(G:zk->Prop)(hb:b<=9223372036854775807)(hdn:d.length<=1048576)(hdt:∀t∈d,t.length<=1048576)(hd':0<b->G d)(hs:Zgn x step G):Pure prog 252 [.agg (zy x),.agg [L d],I b] (.tup [.agg [L (wV step b.toNat d)],I (if Zr step b.toNat d<b.toNat then (Zr step b.toNat d:Int) else qP b 0)]):=by
 refine zt func252 ntmps252 results252 λS nx hd=>?_
 refine DQ ?_;intro v0 v1 v2;refine DQ ?_;intro v3;refine qQ 3 0 42 1 rfl rfl λv4=>?_
 repeat apply za
 refine zb ?_;refine zj (zD (λs':Nat × Nat=>s'.1<=d.length) (λ(k,v4)=>[(2,I b),(3,.ptr nx v0 0),(6,.ptr (nx+2) v2 0),(7,I 0),(8,.ptr (nx+3) v3 0),(16,L d),(17,I d.length),(18,I k)]) (λ(k,v4)=>[.cells v0 25 (zy x),.cells v1 39 [L d],.cells v2 39 [yq],.cells v3 39 [.sl (nx+4) v4 1 0 k],.cells v4 42 ((d.take k).flatMap Enc.enc)]) (λs'=>d.length-s'.1) (0,v4) [] DI DI DI ?_);rintro⟨k,v4⟩ hk;simp only at hk ⊢;refine DQ ?_;refine za (zv rfl (λhc=>?_) (λhc=>?_))
 ·simp at hc;obtain⟨t,tl,a1,a2,a3,e0⟩:=zJ rfl d k hc;have hk1:1<=d.length-k:=DH
  have hcl:=V8 t (hdt t (Ab a1));have hcl':((d.take k).flatMap Enc.enc:List PV).length=k:=by rw[jR,Ax];omega
  have hct:((d.take k).flatMap Enc.enc:List PV).take k=(d.take k).flatMap Enc.enc:=Af DH;have hcn:((d.take (k+1)).flatMap Enc.enc:List PV)=(d.take k).flatMap Enc.enc++[L t]:=by rw[a3,Ar];rfl
  generalize ((d.take k).flatMap Enc.enc:List PV)=cs at *;refine zh (za (zj (za (ze [] (zF e0 hc hk1) ?_))));intro v5;refine zz (some [nx+5]) (Row.pures [0,2,3,4,5,6] (.alt 1 (.alt 7 (Row.pures [8] (.alt 9 (.done) .stop)) .stop) .stop)) mixed (zo hcl' hct) ?_;refine zK (hcl) (zo hcl' hct) ?_;refine⟨by omega,?_⟩;refine zb ?_;exact zq (k+1,v4+1) [_] hc DL (by simp[zu k (by omega)]) rfl (by simp[hcn];rfl)
 ·simp at hc;obtain rfl:k=d.length:=DH
  have g1:d.take d.length=d:=Ak;refine zx ?_;rw[g1];refine yb 4 rfl ?_
  repeat apply za
  refine zb ?_;clear hk hc g1;refine zj (zD (λs':Nat × zk=>s'.1<=b.toNat/\(0<b->G s'.2)/\wV step (b.toNat-s'.1) s'.2=wV step b.toNat d/\s'.1+Zr step (b.toNat-s'.1) s'.2=Zr step b.toNat d) (λ(k,e)=>[(2,I b),(3,.ptr nx v0 0),(6,.ptr (nx+2) v2 0),(8,.ptr (nx+3) v3 0),(11,I k)]) (λ(k,e)=>[.cells v0 25 (zy x),.cells v1 39 [L d],.cells v2 39 [yq],.cells v3 39 [L e]]) (λs'=>b.toNat-s'.1) (0,d) [.dead] ⟨by simp,hd',by simp,by simp⟩ DI DI ?_);rintro⟨k,e⟩ ⟨hk,hG,hi,hco⟩;simp only at hk hG hi hco ⊢;rw[<-hi]
  repeat apply za
  refine zb ?_;refine zv rfl (λhc=>?_) (λhc=>?_)
  ·simp at hc;obtain⟨mk,ma,mb,mi,mj,least,hB,hM⟩:=hs e (hG DH);obtain⟨n,hn⟩:∃n,b.toNat-k=n+1:=⟨b.toNat-k-1,by omega⟩;refine zh (za (zj (DQ ?_)));refine zr hB ?_;intro v5
   repeat apply za
   refine zb ?_;cases hst:step e with
   | none =>
    have hr:wV step (b.toNat-k) e=e:=by rw[hn];unfold wV;rw[hst]
    have hr2:Zr step (b.toNat-k) e=0:=by rw[hn];unfold Zr;rw[hst]
    rw[hr2]at hco;rw[hr,<-hco,if_pos DH];refine zn rfl (DQ ?_);exact zg (zi hd DJ (by simp[zp]))
   | some e2 =>
    have hr:wV step (b.toNat-k) e=wV step (b.toNat-(k+1)) e2:=by rw[hn,show b.toNat-(k+1)=n by omega];conv=>lhs;unfold wV;rw[hst]
    have hr2:Zr step (b.toNat-k) e=Zr step (b.toNat-(k+1)) e2+1:=by rw[hn,show b.toNat-(k+1)=n by omega];conv=>lhs;unfold Zr;rw[hst]
    obtain⟨hM1,hG2⟩:=hM e2 hst;refine zm rfl (zh (zb ?_));refine zr hM1 ?_;refine zb ?_;exact zq (k+1,e2) [_] ⟨by simp;omega,λ_=>hG2,hr.symm,by simp only;omega⟩ DL (by simp[zu k (by omega)]) rfl DJ
  ·simp at hc;have hz:b.toNat-k=0:=DH
   rw[hz]at hco ⊢;have hco':Zr step b.toNat d=k:=by rw[<-hco];rfl
   rw[hco',if_neg DH];refine zx (DQ ?_);exact zg (zi hd DJ (by simp[zp,wV]))
open Go Go.Proofs
structure Pc where
 t:Nat
 f:Nat
 o:Nat
 b:Bool
 deriving DecidableEq
def yJ:Pc:=⟨0,0,0,false⟩
abbrev pcL(p:Pc):List PV:=[I p.t,I p.f,I p.o,B p.b]
structure Rw5 where
 a:Pc
 b:Pc
 c:Pc
 d:Pc
 e:Pc
abbrev yt(r:Rw5):List PV:=[I r.a.t,I r.a.f,I r.a.o,B r.a.b,I r.b.t,I r.b.f,I r.b.o,B r.b.b,I r.c.t,I r.c.f,I r.c.o,B r.c.b,I r.d.t,I r.d.f,I r.d.o,B r.d.b,I r.e.t,I r.e.f,I r.e.o,B r.e.b]
def Rw5.l(r:Rw5):List Pc:=[r.a,r.b,r.c,r.d,r.e]
def xu:Rw5:=⟨yJ,yJ,yJ,yJ,yJ⟩
structure Mv where
 k:Nat
 a:Nat
 b:Nat
 i:Nat
 j:Nat
 deriving DecidableEq
abbrev u5(m:Mv):List PV:=[I m.k,I m.a,I m.b,I m.i,I m.j]
abbrev Zs(m:Mv)(la lb:Nat):List PV:=[I m.k,I m.a,I m.b,I m.i,I m.j,I la,I lb]
def vE(m:Mv)(la lb:Nat):Bool :=
 if m.k=0 then decide (m.b=m.a/\m.i<m.j/\m.j<la)
 else if m.k=1 then decide (m.i<la/\(if m.a=m.b then m.j<lb else m.j<=lb))
 else if m.k=2 then decide (¬(m.b<m.a\/m.a=m.b/\m.j<=m.i)/\m.i<la/\m.j<lb)
 else decide (m.a<m.b/\m.i<=la/\m.j<=lb)
def xv(m:Mv)(la lb:Nat):Rw5 × Rw5 :=
 if m.k=0 then (⟨⟨m.a,0,m.i,false⟩,⟨m.a,m.i,m.j+1,true⟩,⟨m.a,m.j+1,la,false⟩,yJ,yJ⟩,xu)
 else if m.k=1 then
  (if m.a≠m.b then (⟨⟨m.a,0,m.i,false⟩,⟨m.a,m.i+1,la,false⟩,yJ,yJ,yJ⟩,⟨⟨m.b,0,m.j,false⟩,⟨m.a,m.i,m.i+1,false⟩,⟨m.b,m.j,lb,false⟩,yJ,yJ⟩)
  else if m.i<m.j then (⟨⟨m.a,0,m.i,false⟩,⟨m.a,m.i+1,m.j+1,false⟩,⟨m.a,m.i,m.i+1,false⟩,⟨m.a,m.j+1,la,false⟩,yJ⟩,xu)
  else (⟨⟨m.a,0,m.j,false⟩,⟨m.a,m.i,m.i+1,false⟩,⟨m.a,m.j,m.i,false⟩,⟨m.a,m.i+1,la,false⟩,yJ⟩,xu))
 else if m.k=2 then
  (if m.a=m.b then (⟨⟨m.a,0,m.i,false⟩,⟨m.b,m.j,m.j+1,false⟩,⟨m.a,m.i+1,m.j,false⟩,⟨m.a,m.i,m.i+1,false⟩,⟨m.a,m.j+1,la,false⟩⟩,xu)
  else (⟨⟨m.a,0,m.i,false⟩,⟨m.b,m.j,m.j+1,false⟩,⟨m.a,m.i+1,la,false⟩,yJ,yJ⟩,⟨⟨m.b,0,m.j,false⟩,⟨m.a,m.i,m.i+1,false⟩,⟨m.b,m.j+1,lb,false⟩,yJ,yJ⟩))
 else (⟨⟨m.a,0,m.i,false⟩,⟨m.b,m.j,lb,false⟩,yJ,yJ,yJ⟩,⟨⟨m.b,0,m.j,false⟩,⟨m.a,m.i,la,false⟩,yJ,yJ,yJ⟩)
theorem ZoP(m:Mv)(la lb:Nat)(hk:m.k=0):Pure prog 357 [.agg (Zs m la lb)] (B (vE m la lb)):=by
 unfold vE;rw[if_pos hk];refine zt func357 ntmps357 results357 λS nx hd=>?_
 refine DQ ?_;intro v0
 by_cases h1:m.b=m.a
 case neg =>
  have h1':¬(m.b:Int)=m.a:=DH
  refine za (ze [(7,10),(13,16),(22,25)] (zo h1' zN) ?_);exact zg (zi hd rfl (by simp[h1,zp]))
 have h1':(m.b:Int)=m.a:=DH
 by_cases h2:m.i<m.j
 case neg =>
  have h2':¬(m.i:Int)<m.j:=DH
  refine za (ze [(7,10),(13,16),(22,25)] (zF h1' h2 zN) ?_);exact zg (zi hd rfl (by simp[h2,zp]))
 by_cases h3:m.j<la
 case neg =>
  refine za (ze [(7,10),(13,16),(22,25)] (zV h1' h2 h3 zN) ?_);exact zg (zi hd rfl (by simp[h3,zp]))
 refine za (ze [(7,10),(13,16),(22,25)] (zF h1' h2 h3) ?_);exact zg (zi hd rfl (by simp[h1,h2,h3,zp]))
theorem ZoQ(m:Mv)(la lb:Nat)(hk:m.k=1)(hlb:lb<=1048576):Pure prog 359 [.agg (Zs m la lb)] (B (vE m la lb)):=by
 unfold vE;rw[if_neg DH,if_pos hk];refine zt func359 ntmps359 results359 λS nx hd=>?_
 refine DQ ?_;intro v0;refine DQ ?_;refine za (qS (nx:=nx) (λz:Int=>(m.j:Int)<=z<->(if m.a=m.b then m.j<lb else m.j<=lb)) (λz=>[(1,.ptr nx v0 0),(3,I z)]) (λ_=>S) (λ_=>[.cells v0 420 (Zs m la lb)]) ?_ ?_)
 ·by_cases h1:m.a=m.b
  ·have h1':(m.a:Int)=m.b:=DH
   have w1:IntKind.i64.wrap ((lb:Int)-1)=(lb:Int)-1:=wr _ DH DH;refine za (ze [] h1' ?_);refine zn rfl (ze [] w1 ?_);exact z8 ((lb:Int)-1) [] (by rw[if_pos h1];omega) DI rfl DI
  ·have h1':¬(m.a:Int)=m.b:=DH
   refine za (ze [] h1' ?_);exact zm rfl (zh (z8 (lb:Int) [] (by rw[if_neg h1];omega) DI rfl DI))
 ·intro z hz
  by_cases h2:m.i<la
  case neg =>
   refine za (ze [(4,19),(12,27),(18,33)] (zo h2 zN) ?_);exact zg (zi hd rfl (by simp[h2,zp]))
  by_cases h3:(m.j:Int)<=z
  case neg =>
   have h4:=(not_congr hz).1 h3;refine za (ze [(4,19),(12,27),(18,33)] (zo h2 h3) ?_);exact zg (zi hd rfl (by simp[h2,h4,zp]))
  have h4:=hz.1 h3;refine za (ze [(4,19),(12,27),(18,33)] (zo h2 h3) ?_);exact zg (zi hd rfl (by simp[h2,h4,zp]))
theorem ZoR(m:Mv)(la lb:Nat)(hk:m.k=2):Pure prog 361 [.agg (Zs m la lb)] (B (vE m la lb)):=by
 unfold vE;rw[if_neg DH,if_neg DH,if_pos hk];refine zt func361 ntmps361 results361 λS nx hd=>?_
 refine DQ ?_;intro v0;have rest:∀(P:Prop),(m.i<la->m.j<lb->P)->(¬(m.i<la/\m.j<lb)->P)->P:=λP a b=>by
  by_cases q:m.i<la/\m.j<lb
  ·exact a q.1 q.2
  ·exact b q
 by_cases h1:m.b<m.a
 ·repeat apply za
  refine ze [(7,10),(15,18)] (zo h1 zN) ?_;refine zn rfl (DQ ?_);exact zg (zi hd rfl (by simp[h1,zp]))
 by_cases h2:m.a=m.b
 ·have h2':(m.a:Int)=m.b:=DH
  by_cases h3:m.j<=m.i
  ·have h1':¬m.b<m.b:=DH
   repeat apply za
   refine ze [(7,10),(15,18)] (zF h2' h1' h3) ?_;refine zn rfl (DQ ?_);exact zg (zi hd rfl (by simp[h2,h3,zp]))
  ·have h1':¬m.b<m.b:=DH
   have h0:¬(m.b<m.a\/m.a=m.b/\m.j<=m.i):=DH
   repeat apply za
   refine ze [(7,10),(15,18)] (zF h2' h1' h3) ?_;refine zm rfl (zh ?_)
   by_cases h4:m.i<la
   case neg =>
    refine za (ze [(4,32),(12,40),(18,46)] (zo h4 zN) ?_);exact zg (zi hd rfl (by simp[h4,zp]))
   by_cases h5:m.j<lb
   case neg =>
    refine za (ze [(4,32),(12,40),(18,46)] (zo h4 h5) ?_);exact zg (zi hd rfl (by simp[h5,zp]))
   refine za (ze [(4,32),(12,40),(18,46)] (zo h4 h5) ?_);exact zg (zi hd rfl (by simp[h0,h4,h5,zp]))
 ·have h2':¬(m.a:Int)=m.b:=DH
  have h0:¬(m.b<m.a\/m.a=m.b/\m.j<=m.i):=DH
  repeat apply za
  refine ze [(7,10),(15,18)] (zF h1 h2' zN) ?_;refine zm rfl (zh ?_)
  by_cases h4:m.i<la
  case neg =>
   refine za (ze [(4,32),(12,40),(18,46)] (zo h4 zN) ?_);exact zg (zi hd rfl (by simp[h4,zp]))
  by_cases h5:m.j<lb
  case neg =>
   refine za (ze [(4,32),(12,40),(18,46)] (zo h4 h5) ?_);exact zg (zi hd rfl (by simp[h5,zp]))
  refine za (ze [(4,32),(12,40),(18,46)] (zo h4 h5) ?_);exact zg (zi hd rfl (by simp[h0,h4,h5,zp]))
theorem ZoS(m:Mv)(la lb:Nat)(hk:3<=m.k):Pure prog 363 [.agg (Zs m la lb)] (B (vE m la lb)):=by
 unfold vE;rw[if_neg DH,if_neg DH,if_neg DH];refine zt func363 ntmps363 results363 λS nx hd=>?_
 refine DQ ?_;intro v0
 by_cases h1:m.a<m.b
 case neg =>
  refine za (ze [(7,10),(13,16),(21,24),(27,30)] (zo h1 zN) ?_);exact zg (zi hd rfl (by simp[h1,zp]))
 by_cases h2:m.i<=la
 case neg =>
  refine za (ze [(7,10),(13,16),(21,24),(27,30)] (zF h1 h2 zN) ?_);exact zg (zi hd rfl (by simp[h2,zp]))
 by_cases h3:m.j<=lb
 case neg =>
  refine za (ze [(7,10),(13,16),(21,24),(27,30)] (zF h1 h2 h3) ?_);exact zg (zi hd rfl (by simp[h3,zp]))
 refine za (ze [(7,10),(13,16),(21,24),(27,30)] (zF h1 h2 h3) ?_);exact zg (zi hd rfl (by simp[h1,h2,h3,zp]))
theorem ZoT(m:Mv)(la lb:Nat)(hk:m.k=0)(hi:m.i<=1048576)(hj:m.j<=1048576):Pure prog 358 [.agg (Zs m la lb)] (.tup [.agg (yt (xv m la lb).1),.agg (yt (xv m la lb).2)]):=by
 have wi:=zu m.i DH;have wj:=zu m.j DH;unfold xv;rw[if_pos hk];refine zt func358 ntmps358 results358 λS nx hd=>?_
 refine DQ ?_;intro v0 v1 v2;refine za (zz (some [nx]) (Row.pures [0,1,2,3,4,5,6,7,8,9,10,11] .done) mixed trivial ?_);refine za (ze [] wj ?_);exact zg (zi hd DJ (by simp[zp,xu,yJ]))
theorem ZoU(m:Mv)(la lb:Nat)(hk:3<=m.k):Pure prog 364 [.agg (Zs m la lb)] (.tup [.agg (yt (xv m la lb).1),.agg (yt (xv m la lb).2)]):=by
 unfold xv;rw[if_neg DH,if_neg DH,if_neg DH];refine zt func364 ntmps364 results364 λS nx hd=>?_
 refine DQ ?_;intro v0 v1 v2;refine za (zz (some [nx]) (Row.pures [0,1,2,3,4,5,6,7,8,9,10,11,12,13,14,15] .done) mixed trivial ?_);refine za (zz (some [nx]) (Row.pures [0,1,2,3,4,5,6,7,8,9,10,11,12,13,14,15,16,17] (.alt 18 (.alt 19 (.done) .stop) .stop)) mixed trivial ?_);exact zg (zi hd DJ (by simp[zp,xu,yJ]))
theorem ZoV(m:Mv)(la lb:Nat)(hk:m.k=1)(hi:m.i<=1048576)(hj:m.j<=1048576):Pure prog 360 [.agg (Zs m la lb)] (.tup [.agg (yt (xv m la lb).1),.agg (yt (xv m la lb).2)]):=by
 have wi:=zu m.i DH;have wj:=zu m.j DH;unfold xv;rw[if_neg DH,if_pos hk];refine zt func360 ntmps360 results360 λS nx hd=>?_
 refine DQ ?_;intro v0 v1 v2;refine za (zz (some [nx]) (Row.pures [0,1,2,3,4,5,6,7,8,9,10,11,12,13,14,15] .done) mixed trivial ?_);refine za (ze [] wi ?_);intro v3;refine za (zj ?_)
 by_cases h1:m.a=m.b
 case neg =>
  have h1':¬(m.a:Int)=m.b:=DH
  rw[if_pos h1];refine za (ze [] h1' ?_);refine zn rfl (za (zz (some [nx,nx+3]) (Row.pures [0,1,2,3,4,5,6,7,8,9,10,11,12,13,14,15,16,17,18,19] (.alt 20 (.alt 21 (.done) .stop) .stop)) mixed wi ?_));exact zg (zi hd DJ (by simp[zp,xu,yJ]))
 have h1':(m.a:Int)=m.b:=DH
 rw[if_neg (by simpa using h1)];refine za (ze [] h1' ?_);refine zm rfl ?_
 by_cases h2:m.i<m.j
 ·rw[if_pos h2];refine za (ze [] h2 ?_);refine zn rfl (za (ze [] (zo wi wj) ?_));exact zg (zi hd DJ (by simp[zp,xu,yJ,h1]))
 ·rw[if_neg h2];refine za (ze [] h2 ?_);refine zm rfl (zh (za (ze [] (zo wi wj) ?_)));exact zg (zi hd DJ (by simp[zp,xu,yJ,h1]))
theorem ZoW(m:Mv)(la lb:Nat)(hk:m.k=2)(hi:m.i<=1048576)(hj:m.j<=1048576):Pure prog 362 [.agg (Zs m la lb)] (.tup [.agg (yt (xv m la lb).1),.agg (yt (xv m la lb).2)]):=by
 have wi:=zu m.i DH;have wj:=zu m.j DH;unfold xv;rw[if_neg DH,if_neg DH,if_pos hk];refine zt func362 ntmps362 results362 λS nx hd=>?_
 refine DQ ?_;intro v0 v1 v2;refine za (zz (some [nx]) (Row.pures [0,1,2,3,4,5,6,7,8,9,10,11,12,13,14,15] .done) mixed trivial ?_);refine za (ze [] (zo wi wj) ?_);intro v3 v4
 by_cases h1:m.a=m.b
 ·have h1':(m.a:Int)=m.b:=DH
  rw[if_pos h1]
  repeat apply za
  refine ze [] h1' ?_;refine zn rfl (za (ze [] (zo wi wj) ?_));exact zg (zi hd DJ (by simp[zp,xu,yJ,h1]))
 ·have h1':¬(m.a:Int)=m.b:=DH
  rw[if_neg h1]
  repeat apply za
  refine ze [] h1' ?_;refine zm rfl (zh (za (zz (some [nx,nx+3,nx+4]) (Row.pures [0,1,2,3,4,5,6,7,8,9,10,11,12,13,14,15,16,17,18,19,20,21] (.alt 22 (.alt 23 (.done) .stop) .stop)) mixed (zo wi wj) ?_)));exact zg (zi hd DJ (by simp[zp,xu,yJ]))
open Go Go.Proofs
abbrev Zag:List PV:=[.fn (.func 357) [] [],.fn (.func 358) [] [],.fn (.func 359) [] [],.fn (.func 360) [] [],.fn (.func 361) [] [],.fn (.func 362) [] [],.fn (.func 363) [] [],.fn (.func 364) [] []]
theorem Zgp:Pure prog 340 [] (.agg Zag):=by
 refine zt func340 ntmps340 results340 λS nx hd=>?_
 refine DQ ?_;intro v0;refine DQ ?_;exact DR hd
def qC(d:zk)(t:Nat):Nat:=(d.getD t []).length
def xT(d:zk)(m:Mv):Bool:=decide (m.k<=3/\m.a<d.length/\m.b<d.length) && vE m (qC d m.a) (qC d m.b)
def yp(d:zk)(m:Mv):Rw5 × Rw5:=xv m (qC d m.a) (qC d m.b)
def Z3(d:zk)(m:Mv):Rw5 × Rw5 × Bool:=if xT d m=true then ((yp d m).1,(yp d m).2,true) else (xu,xu,false)
theorem Zct(d:zk)(m:Mv)(hdn:d.length<=1048576)(hdt:∀t∈d,t.length<=1048576)(hk:m.k<=3)(ha:m.a<d.length)(hb:m.b<d.length)(hi:m.i<=1048576)(hj:m.j<=1048576):Pure prog 326 [.agg [L d],.agg (u5 m)]
  (.tup [.agg (yt (Z3 d m).1),.agg (yt (Z3 d m).2.1),B (Z3 d m).2.2]):=by
 obtain⟨ta,xa,a1,-,-,a0⟩:=zJ rfl d m.a ha;obtain⟨tb,xb,b1,-,-,b0⟩:=zJ rfl d m.b hb;have ha1:1<=d.length-m.a:=DH
 have hb1:1<=d.length-m.b:=DH
 have la:qC d m.a=ta.length:=by unfold qC;rw[Aa,a1];rfl
 have lb:qC d m.b=tb.length:=by unfold qC;rw[Aa,b1];rfl
 have hbl:=hdt tb (Ab b1);have hmay:xT d m=vE m ta.length tb.length:=by unfold xT;rw[la,lb,decide_eq_true ⟨hk,ha,hb⟩];rfl
 have hcut:yp d m=xv m ta.length tb.length:=by unfold yp;rw[la,lb]
 unfold Z3;rw[hmay,hcut];clear hmay hcut la lb;have call:∀f g:Nat,m.k=m.k->True:=λ_ _ _=>trivial
 clear call;have g1:¬(m.k:Int)<0:=DH
 have g2:¬(3:Int)<m.k:=DH
 have g3:¬(m.a:Int)<0:=DH
 have g4:¬d.length<=m.a:=DH
 have g5:¬(m.b:Int)<0:=DH
 have g6:¬d.length<=m.b:=DH
 refine zt func326 ntmps326 results326 λS nx hd=>?_
 refine DQ ?_;intro v0 v1 v2 v3;refine DQ ?_
 repeat apply za
 refine ze [(3,18),(8,23),(13,28),(19,34),(24,39)] (yl g1 g2 g3 g4 g5 g6) ?_;refine zm rfl (zh (za (zz (some [nx,nx+1]) (Row.pures [0,1,2,3,4,5,6,7,8,9,10,11,12,13,14,15,16,17] (.alt 18 (.alt 19 (.done) .stop) .stop)) mixed (yl a0 b0 ha hb ha1 hb1) ?_)));intro v4;obtain⟨mf,cf,hmf,hcf,hidx⟩:∃mf cf:Nat,Pure prog mf [.agg (Zs m ta.length tb.length)] (B (vE m ta.length tb.length))/\Pure prog cf [.agg (Zs m ta.length tb.length)] (.tup [.agg (yt (xv m ta.length tb.length).1),.agg (yt (xv m ta.length tb.length).2)]) /\
   ∃k:Nat,(k:Int)=m.k/\k<4/\(Zag.drop (k*2)).take 2=[.fn (.func mf) [] [],.fn (.func cf) [] []]:=by
  have h4:m.k=0\/m.k=1\/m.k=2\/m.k=3:=DH
  rcases h4 with h | h | h | h
  ·exact⟨_,_,ZoP m _ _ h,ZoT m _ _ h hi hj,0,by omega,by omega,rfl⟩
  ·exact⟨_,_,ZoQ m _ _ h hbl,ZoV m _ _ h hi hj,1,by omega,by omega,rfl⟩
  ·exact⟨_,_,ZoR m _ _ h,ZoW m _ _ h hi hj,2,by omega,by omega,rfl⟩
  ·exact⟨_,_,ZoS m _ _ DH,ZoU m _ _ DH,3,by omega,by omega,rfl⟩
 obtain⟨k,hkk,hk4,hkt⟩:=hidx;obtain rfl:k=m.k:=DH
 have hk4':(m.k:Int)<4:=DH
 have hk5:2<=8-m.k*2:=DH
 generalize hmz:vE m ta.length tb.length=mz at *;generalize hcz:xv m ta.length tb.length=cz at *;obtain⟨r1,r2⟩:=cz;generalize hkl:Zag=kl at hkt;have hkinds:=Zgp;rw[hkl]at hkinds;have hkll:kl.length=8:=by rw[<-hkl];rfl
 clear hkl;refine za (zz (some [nx+1]) (Row.pures [0,1,2,3] (.alt 4 (.alt 5 (.done) .stop) .stop)) mixed (yE hkt hk4 hk4' hkll hk5) ?_);refine zK (hkinds) (yE hkt hk4 hk4' hkll hk5) ?_;intro v5
 repeat apply za
 refine zb ?_;refine zr hmf ?_;cases mz with
 | false =>
  refine zn rfl (DQ ?_);exact zg (zi hd DJ (by simp[zp,xu,yJ]))
 | true =>
  refine zm rfl (zh (DQ ?_));refine zr hcf ?_;intro v6 v7;refine za (zz (some [nx+6,nx+7]) (Row.pures [0,1] (.alt 2 (.alt 3 (Row.pures [4] .done) .stop) .stop)) mixed trivial ?_);exact zg (zi hd DJ (by simp[zp]))
open Go Go.Proofs
theorem Zgq(l:List Stop)(k:Nat)(s:Stop)(h:k<l.length):ye (l.flatMap Enc.enc) (k*2) [I s.c,I s.q]=(l.set k s).flatMap Enc.enc:=by
 unfold ye;rw[AF,if_pos h,Ar,Az,<-Q9 Enc.enc 2 (λ_=>rfl) l k,<-JZ Enc.enc 2 (λ_=>rfl) l (k+1)];simp[show k*2+2=(k+1)*2 by omega]
def jl(l:List Stop)(k:Nat):List Stop:=(List.range l.length).map λq=>if q<k\/l.length-1-q<k then l.getD (l.length-1-q) default else l.getD q default
theorem uC(l:List Stop)(k:Nat):(jl l k).length=l.length:=by simp[jl]
theorem Xp{l:List Stop}{k q:Nat}(hq:q<l.length):(jl l k)[q]?=some (if q<k\/l.length-1-q<k then l.getD (l.length-1-q) default else l.getD q default):=by
 unfold jl;rw[Ai,Bk hq];rfl
theorem ZoX(l:List Stop):jl l 0=l:=by
 apply A5;intro q
 by_cases h:q<l.length
 ·rw[Xp h,if_neg DH,Aa,Ae h];rfl
 ·rw[An (by rw[uC];omega),An DH]
theorem ZoY{l:List Stop}{k:Nat}(hk:l.length-1<=k+k):jl l k=l.reverse:=by
 apply A5;intro q
 by_cases h:q<l.length
 ·rw[Xp h,List.getElem?_reverse h]
  by_cases h1:q<k\/l.length-1-q<k
  ·rw[if_pos h1,Aa,Ae DH];rfl
  ·rw[if_neg h1,Aa];have:q=l.length-1-q:=DH
   rw[<-this,Ae h];rfl
 ·rw[An (by rw[uC];omega),An DL]
theorem ZoZ{l:List Stop}{k:Nat}(h:k<l.length-1-k){a b:Stop}(ha:(jl l k)[k]?=some a)(hb:(jl l k)[l.length-1-k]?=some b):((jl l k).set k b).set (l.length-1-k) a=jl l (k+1):=by
 rw[Xp DH,if_neg DH]at ha;rw[Xp DH,if_neg DH]at hb;cases ha;cases hb;apply A5;intro q
 by_cases hq:q<l.length
 ·rw[Xp hq,Bt,Bt]
  by_cases e1:l.length-1-k=q
  ·rw[if_pos e1,if_pos (by rw[BE,uC];omega),if_pos DH];congr 2;omega
  ·rw[if_neg e1]
   by_cases e2:k=q
   ·subst e2;rw[if_pos rfl,if_pos (by rw[uC];exact hq),if_pos DH]
   ·rw[if_neg e2,Xp hq]
    by_cases h1:q<k\/l.length-1-q<k
    ·rw[if_pos h1,if_pos DH]
    ·rw[if_neg h1,if_neg DH]
 ·rw[An (by rw[BE,BE,uC];omega),An (by rw[uC];omega)]
theorem Zah(S:Store)(i:Nat)(a b:Ob):(S.set i a).set i b=S.set i b:=by
 funext o
 by_cases h:o=i
 ·subst h;rw[q11,q11]
 ·rw[q10 _ _ _ _ h,q10 _ _ _ _ h,q10 _ _ _ _ h]
theorem Zo0{S:Store}{id ver:Nat}(pre l:List Stop)(hn:(pre++l).length<=1048576)(hid:S id=.cells ver 100 ((pre++l).flatMap Enc.enc)):
  Spec prog 344 [.sl id ver 2 (pre.length*2) l.length] S (λ_ S'=>S'=S.set id (.cells ver 100 ((pre++l.reverse).flatMap Enc.enc))):=by
 refine yi func344 ntmps344 results344 λnx hd=>?_
 have hlt:id<nx:=yU hd hid DI;simp only[Aq]at hn;have w0:IntKind.i64.wrap ((l.length:Int)-1)=(l.length:Int)-1:=wr _ DH DH;refine za (ze [] w0 ?_);refine zj (jt (σ:=Nat) (λk=>k<=l.length) (λk=>[(0,.sl id ver 2 (pre.length*2) l.length),(2,I k),(3,I ((l.length:Int)-1-k))]) (λk=>S.set id (.cells ver 100 ((pre++jl l k).flatMap Enc.enc))) (λ_=>[]) (λk=>l.length-k) (z8 0 [] DI DI (by rw[ZoX];exact Xe S id _ hid) DI) ?_);rintro k hk
 show PW _ _ _ _ _ _ _ (ext (S.set id (.cells ver 100 ((pre++jl l k).flatMap Enc.enc))) nx [])
 obtain⟨T,hT⟩:∃T,T=S.set id (.cells ver 100 ((pre++jl l k).flatMap Enc.enc)):=⟨_,rfl⟩;rw[<-hT]
 repeat apply za
 refine zb ?_;refine zv rfl (λhc=>?_) (λhc=>?_)
 ·simp at hc;have h1:k<l.length-1-k:=DH
  have x1:=uC l k;obtain⟨a,ta,a1,-,-,-,a0⟩:=el 2 rfl (pre++jl l k) (pre.length+k) (by simp[uC];omega);obtain⟨b,tb,b1,-,-,-,b0⟩:=el 2 rfl (pre++jl l k) (pre.length+(l.length-1-k)) (by simp[uC];omega);have hst:=ZoZ h1 (a:=a) (b:=b) (by rw[<-a1,Aj (by omega),AG]) (by rw[<-b1,Aj (by omega),AG]);have sp1:=Zgq (pre++jl l k) (pre.length+k) b (by simp[uC];omega);have sp2:=Zgq ((pre++jl l k).set (pre.length+k) b) (pre.length+(l.length-1-k)) a (by simp[uC];omega);have hs2:((pre++jl l k).set (pre.length+k) b).set (pre.length+(l.length-1-k)) a=pre++jl l (k+1):=by
   rw[BB _ _ DH,BB _ _ DH,AG,AG,hst]
  rw[hs2]at sp2;have hjj:(l.length:Int)-1-k=((l.length-1-k:Nat):Int):=DH
  generalize l.length-1-k=j at *;generalize hw0:((pre++jl l k).flatMap Enc.enc:List PV)=c0 at *;generalize hw1:(((pre++jl l k).set (pre.length+k) b).flatMap Enc.enc:List PV)=c1 at *;have l0:c0.length=(pre.length+l.length)*2:=by rw[<-hw0,Ql];simp[uC]
  have l1:c1.length=(pre.length+l.length)*2:=by rw[<-hw1,Ql];simp[uC]
  have hTid:T id=.cells ver 100 c0:=by rw[hT];exact q11 _ _ _
  have xid:=λobs=>zB (S:=T) (obs:=obs) hlt
  have xid1:=λobs=>zB (S:=T.set id (.cells ver 100 c1)) (obs:=obs) hlt
  have hs1:(T.set id (.cells ver 100 c1)) id=.cells ver 100 c1:=q11 _ _ _;have hq1:k+1<=l.length:=DH
  have q1:pre.length*2+k*2=(pre.length+k)*2:=DH
  have q2:pre.length*2+j*2=(pre.length+j)*2:=DH
  have q3:j<l.length:=DH
  have q4:k<l.length:=DH
  have q5:¬nx<=id:=DH
  refine zh (za (zj ?_));rw[hjj];refine zz (some []) (Row.pures [0,1,2,3,4,5,6,8,9,10] (.alt 7 (.alt 11 (Row.pures [12] (.alt 13 (Row.pures [14] (.alt 15 (.done) .stop)) .stop)) .stop) (.alt 11 (.alt 7 (Row.pures [12] (.alt 13 (Row.pures [14] (.alt 15 (.done) .stop)) .stop)) .stop) .stop))) mixed (yl xid hTid q1 q2 a0 (zo (yl b0 q3 q4 q5 l0 sp1) (zV hs1 xid1 sp2 l1))) ?_;have wj:IntKind.i64.wrap ((j:Int)-1)=(l.length:Int)-1-((k+1:Nat):Int):=by rw[wr _ DH DH];omega
  have wk:=zu k DH;have hfin:S.set id (.cells ver 100 ((pre++jl l (k+1)).flatMap Enc.enc))=(T.set id (.cells ver 100 c1)).set id (.cells ver 100 ((pre++jl l (k+1)).flatMap Enc.enc)):=by rw[hT,Zah,Zah]
  have happ:((pre++jl l (k+1)).flatMap Enc.enc:List PV)=pre.flatMap Enc.enc++(jl l (k+1)).flatMap Enc.enc:=by rw[Ar]
  rw[happ]at hfin;refine⟨?_,?_⟩
  ·refine⟨by omega,by omega,?_⟩;refine ze [] (zo wk wj) ?_;exact zq (k+1) [] hq1 DH DI (by rw[happ,hT];simp only[Zah]) DI
  ·refine⟨by omega,by omega,?_⟩;refine ze [] (zo wk wj) ?_;exact zq (k+1) [] hq1 DH DI (by rw[happ,hT];simp only[Zah]) DI
 ·simp at hc;refine zx ?_;refine⟨[],T,rfl,?_,zR ?_⟩
  ·rw[hT,ZoY DH]
  ·rw[hT];intro i hi;rw[q10 _ _ _ _ DH];exact hd i hi
open Go Go.Proofs
def qv(d:zk)(p:Pc):List Stop:=if p.f<p.o then (bif p.b then (((d.getD p.t []).drop p.f).take (p.o-p.f)).reverse else ((d.getD p.t []).drop p.f).take (p.o-p.f)) else []
def y9(d:zk)(r:Rw5):List Stop:=r.l.flatMap (qv d)
def Xq(d:zk)(p:Pc):Prop:=p.f<p.o->p.t<d.length/\p.o<=qC d p.t
def uD(d:zk)(r:Rw5):Prop:=∀p∈r.l,Xq d p
theorem Zo1(d:zk):uD d xu:=by
 intro p hp h;simp[Rw5.l,xu]at hp;subst hp;exact absurd h DN
theorem Zai(r:Rw5){k:Nat}(h:k<5):∃p,r.l[k]?=some p/\((yt r).drop (k*4)).take 4=pcL p/\r.l.take (k+1)=r.l.take k++[p]:=by
 have h5:k=0\/k=1\/k=2\/k=3\/k=4:=DH
 rcases h5 with rfl | rfl | rfl | rfl | rfl<;>exact⟨_,rfl,rfl,rfl⟩
theorem Zgr{d:zk}{p:Pc}{m:Nat}(h:∀t∈d,t.length<=m):(qv d p).length<=m:=by
 have hg:(d.getD p.t []).length<=m:=by
  rw[Aa];cases hq:d[p.t]? with
  | none=>simp
  | some l=>exact h l (Ab hq)
 unfold qv;generalize d.getD p.t []=l at *;split
 ·cases p.b<;>simp<;>omega
 ·simp
theorem Zgs(d:zk)(r:Rw5)(hdn:d.length<=1048576)(hdt:∀t∈d,t.length<=1000)(hr:uD d r):Pure prog 329 [.agg [L d],.agg (yt r)] (L (y9 d r)):=by
 have hat:=λk (h:k<5)=>Zai r h
 have hz:y9 d r=(r.l.take 5).flatMap (qv d):=by unfold y9;rw[Af (by simp[Rw5.l])]
 rw[hz];clear hz;have hcl:(yt r).length=20:=rfl;have hct:(yt r).take 20=yt r:=rfl;have hpl:=λp=>Zgr (d:=d) (p:=p) hdt
 have hgl:∀k,((r.l.take k).flatMap (qv d)).length<=1000*k:=by
  intro k
  induction k with
  | zero=>simp
  | succ k ih =>
   by_cases hk:k<5
   ·obtain⟨p,-,-,e⟩:=hat k hk;rw[e,Ar,Aq];have:=hpl p;simp only[Az,Cn,AH];omega
   ·rw[Af (by simp[Rw5.l];omega)]at ih ⊢;omega
 have hrl:r.l.length=5:=rfl;generalize hrc:yt r=rc at *;refine zt func329 ntmps329 results329 λS nx hd=>?_
 refine DQ ?_;intro v0 v1;refine DQ ?_;refine za (jg 5 100 2 rfl λv2=>?_);refine za (ze [] (zo hcl hct) ?_);refine zj (zD (λs':Nat × Nat=>s'.1<=5) (λ(k,v2)=>[(2,.ptr nx v0 0),(3,.ptr (nx+1) v1 0),(5,.sl (nx+2) v2 2 0 ((r.l.take k).flatMap (qv d)).length),(9,.agg rc),(10,I k)]) (λ(k,v2)=>[.cells v0 39 [L d],.cells v1 371 rc,.cells v2 100 (((r.l.take k).flatMap (qv d)).flatMap Enc.enc)]) (λs'=>5-s'.1) (0,v2) [] DI DI DI ?_);rintro⟨k,v2⟩ hk;simp only at hk ⊢
 by_cases hk5:k<5
 ·obtain⟨p,hp1,hp2,hp3⟩:=hat k hk5;have hk5':(k:Int)<5:=DH
  have hk6:4<=20-k*4:=DH
  have hok:=hr p (Ab hp1);have hol:=hgl k;have hnx:(r.l.take (k+1)).flatMap (qv d)=(r.l.take k).flatMap (qv d)++qv d p:=by rw[hp3,Ar];simp
  have hol2:=hpl p;generalize (r.l.take k).flatMap (qv d)=out at *;have wk:=zu k DH;refine za (ze [] hk5' ?_);refine za (zn rfl (zh (za (zj (za (ze [] (yE hp2 hk5 hk5' hcl hk6) ?_))))));intro v3
  by_cases hfo:p.f<p.o
  case neg =>
   have hpz:qv d p=[]:=by unfold qv;rw[if_neg hfo]
   have hfo':p.o<=p.f:=DH
   repeat apply za
   refine ze [] hfo' ?_;refine zn (by simp[hfo']) ?_;refine zx (zb ?_);exact zq (k+1,v2) [_] DL DL (by simp[wk,hnx,hpz]) rfl (by simp[hnx,hpz];rfl)
  obtain⟨ht,ho⟩:=hok hfo;obtain⟨t,tt,t1,-,-,t0⟩:=zJ rfl d p.t ht;have ht1:1<=d.length-p.t:=DH
  have htg:d.getD p.t []=t:=by rw[Aa,t1];rfl
  unfold qC at ho;rw[htg]at ho;have hpz:qv d p=bif p.b then ((t.drop p.f).take (p.o-p.f)).reverse else (t.drop p.f).take (p.o-p.f):=by unfold qv;rw[if_pos hfo,htg]
  have hfo':¬p.o<=p.f:=DH
  have hsl:((t.flatMap Enc.enc:List PV).drop (p.f*2)).take ((p.o-p.f)*2)=((t.drop p.f).take (p.o-p.f)).flatMap Enc.enc:=by rw[JZ Enc.enc 2 (λ_=>rfl) t p.f,Q9 Enc.enc 2 (λ_=>rfl) (t.drop p.f) (p.o-p.f)]
  have hsl2:((t.drop p.f).take (p.o-p.f)).length=p.o-p.f:=DL
  have hsl3:(((t.drop p.f).take (p.o-p.f)).flatMap Enc.enc:List PV).length=(p.o-p.f)*2:=by rw[Ql,hsl2]
  generalize (t.drop p.f).take (p.o-p.f)=sg at *;have hof:(out.flatMap Enc.enc:List PV).length=out.length*2:=Ql out;have hot:(out.flatMap Enc.enc:List PV).take (out.length*2)=out.flatMap Enc.enc:=Af DH;have q1:p.f<=p.o:=DH
  have htl:=hdt t (Ab t1)
  repeat apply za
  refine ze [] hfo' ?_;refine zm (by simp[hfo']) ?_;refine zh (DQ ?_);refine za (zz (some [nx,nx+3]) (Row.pures [0,1,2,3,4,5,6,7,8,9,10,11,12] (.alt 13 (Row.pures [14] .done) .stop)) mixed (yl t0 ht ht1 hof hot (zV hsl hsl2 q1 ho)) ?_);refine⟨by omega,?_⟩;have hsgl:sg.length<=1000:=by
   have h1:=hdt t (Ab t1);omega
  cases hpb:p.b with
  | false =>
   rw[hpb]at hpz;simp only[cond_false]at hpz;refine za (ze [] hpb ?_);refine zm rfl (zh (zb ?_));exact zq (k+1,v2+1) [_] DL DL (by simp[wk,hnx,hpz,hsl2]) rfl (by simp[hnx,hpz];rfl)
  | true =>
   rw[hpb]at hpz;simp only[cond_true]at hpz;have hrev:=λ(S:Store) (id ver:Nat) h=>Zo0 (S:=S) (id:=id) (ver:=ver) out sg DL h
   rw[hsl2]at hrev;refine za (ze [] hpb ?_);refine zn rfl (zb ?_);refine λhsuf=>((hrev _ _ _ (by rw[zQ,Ar];rfl)).mono ?_).v
   rintro _ _ rfl;refine⟨_,_,yc _ DH DI,jH [] (show nx+2-nx=2 by omega) hsuf ?_⟩;refine zb ?_;exact zq (k+1,v2+1) [_] DL DL (by simp[wk,hnx,hpz,hsl2]) rfl (by simp[hnx,hpz];rfl)
 ·obtain rfl:k=5:=DH
  generalize (r.l.take 5).flatMap (qv d)=out at *;refine DQ ?_;refine za (zm rfl (zx (yb 2 rfl ?_)));refine DQ ?_;exact zg (zi hd DJ (by simp[zp]))
open Go Hp
theorem Zgt{α:Type}{d:List α}(hn:d.Nodup){i j:Nat}{t:α}(hi:d[i]?=some t)(hj:d[j]?=some t):i=j:=by grind[List.pairwise_iff_getElem]
def xe(f:zL->Bool):zk->Int
 | []=>-1
 | t :: d=>if 0<=xe f d then xe f d+1 else if f t then 0 else -1
theorem Zgu(f:zL->Bool):∀d:zk,(xe f d=-1/\∀t∈d,f t=false)\/∃(k:Nat) (t:zL),d[k]?=some t/\f t=true/\xe f d=k
 | []=>.inl ⟨rfl,λt h=>by cases h⟩
 | u :: d=>by
  unfold xe;rcases Zgu f d with ⟨h1,h2⟩ | ⟨k,t,h1,h2,h3⟩
  ·rw[h1,if_neg DH];cases hu:f u with
   | true=>exact .inr ⟨0,u,rfl,hu,by simp⟩
   | false =>
    simp_all
  ·rw[h3,if_pos DH];exact .inr ⟨k+1,t,by simpa using h1,h2,by simp⟩
def Zcu(d:zk)(a b:Nat)(t:zL)(k:Nat):zk:=(List.range k).flatMap λj=>if j=a then [t] else if j=b then [] else [d.getD j []]
def YG(c:Int)(t:zL):Bool:=decide (Qo t=some c)
def YH(c:Int)(t:zL):Bool:=decide (Jj t=some c)
def YI(x:Inst)(d:zk)(p:Pr):zk :=
 if xe (YG p.a) d<0\/xe (YH p.b) d<0\/xe (YG p.a) d=xe (YH p.b) d\/(p.s<=0/\(d.length:Int)<=x.veh) then d
 else if zT x (d.getD (xe (YG p.a) d).toNat []++d.getD (xe (YH p.b) d).toNat [])=0 then
  Zcu d (xe (YG p.a) d).toNat (xe (YH p.b) d).toNat (d.getD (xe (YG p.a) d).toNat []++d.getD (xe (YH p.b) d).toNat []) d.length
 else d
theorem Zcv{α β γ:Type}{f:α->List γ}{g:β->List γ}:∀(A:List α) (B:List β),A.length=B.length->(∀(j:Nat) a b,A[j]?=some a->B[j]?=some b->f a=g b)->A.flatMap f=B.flatMap g
 | [],[],_,_=>rfl
 | a :: A,b :: B,hl,h=>by
  rw[Az,Az,h 0 a b rfl rfl,Zcv A B (by simpa using hl) λj a b ha hb=>h (j+1) a b (by simpa using ha) (by simpa using hb)]
 | [],_ :: _,hl,_=>by simp at hl
 | _ :: _,[],hl,_=>by simp at hl
theorem Zcw{α:Type}(p:α->Bool):∀l:List α,l.filter p=l.flatMap λa=>if p a then [a] else []
 | []=>rfl
 | a :: l=>by
  rw[Az,<-Zcw p l,Ca];cases p a<;>simp
structure Apt (T:zk):Prop where
 u:∀(i j:Nat) t s s',T[i]?=some t->s∈t->∀t',T[j]?=some t'->s'∈t'->s.c=s'.c->i=j
theorem JI.apt{ss:List Stop}{T:zk}{g:Int->Option Int}(h:JI ss T g):Apt T:=⟨λi j t s s' hi hs t' hj hs' e=>by
 have e1:=h.g i t s hi hs;have e2:=h.g j t' s' hj hs'
 grind⟩
abbrev ne(t:zL):Bool:=!t.isEmpty
theorem WD{t:zL}(h:ne t=true):∃s,s∈t:=by cases t<;>simp_all
theorem Zgv{t:zL}{s:Stop}(h:s∈t):ne t=true:=DO
def Xr(ta tb u:zL):zk:=if u=ta then [ta++tb] else if u=tb then [] else [u]
theorem Zo2{T:zk}(hA:Apt T){i k:Nat}{ta tb:zL}(hi:T[i]?=some ta)(hk:T[k]?=some tb)(hik:i≠k)(ha:ne ta=true)(hb:ne tb=true):
  ((T.set i (ta++tb)).set k []).filter ne=(T.filter ne).flatMap (Xr ta tb):=by
 rw[Zcw ne T,List.flatMap_assoc,Zcw];refine Zcv _ _ DI λj u v hu hv=>?_
 obtain⟨sa,hsa⟩:=WD ha;obtain⟨sb,hsb⟩:=WD hb;have hjl:=(Ac.1 hv).1
 by_cases h1:k=j
 ·subst h1;rw[AW (by simpa using hjl)]at hu;cases hu;obtain rfl:tb=v:=by rw[hk]at hv;exact Option.some.inj hv
  have hne:tb≠ta:=by
   rintro rfl;exact hik (hA.u i k tb sb sb hi hsb tb hk hsb rfl)
  simp_all[Xr]
 ·rw[AX h1]at hu
  by_cases h2:i=j
  ·subst h2;rw[AW hjl]at hu;cases hu;obtain rfl:ta=v:=by rw[hi]at hv;exact Option.some.inj hv
   simp_all[Xr]
  ·rw[AX h2]at hu;obtain rfl:u=v:=DP
   cases hn:ne u with
   | false=>simp
   | true =>
    obtain⟨su,hsu⟩:=WD hn;have n1:u≠ta:=by rintro rfl;exact h2 (hA.u i j u su su hi hsu u hv hsu rfl)
    have n2:u≠tb:=by rintro rfl;exact h1 (hA.u k j u su su hk hsu u hv hsu rfl)
    simp_all[Xr]
theorem Zo3{T:zk}(hA:Apt T):(T.filter ne).Nodup:=by
 rw[List.nodup_iff_pairwise_ne,List.pairwise_filter,Bv];intro i j hi hj hij h1 h2 e;obtain⟨s,hs⟩:=WD h1;have:=hA.u i j T[i] s s (Ae hi) hs T[j] (Ae hj) (e ▸ hs) rfl;omega
theorem Zo4{d:zk}(hn:d.Nodup){a b:Nat}{ta tb:zL}(ha:d[a]?=some ta)(hb:d[b]?=some tb):Zcu d a b (ta++tb) d.length=d.flatMap (Xr ta tb):=by
 unfold Zcu;refine Zcv _ _ DI λj n u hj hu=>?_
 grind[Zgt,Xr]
theorem Zgw{T:zk}(hA:Apt T){i:Nat}{t:zL}{s:Stop}(hi:T[i]?=some t)(hs:s∈t)(f:zL->Bool)(hf:∀u,f u=true->∃s'∈u,s'.c=s.c):
  (f t=false/\xe f (T.filter ne)=-1)\/(f t=true/\∃k:Nat,(T.filter ne)[k]?=some t/\xe f (T.filter ne)=k):=by
 have uniq:∀u∈T.filter ne,f u=true->u=t:=by
  intro u hu hfu;obtain⟨s',hs',e⟩:=hf u hfu;obtain⟨j,hj⟩:=Bi.1 (Bl.1 hu).1;have:=hA.u i j t s s' hi hs u hj hs' e.symm;subst this;rw[hi]at hj;exact(Option.some.inj hj).symm
 grind[Zgu]
theorem Zo5{c:Int}{t:zL}(h:YG c t=true):∃s∈t,s.c=c:=by
 have h:Qo t=some c:=of_decide_eq_true h
 grind[Qo]
theorem Zo6{c:Int}{t:zL}(h:YH c t=true):∃s∈t,s.c=c:=by
 have h:Jj t=some c:=of_decide_eq_true h
 grind[Jj]
theorem Zcx(p:zL->Bool):∀T:zk,((T.filter p).length:Int)=(T.map λt=>if p t then (1:Int) else 0).sum
 | []=>rfl
 | t :: T=>by
  rw[Ca,AA,BM,<-Zcx p T]
  grind
theorem Zo7{T:zk}{i k:Nat}{ta tb:zL}(hi:T[i]?=some ta)(hk:T[k]?=some tb)(hik:i≠k)(ha:ne ta=true)(hb:ne tb=true):
  ((((T.set i (ta++tb)).set k []).filter ne).length:Int)=((T.filter ne).length:Int)-1:=by
 obtain⟨sa,hsa⟩:=WD ha;rw[Zcx,Zcx,Zck _ _ k tb [] (by rw[AX hik];exact hk),Zck _ _ i ta (ta++tb) hi]
 simp_all
theorem Zo8{x:Inst}{ss:List Stop}{st:zk × Int}{g:Int->Option Int}(h:JI ss st.1 g)(hnum:st.2=((st.1.filter ne).length:Int)){p:Pr}(hpa:p.a∈ss.map (·.c))(hpb:p.b∈ss.map (·.c)):
  YI x (st.1.filter ne) p=(q8 x st p).1.filter ne/\(q8 x st p).2=(((q8 x st p).1.filter ne).length:Int)/\∃g',JI ss (q8 x st p).1 g':=by
 obtain⟨i,a,sa,hia,hsa,hsac,hga,hpi⟩:=h.there hpa;obtain⟨k,b,sb,hkb,hsb,hsbc,hgb,hpk⟩:=h.there hpb;have hgi:st.1.getD i []=a:=by rw[Aa,hia];rfl
 have hgk:st.1.getD k []=b:=by rw[Aa,hkb];rfl
 have hdef:q8 x st p=bif qu x st.2 p i k a b then ((st.1.set i (a++b)).set k [],st.2-1) else st:=by
  unfold q8 Wy;simp only[hpi,hpk,hgi,hgk]
 have hA:=h.apt;have hna:=Zgv hsa;have hnb:=Zgv hsb;have hnd:=Zo3 hA;rw[hdef];have stay:qu x st.2 p i k a b=false->YI x (st.1.filter ne) p=st.1.filter ne->YI x (st.1.filter ne) p=(bif qu x st.2 p i k a b then ((st.1.set i (a++b)).set k [],st.2-1) else st).1.filter ne/\(bif qu x st.2 p i k a b then ((st.1.set i (a++b)).set k [],st.2-1) else st).2=(((bif qu x st.2 p i k a b then ((st.1.set i (a++b)).set k [],st.2-1) else st).1.filter ne).length:Int)/\∃g',JI ss (bif qu x st.2 p i k a b then ((st.1.set i (a++b)).set k [],st.2-1) else st).1 g':=by
  intro e1 e2;rw[e1];exact⟨e2,hnum,g,h⟩
 rcases Zgw hA hia hsa (YG p.a) (λu hu=>by rw[hsac];exact Zo5 hu) with ⟨fa,la⟩ | ⟨fa,ka,ha1,la⟩
 ·have e1:Qo a≠some p.a:=of_decide_eq_false fa;refine stay (by simp[qu,e1]) ?_;unfold YI;rw[if_pos (.inl DH)]
 rcases Zgw hA hkb hsb (YH p.b) (λu hu=>by rw[hsbc];exact Zo6 hu) with ⟨fb,lb⟩ | ⟨fb,kb,hb1,lb⟩
 ·have e1:Jj b≠some p.b:=of_decide_eq_false fb;refine stay (by simp[qu,e1]) ?_;unfold YI;rw[if_pos (.inr (.inl DH))]
 have e1:Qo a=some p.a:=of_decide_eq_true fa;have e2:Jj b=some p.b:=of_decide_eq_true fb;have hab:ka=kb<->i=k:=by
  constructor
  ·rintro rfl;obtain rfl:a=b:=by rw[ha1]at hb1;exact Option.some.inj hb1
   exact hA.u i k a sa sa hia hsa a hkb hsa rfl
  ·rintro rfl;obtain rfl:a=b:=by rw[hia]at hkb;exact Option.some.inj hkb
   exact Zgt hnd ha1 hb1
 have ga:(st.1.filter ne).getD (ka:Int).toNat []=a:=by rw[AN,Aa,ha1];rfl
 have gb:(st.1.filter ne).getD (kb:Int).toNat []=b:=by rw[AN,Aa,hb1];rfl
 by_cases hik:i=k
 ·refine stay (by simp[qu,hik]) ?_;unfold YI;rw[if_pos (.inr (.inr (.inl (by rw[la,lb,hab.2 hik]))))]
 by_cases hfew:p.s<=0/\st.2<=x.veh
 ·refine stay (by simp[qu,hfew.1,hfew.2]) ?_;unfold YI;rw[if_pos (.inr (.inr (.inr ⟨hfew.1,by omega⟩)))]
 have hcond:¬(xe (YG p.a) (st.1.filter ne)<0\/xe (YH p.b) (st.1.filter ne)<0\/xe (YG p.a) (st.1.filter ne)=xe (YH p.b) (st.1.filter ne)\/(p.s<=0/\((st.1.filter ne).length:Int)<=x.veh)):=by
  rw[la,lb];rintro(q | q | q | q)
  ·omega
  ·omega
  ·exact hik (hab.1 DH)
  ·exact hfew ⟨q.1,by omega⟩
 by_cases hmay:zT x (a++b)=0
 ·have hc:qu x st.2 p i k a b=true:=by
   unfold qu;simp only[hik,e1,e2,hmay,Aw,decide_eq_true_eq,ne_eq,not_false_eq_true,Ch,Bool.and_eq_false_iff,decide_eq_false_iff_not,and_true,true_and]
   by_cases q:p.s<=0
   ·exact .inr λe=>hfew ⟨q,e⟩
   ·exact .inl q
  rw[hc];simp only[cond_true];refine⟨?_,?_,_,h.join hia hkb hik⟩
  ·unfold YI;rw[if_neg hcond,la,lb,ga,gb,if_pos hmay,Zo2 hA hia hkb hik hna hnb,<-Zo4 hnd ha1 hb1];rfl
  ·rw[Zo7 hia hkb hik hna hnb,hnum]
 simp_all[qu,YI]
theorem Zo9(ss:List Stop):(ss.map λs=>[s]).filter ne=qH ss:=by simp[qH]
open Go Hp
theorem Zgx(l:List Stop):(qH l).length=l.length:=by simp[qH]
theorem Zpa{x:Inst}{ss:List Stop}{T:zk}{g:Int->Option Int}(h:JI ss T g)(hss:ss.length<=1000):(T.filter ne).length<=1000/\(T.filter ne).flatten.length<=1000/\∀t∈T.filter ne,t≠[]:=by
 have hf:(T.filter ne).flatten=T.flatten:=by
  induction T with
  | nil=>rfl
  | cons t T ih =>
   clear h;have key:∀T:zk,(T.filter ne).flatten=T.flatten:=by
    intro T
    induction T with
    | nil=>rfl
    | cons t T ih =>
     rw[Ca];cases t with
     | nil=>simpa using ih
     | cons s t=>simp[ih]
   exact key _
 have hne:∀t∈T.filter ne,t≠[]:=λt ht e=>by
  have:=(Bl.1 ht).2;rw[e]at this;cases this
 have hl:=h.perm.length_eq;have h1:=Zab (T.filter ne) hne;rw[hf]at h1;exact⟨by omega,by rw[hf];omega,hne⟩
open Go Go.Proofs Hp
structure SOk (x:Inst) (l:List Stop):Prop where
 cust:x.cust.length<=1048576
 arc:qt x
 veh:0<=x.veh
 len:l.length<=1000
 sm:∀s∈l,qb s.c
 nd:(l.map (·.c)).Nodup
def Qx(x:Inst)(l:List Stop):List zk:=[wS x l,qH l]++(bif (jk x l).2 then [(jk x l).1] else [])
def Z4(x:Inst)(imp:zk->zk)(l:List Stop):List zk:=[qH l,imp (wS x l),imp (qH l)]++(bif (jk x l).2 then [imp (jk x l).1] else [])
theorem Zgy{x:Inst}(hx:x.cust.length<=1048576):∀(n:Nat) (d:zk) (l:List Stop),l.length=n->RgOk x d l->RgOk x (ud x n d l).1 []/\((ud x n d l).2=true->(ud x n d l).1.flatten.Perm (d.flatten++l))
 | 0,d,l,hl,h=>by simp_all[ud]
 | n+1,d,l,hl,h=>by
  have hne:l≠[]:=λe=>by simp_all
  obtain⟨k,hu,hk⟩:=Zgl (x:=x) (d:=d) hne;have hg:l.getD k default=l[k]:=by rw[Aa,Ae hk];rfl
  unfold ud;rw[hu,AN,hg];cases hi:(yK x d l[k]).2 with
  | false =>
   refine⟨⟨h.ok,h.may,?_⟩,λe=>by cases e⟩;have:=h.len
   grind
  | true =>
   simp only[cond_true];obtain⟨h1,h2⟩:=Zgy hx n (yK x d l[k]).1 (l.eraseIdx k) (by rw[BO hk];omega) (h.step hx hk hi);refine⟨h1,λe=>(h2 e).trans ?_⟩;have hp:=Zch hi;refine(hp.append_right _).trans ?_
   grind[List.eraseIdx_eq_take_drop_succ,List.drop_eq_getElem_cons,List.take_append_drop]
section
variable {x:Inst} {l:List Stop} (h:SOk x l)
include h
theorem SOk.apart:DayOk (qH l)/\(qH l).flatten=l/\(qH l).length<=1000:=by
 have hf:(qH l).flatten=l:=by
  unfold qH;clear h
  induction l with
  | nil=>rfl
  | cons s l ih=>simpa using ih
 refine⟨⟨?_,λt ht=>?_,λt ht a ha=>?_⟩,hf,?_⟩
 ·rw[Zgx];have:=h.len;omega
 ·obtain⟨s,_,rfl⟩:=Al.1 ht;simp
 ·obtain⟨s,hs,rfl⟩:=Al.1 ht;simp at ha;subst ha;exact h.sm _ hs
 ·rw[Zgx];exact h.len
theorem SOk.join:DayOk (wS x l)/\(wS x l).flatten.Perm l/\(wS x l).length<=1000/\∀t∈wS x l,t≠[]:=by
 obtain⟨g,hg⟩:=JI.begin l [] [] _ JI.nil (by simpa using h.nd);have key:∀(ps:List Pr) (st:zk × Int),(∃g,JI l st.1 g)->st.2=((st.1.filter ne).length:Int)->(∀p∈ps,p.a∈l.map (·.c)/\p.b∈l.map (·.c))->∃g,JI l (ps.foldl (q8 x) st).1 g:=by
  intro ps
  induction ps with
  | nil=>simp_all
  | cons p ps ih =>
   rintro st ⟨g,hg⟩ hn hp;obtain⟨h1,h2⟩:=hp p DI;obtain⟨e1,e2,e3⟩:=Zo8 (x:=x) hg hn h1 h2;rw[AY];exact ih _ e3 e2 λq hq=>hp q (by simp[hq])
 obtain⟨g',hg'⟩:=key (qT x (l.map (·.c))) (l.map λs=>[s],(l.length:Int)) ⟨g,by simpa using hg⟩ (by simp[Zo9,qH]) λp hp=>by grind[V3,Ji]
 have hjp:wS x l=((qT x (l.map (·.c))).foldl (q8 x) (l.map λs=>[s],(l.length:Int))).1.filter ne:=rfl;obtain⟨w1,w2,w3⟩:=Zpa (x:=x) hg' h.len;have hfl:∀T:zk,(T.filter ne).flatten=T.flatten:=by
  intro T
  induction T with
  | nil=>rfl
  | cons t T ih =>
   grind
 have hp:(wS x l).flatten.Perm l:=by rw[hjp,hfl];exact hg'.perm
 rw[<-hjp]at w1 w2 w3;refine⟨⟨by omega,λt ht=>?_,λt ht a ha=>?_⟩,hp,w1,w3⟩
 ·have:=(YD ht).length_le;omega
 ·exact h.sm a (hp.subset ((YD ht).subset ha))
theorem SOk.regret:RgOk x (jk x l).1 []/\((jk x l).2=true->(jk x l).1.flatten.Perm l):=by
 have:=Zgy h.cust l.length [] l rfl (Zgm h.veh h.len)
 simp_all[jk]
end
def Zgz(x:Inst)(b:Int)(imp:zk->zk)(ds:List zk):Prop:=∀d∈ds,(∃n,Pure prog 252 [.agg (zy x),.agg [L d],I b] (.tup [.agg [L (imp d)],I n]))/\DayOk (imp d)/\(imp d).flatten.length<=1048576
theorem Zpb(x:Inst)(l:List Stop)(b:Int)(imp:zk->zk)(h:SOk x l)(hI:wA x l=0->Zgz x b imp (Qx x l)):
  Pure prog 249 [.agg (zy x),L l,I b] (.tup [.agg [L (vz x (wA x l) (Z4 x imp l)).1],I (vz x (wA x l) (Z4 x imp l)).2]):=by
 have hF:=Zl2 x l h.cust (by have:=h.len;omega)
 by_cases he:wA x l=0
 case neg=>exact ZfG x (L l) b _ _ (Jl l) h.cust hF (λe=>absurd e he) λe=>absurd e he
 have hI:=hI he;have hA:=Zl1 l (by have:=h.len;omega);have hJ:=ZnH x l h.arc h.cust h.len h.sm h.nd;have hR:=ZoN x l h.cust h.veh h.len;obtain⟨⟨n1,i1⟩,o1,f1⟩:=hI (wS x l) (by simp[Qx]);obtain⟨⟨n2,i2⟩,o2,f2⟩:=hI (qH l) (by simp[Qx]);obtain⟨a1,a2,a3⟩:=h.apart;have h3:(jk x l).2=true->(∃n,Pure prog 252 [.agg (zy x),.agg [L (jk x l).1],I b] (.tup [.agg [L (imp (jk x l).1)],I n]))/\DayOk (imp (jk x l).1)/\(imp (jk x l).1).flatten.length<=1048576:=λe=>hI _ (by simp[Qx,e])
 have hlen:=h.len;have hit:=ZnM (fsL x (L l) b) [some (qH l),some (imp (wS x l)),some (imp (qH l)),bif (jk x l).2 then some (imp (jk x l).1) else none] rfl DI (by
  intro k f hf
  match k with
  | 0=>cases hf;exact⟨_,_,L (qH l),rfl,ZnJ (L l) (qH l) (Jl l) hA,λd hd=>by cases hd;rfl⟩
  | 1=>cases hf;exact⟨_,_,L (imp (wS x l)),rfl,ZnK x (L l) b _ _ _ (Jl l) hJ i1,λd hd=>by cases hd;rfl⟩
  | 2=>cases hf;exact⟨_,_,L (imp (qH l)),rfl,ZnL x (L l) b _ _ _ (Jl l) hA i2,λd hd=>by cases hd;rfl⟩
  | 3 =>
   cases hf;cases hall:(jk x l).2 with
   | true =>
    obtain⟨⟨n3,i3⟩,-⟩:=h3 hall;rw[hall]at hR;exact⟨_,_,L (imp (jk x l).1),rfl,ZfF x (L l) b _ _ true n3 (Jl l) hR (λ_=>i3),λd hd=>by cases hd;rfl⟩
   | false =>
    rw[hall]at hR;exact⟨_,_,yq,rfl,ZfF x (L l) b _ [] false 0 (Jl l) hR (λe=>by cases e),λd hd=>by cases hd⟩
  | k+4=>cases hf)
 have hds:([some (qH l),some (imp (wS x l)),some (imp (qH l)),bif (jk x l).2 then some (imp (jk x l).1) else none]:List (Option zk)).filterMap id=Z4 x imp l:=by
  unfold Z4;cases (jk x l).2<;>rfl
 rw[hds]at hit;refine ZfG x (L l) b (wA x l) (Z4 x imp l) (Jl l) h.cust hF (λ_=>hit) λ_ d hd=>?_
 grind
open Go Go.Proofs Hp
theorem Zpc{P:Program}{r:Rd}{n:Nat}{F:Nat->PV}{S:Store}{o:Oper}{t e:TypeId}{len:Nat}{parts:Array (Nat × Operand)}{cs:List PV}{K:PV->Store->Prop}(ho:o.op=.buildSlice t len parts)(ht:P.underlying t=some (.slice e))(h0:P.cellsOf e≠0)(hlen:len<=1048576)
  (hl:uT P e len (parts.toList.map λx=>(x.1,ev F x.2))=some cs)
  (hK:∀C:Ctx,S C.next=.dead->∃id v,Fresh C S id v/\K (.sl id v (P.cellsOf e) 0 len) (S.set id (.cells v e cs))):PO P r n o F S K:=by
 intro G hG C w a N st next Q' hnext;have hmap:parts.toList.map (λx=>(x.1,ev G x.2))=parts.toList.map (λx=>(x.1,ev F x.2)):=AO λx hx=>by
  rw[hG x.2 (by simp only[ho,Op.operands,List.mem_toArray,Al];first | exact⟨x,hx,rfl⟩ | (simp;exact⟨x.1,by simpa using hx⟩))]
 rw[<-hmap]at hl;obtain⟨vs,hrun,hr,hsz⟩:=Zba (w:=w) ht (ev G) a.eval st.ev hl;obtain⟨id,ver,hfr,hK⟩:=hK C st.sim.free;obtain⟨k1,k2⟩:=st.sim.object' hfr e vs cs (Co hr.1) (λi v _ hv=>hr.2.1 i v hv) hr.2.2;refine yT (x:=.value (.slice (some ⟨w.heap.size,0,none⟩) len len)) (w':=w.alloc (.cells vs e)) (by intro c hc;rw[ho]at hc;cases hc) ?_
  (hnext _ _ _ _ _ hK (We C S w _ _ _ _ _ _ _ _ rfl (Ag _) (by unfold jE;omega) (by unfold maxLen;omega) hsz.symm) k1 k2)
 unfold execOp;simp only[ho];have e1:(parts.map λx=>(x.1,a.eval x.2))=(parts.toList.map λx=>(x.1,a.eval x.2)).toArray:=by
  apply BF.1;simp
 simp only[e1,hrun,Sem.run_bind,Sem.run_pure,Am]
theorem Zpd{P:Program}{r:Rd}{n nx:Nat}{F:Nat->PV}{S:Store}{obs:List Ob}{o:Oper}{t e:TypeId}{len:Nat}{parts:Array (Nat × Operand)}{cs:List PV}{K:PV->Store->Prop}(ho:o.op=.buildSlice t len parts)(ht:P.underlying t=some (.slice e))(h0:P.cellsOf e≠0)(hlen:len<=1048576)
  (hl:uT P e len (parts.toList.map λx=>(x.1,ev F x.2))=some cs) (hK:∀v,K (.sl (nx+obs.length) v (P.cellsOf e) 0 len) (ext S nx (obs++[.cells v e cs]))):PO P r n o F (ext S nx obs) K :=
 Zpc ho ht h0 hlen hl (ZN (X:=λid v=>K (.sl id v (P.cellsOf e) 0 len) ((ext S nx obs).set id (.cells v e cs))) _ uU λv=>by rw[qG];exact hK v)
open Go Go.Proofs
theorem Zpe{P:Program}{r:Rd}{n nx N:Nat}{Q:Exit->(Nat->PV)->Store->Prop}{F:Nat->PV}{S:Store}{obs:List Ob}{A:Prop}{R:Nat->KT->CT->HT->Prop}{id:Nat}{ops:Array Oper}{o:Oper}{os:List Oper}{t e:TypeId}{len:Nat}{parts:Array (Nat × Operand)}
  (D:List (Nat × Nat)) (cs:List PV) (ht:P.underlying t=some (.slice e)) (a:A) (h:∀v,R v (λF' S' obs'=>Q .normal F' (ext S' nx obs')) (CQ P r n nx ops λF' S' obs'=>Q .normal F' (ext S' nx obs')) (HQ P r n nx ops λF' S' obs'=>Q .normal F' (ext S' nx obs')))
  (hops:ops.toList=o :: os:=by rfl) (hg:o.guard=none:=by rfl) (ho:o.op=.buildSlice t len parts:=by rfl) (h0:P.cellsOf e≠0:=by simp) (hlen:len<=1048576:=by decide)
  (hl:uT P e len (parts.toList.map λx=>(x.1,ev F x.2))=some cs:=by simp[uT,Zg]) (hN:wN N ops=true:=by rfl) (hD:ur ops D=true:=by rfl)
  (hR:A->∀v,XQ P nx D os (zZ F o.dst (.sl (nx+obs.length) v (P.cellsOf e) 0 len)) S (obs++[.cells v e cs]) (R v):=by intro a v K Gc Gh X hX0 hX h;simp -implicitDefEqProofs [hX0,hX,a];exact h):PW P r n N (.region id ops false) Q F (ext S nx obs):=by
 refine Wn hN ?_;rw[hops];unfold XS;have:gd ops F o=some true:=by unfold gd;rw[hg]
 rw[this];exact Zpd ho ht h0 hlen hl λv=>⟨_,_,rfl,Jc (by rw[hops];exact List.suffix_cons _ _) hD (hR a v) (h v)⟩
def yv(x:Inst)(t:zL):Nat->Int
 | 0=>0
 | i+1=>yv x t i+arc x ((t.getD i default).c+1) ((t.getD (i+1) default).c+1)
def yx(x:Inst)(t:zL):Nat->Int
 | 0=>0
 | i+1=>yx x t i+arc x ((t.getD (i+1) default).c+1) ((t.getD i default).c+1)
theorem Xs{x:Inst}(h:qt x)(t:zL):∀i:Nat,0<=yv x t i/\yv x t i<=2147483648*(i:Int)
 | 0=>by simp[yv]
 | i+1=>by
  have h1:=Xs h t i;have h2:=h ((t.getD i default).c+1) ((t.getD (i+1) default).c+1);unfold yv;omega
theorem Xt{x:Inst}(h:qt x)(t:zL):∀i:Nat,0<=yx x t i/\yx x t i<=2147483648*(i:Int)
 | 0=>by simp[yx]
 | i+1=>by
  have h1:=Xt h t i;have h2:=h ((t.getD (i+1) default).c+1) ((t.getD i default).c+1);unfold yx;omega
structure Sm where
 f:List Int
 b:List Int
 l:List Int
 n:Int
instance:Enc Sm:=⟨λs=>[L s.f,L s.b,L s.l,I s.n],4,λ_=>rfl,λ_=>rfl⟩
@[simp] theorem ZyH(s:Sm):Enc.enc s=[L s.f,L s.b,L s.l,I s.n]:=rfl
@[simp high] theorem ZgA(l:List Sm):(l.flatMap Enc.enc).length=l.length*4:=j4 l
@[simp high] theorem ZyI(l:List Sm):(l.flatMap Enc.enc).take (l.length*4)=l.flatMap Enc.enc:=YB l
def xg(x:Inst)(t:zL):Sm:=⟨(List.range t.length).map (yv x t),(List.range t.length).map (yx x t),(List.range (t.length+1)).map λi=>zX (t.take i),yB x (t.map (·.c))⟩
abbrev uE(x:Inst)(d:zk):List PV:=[I x.days,I x.veh,I x.cap,I x.len,L x.cust,L x.dist,L d,L (d.map (xg x))]
structure MvDay (d:zk):Prop where
 n:d.length<=1000
 t:∀t∈d,t.length<=1000
 s:∀t∈d,∀s∈t,qb s.c/\0<=s.q/\s.q<=2147483648
theorem Zpf{t:zL}{i:Nat}{s:Stop}(h:t.take (i+1)=t.take i++[s]):zX (t.take (i+1))=zX (t.take i)+s.q:=by rw[h,VZ]
theorem Zcy{α:Type}(f:Nat->α)(k:Nat):(List.range (k+1)).map f=(List.range k).map f++[f k]:=by rw[AL,List.map_append];rfl
theorem Zpg(id v:Nat)(cs:List PV)(l:List Sm):(l.flatMap Enc.enc).map (qf id v cs)=(l.flatMap Enc.enc:List PV):=by
 induction l with
 | nil=>rfl
 | cons s l ih=>rw[Az,List.map_append,ih];rfl
theorem Zph(x:Inst)(d:zk)(hx:qt x)(hd':MvDay d):Pure prog 324 [.agg (zy x),.agg [L d]] (.ip (uE x d)):=by
 have hdn:=hd'.n;refine zt func324 ntmps324 results324 λS nx hd=>?_
 refine DQ ?_;intro v0 v1;refine DQ ?_;intro v2;refine qQ 2 7 410 4 rfl rfl λv3=>?_
 repeat apply za
 refine zb ?_;refine zj (zD (λs':Nat × Nat=>s'.1<=d.length) (λ(k,v3)=>[(2,.ptr nx v0 0),(5,.ptr (nx+2) v2 0),(20,L d),(21,I d.length),(22,I k)]) (λ(k,v3)=>[.cells v0 25 (zy x),.cells v1 39 [L d],.cells v2 408 [I x.days,I x.veh,I x.cap,I x.len,L x.cust,L x.dist,L d,.sl (nx+3) v3 4 0 k],.cells v3 410 (((d.map (xg x)).take k).flatMap Enc.enc)]) (λs'=>d.length-s'.1) (0,v3) [] DI DI DI ?_);rintro⟨k,v3⟩ hk;simp only at hk ⊢;refine DQ ?_;refine za (zv rfl (λhc=>?_) (λhc=>?_))
 ·simp at hc;obtain⟨t,tl,a1,a2,a3,e0⟩:=zJ rfl d k hc;have hk1:1<=d.length-k:=DH
  have htm:=Ab a1;have htl:=hd'.t t htm;have hts:=hd'.s t htm;have hlw:=Wr x t DH (λs hs=>(hts s hs).1);have hwz:=Xm hx (t.map (·.c));rw[List.length_map]at hwz;rw[show W (yB x (t.map (·.c)))=yB x (t.map (·.c)) from wr _ DH DH]at hlw;refine zh (za (zj (za (ze [] (zF e0 hc hk1) ?_))));intro v4;refine za (Zpe [] [I 0] underlying26 trivial ?_);intro v5;refine zr hlw ?_;intro v6;refine DQ ?_;refine qQ 6 0 3 1 rfl rfl λv7=>?_
  refine qQ 6 1 3 1 rfl rfl λv8=>?_
  repeat apply za
  refine zb ?_;generalize hpc:(((d.map (xg x)).take k).flatMap Enc.enc:List PV)=pc at *;generalize hwl:yB x (t.map (·.c))=wl at *;refine zj (zD (λs':Nat × Nat × Nat × Nat=>s'.1<=t.length) (λ(i,v5,v7,v8)=>[(2,.ptr nx v0 0),(5,.ptr (nx+2) v2 0),(7,.ptr (nx+4) v4 0),(8,.ptr (nx+6) v6 0),(9,I (yv x t (i-1))),(10,I (yx x t (i-1))),(20,L d),(21,I d.length),(22,I k),(32,L t),(33,I t.length),(34,I i)])
   (λ(i,v5,v7,v8)=>[.cells v0 25 (zy x),.cells v1 39 [L d],.cells v2 408 [I x.days,I x.veh,I x.cap,I x.len,L x.cust,L x.dist,L d,.sl (nx+3) v3 4 0 k],.cells v3 410 pc,.cells v4 42 [L t],.cells v5 3 (((List.range (i+1)).map λi=>zX (t.take i)).flatMap Enc.enc),
    .cells v6 410 [.sl (nx+7) v7 1 0 i,.sl (nx+8) v8 1 0 i,.sl (nx+5) v5 1 0 (i+1),I wl],.cells v7 3 (((List.range i).map (yv x t)).flatMap Enc.enc),.cells v8 3 (((List.range i).map (yx x t)).flatMap Enc.enc)]) (λs'=>t.length-s'.1) (0,v5,v7,v8) [] DI (by simp[yv,yx]) (by simp[zX]) ?_)
  rintro⟨i,v5,v7,v8⟩ hi;simp only at hi ⊢;refine DQ ?_;refine za (zv rfl (λhci=>?_) (λhci=>?_))
  ·simp at hci;obtain⟨s,ts,s1,s2,s3,-,s0⟩:=el 2 rfl t i hci;have hi2:2<=t.length*2-i*2:=DH
   obtain⟨hsm,hq0,hq1⟩:=hts s (Ab s1);have hgs:t.getD i default=s:=by rw[Aa,s1];rfl
   have wi:=zu i DH;have f1:=Zcy (yv x t) i;have f2:=Zcy (yx x t) i;have f3:=Zcy (λi=>zX (t.take i)) (i+1);have hlz:=Zpf s3;have hlb:=Zce (t:=t.take i) (λa ha=>(hts a (BD ha)).2);have hlt:(t.take i).length<=1000:=by rw[Ax];omega
   have wl1:IntKind.i64.wrap (zX (t.take i)+s.q)=zX (t.take (i+1)):=by rw[hlz];exact wr _ DH DH
   have g1:(((List.range i).map (yv x t)).flatMap Enc.enc:List PV).length=i:=by rw[jG];simp
   have g2:(((List.range i).map (yx x t)).flatMap Enc.enc:List PV).length=i:=by rw[jG];simp
   have g3:(((List.range (i+1)).map λi=>zX (t.take i)).flatMap Enc.enc:List PV).length=i+1:=by rw[jG];simp
   obtain⟨lz,tlz,z1,-,-,z0⟩:=zJ rfl ((List.range (i+1)).map λi=>zX (t.take i)) i DI;have hlzz:lz=zX (t.take i):=by simpa using z1.symm
   have c1:(((List.range (i+1)).map (yv x t)).flatMap Enc.enc:List PV)=((List.range i).map (yv x t)).flatMap Enc.enc++[I (yv x t i)]:=by rw[f1,Ar];rfl
   have c2:(((List.range (i+1)).map (yx x t)).flatMap Enc.enc:List PV)=((List.range i).map (yx x t)).flatMap Enc.enc++[I (yx x t i)]:=by rw[f2,Ar];rfl
   have c3:(((List.range (i+1+1)).map λi=>zX (t.take i)).flatMap Enc.enc:List PV)=((List.range (i+1)).map λi=>zX (t.take i)).flatMap Enc.enc++[I (zX (t.take (i+1)))]:=by rw[f3,Ar];rfl
   rw[hlzz]at z0;clear f1 f2 f3 z1 hlzz hlz;generalize (((List.range i).map (yv x t)).flatMap Enc.enc:List PV)=fc at *;generalize (((List.range i).map (yx x t)).flatMap Enc.enc:List PV)=bc at *;generalize (((List.range (i+1)).map λi=>zX (t.take i)).flatMap Enc.enc:List PV)=lc at *;have t1:fc.take i=fc:=Af DH;have t2:bc.take i=bc:=Af DH;have t3:lc.take (i+1)=lc:=Af DH;refine zh (za (zj (za (ze [] (zF s0 hci hi2) ?_))));intro v9;apply za;refine qS (nx:=nx) (λ_:Unit=>True) (λ_=>[(2,.ptr nx v0 0),(5,.ptr (nx+2) v2 0),(7,.ptr (nx+4) v4 0),(8,.ptr (nx+6) v6 0),(9,I (yv x t i)),(10,I (yx x t i)),(11,I i),(12,.ptr (nx+9) v9 0),(20,L d),(21,I d.length),(22,I k),(32,L t),(33,I t.length),(34,I i)]) (λ_=>S)
    (λ_=>[.cells v0 25 (zy x),.cells v1 39 [L d],.cells v2 408 [I x.days,I x.veh,I x.cap,I x.len,L x.cust,L x.dist,L d,.sl (nx+3) v3 4 0 k],.cells v3 410 pc,.cells v4 42 [L t],.cells v5 3 lc,
    .cells v6 410 [.sl (nx+7) v7 1 0 i,.sl (nx+8) v8 1 0 i,.sl (nx+5) v5 1 0 (i+1),I wl],.cells v7 3 fc,.cells v8 3 bc,.cells v9 100 [I s.c,I s.q]]) ?_ ?_
   ·by_cases h0:0<i
    ·obtain⟨j,rfl⟩:∃j,i=j+1:=⟨i-1,by omega⟩;obtain⟨p,tp,p1,-,-,-,p0⟩:=el 2 rfl t j DH;obtain⟨hpm,-,-⟩:=hts p (Ab p1);have hgp:t.getD j default=p:=by rw[Aa,p1];rfl
     have hj2:2<=t.length*2-j*2:=DH
     have hjl:j<t.length:=DH
     have wj:IntKind.i64.wrap (j:Int)=(j:Int):=wr _ DH DH;have wp:=Jd hpm;have ws:=Jd hsm;have ar1:=wP x (p.c+1) (s.c+1);have ar2:=wP x (s.c+1) (p.c+1);have hfz:yv x t (j+1)=yv x t j+arc x (p.c+1) (s.c+1):=by conv=>lhs;unfold yv;rw[hgs,hgp]
     have hbz:yx x t (j+1)=yx x t j+arc x (s.c+1) (p.c+1):=by conv=>lhs;unfold yx;rw[hgs,hgp]
     have b1:=Xs hx t (j+1);have b2:=Xt hx t (j+1);have wf:IntKind.i64.wrap (yv x t j+arc x (p.c+1) (s.c+1))=yv x t (j+1):=by rw[hfz]at b1 ⊢;exact wr _ DH DH
     have wb:IntKind.i64.wrap (yx x t j+arc x (s.c+1) (p.c+1))=yx x t (j+1):=by rw[hbz]at b2 ⊢;exact wr _ DH DH
     simp only[B1];have h0':(0:Int)<((j+1:Nat):Int):=DH
     refine za (ze [] (zo h0 h0') ?_);refine zn DI ?_;refine za (zz (some [nx+4,nx+9]) (Row.pures [0,1,2,3,4,5,6,7,8,9,10,11,12] .done) mixed (yl wj p0 hjl hj2 wp ws) ?_);refine DQ ?_;refine qm [] ar1 wf ?_;refine zb ?_;refine qm [] ar2 wb ?_;exact z8 () [] trivial DI rfl DI
    ·obtain rfl:i=0:=DH
     refine DQ ?_;exact zm rfl (zh (z8 () [] trivial DI rfl DI))
   ·rintro⟨⟩ -;apply za;refine qS (nx:=nx) (λ_:Unit=>True) (λ_=>[(2,.ptr nx v0 0),(5,.ptr (nx+2) v2 0),(7,.ptr (nx+4) v4 0),(8,.ptr (nx+6) v6 0),(9,I (yv x t i)),(10,I (yx x t i)),(11,I i),(12,.ptr (nx+9) v9 0),(20,L d),(21,I d.length),(22,I k),(32,L t),(33,I t.length),(34,I i)]) (λ_=>S)
     (λ_=>[.cells v0 25 (zy x),.cells v1 39 [L d],.cells v2 408 [I x.days,I x.veh,I x.cap,I x.len,L x.cust,L x.dist,L d,.sl (nx+3) v3 4 0 k],.cells v3 410 pc,.cells v4 42 [L t],.cells v5 3 lc,
     .cells v6 410 [.sl (nx+7) (v7+1) 1 0 (i+1),.sl (nx+8) (v8+1) 1 0 (i+1),.sl (nx+5) v5 1 0 (i+1),I wl],.cells (v7+1) 3 (fc++[I (yv x t i)]),.cells (v8+1) 3 (bc++[I (yx x t i)]),.cells v9 100 [I s.c,I s.q]]) ?_ ?_
    ·repeat apply za
     refine zz (some []) (Row.pures [0,2,3,5,7,8] (.alt 1 (.alt 4 (.alt 6 (Row.pures [10] (.alt 9 (.alt 11 (Row.pures [12] (.alt 13 (.done) .stop)) .stop) .stop)) .stop) (.alt 6 (.alt 4 (Row.pures [10] (.alt 9 (.alt 11 (Row.pures [12] (.alt 13 (.done) .stop)) .stop) .stop)) .stop) .stop)) (.alt 6 (.alt 1 (.alt 4 (Row.pures [10] (.alt 9 (.alt 11 (Row.pures [12] (.alt 13 (.done) .stop)) .stop) .stop)) .stop) .stop) .stop))) mixed (zV g1 g2 t1 t2) ?_
     repeat' (first | refine And.intro DH ?_ | apply And.intro)
     all_goals exact z8 () [] trivial DI rfl DI
    ·rintro⟨⟩ -;have z1:(i:Int)<(i:Int)+1:=DH
     have z2:i<i+1:=DH
     have z3:1<=i+1-i:=DH
     refine zz (some [nx+9]) (Row.pures [0,2,4,7,8] (.alt 1 (.alt 3 (Row.pures [5] (.alt 6 (Row.pures [9,10] (.alt 11 (Row.pures [12] (.alt 13 (.done) .stop)) .stop)) .stop)) .stop) (.alt 3 (Row.pures [5] (.alt 1 (.alt 6 (Row.pures [9,10] (.alt 11 (Row.pures [12] (.alt 13 (.done) .stop)) .stop)) .stop) (.alt 6 (Row.pures [9,10] (.alt 1 (.alt 11 (Row.pures [12] (.alt 13 (.done) .stop)) .stop) .stop)) .stop))) .stop))) mixed (yl z0 z1 z2 z3 wl1 (zo g3 t3)) ?_
     repeat' (first | refine And.intro DH ?_ | apply And.intro)
     all_goals
      refine ze [] wi ?_;exact zq (i+1,v5+1,v7+1,v8+1) [_] hci DL (by simp[wi]) rfl (by simp[c1,c2,c3];rfl)
  ·simp at hci;obtain rfl:i=t.length:=DH
   refine zx ?_;clear hi hci;have hsm:xg x t=⟨(List.range t.length).map (yv x t),(List.range t.length).map (yx x t),(List.range (t.length+1)).map λi=>zX (t.take i),wl⟩:=by unfold xg;rw[hwl]
   have g1:(((List.range t.length).map (yv x t)).flatMap Enc.enc:List PV).length=t.length:=by rw[jG];simp
   have g2:(((List.range t.length).map (yx x t)).flatMap Enc.enc:List PV).length=t.length:=by rw[jG];simp
   have g3:(((List.range (t.length+1)).map λi=>zX (t.take i)).flatMap Enc.enc:List PV).length=t.length+1:=by rw[jG];simp
   have hfz:∀id v cs,pc.map (qf id v cs)=pc:=λid v cs=>by rw[<-hpc];exact Zpg id v cs _
   have hpl:pc.length=k*4:=by rw[<-hpc,ZgA];simp;omega
   have hpt:pc.take (k*4)=pc:=Af DH;have hnew:(((d.map (xg x)).take (k+1)).flatMap Enc.enc:List PV)=pc++[L ((List.range t.length).map (yv x t)),L ((List.range t.length).map (yx x t)),L ((List.range (t.length+1)).map λi=>zX (t.take i)),I wl]:=by
    rw[<-hpc,<-List.map_take,a3,List.map_append,Ar,<-List.map_take,AA,hsm];rfl
   have l1:((List.range t.length).map (yv x t)).length=t.length:=DI
   have l2:((List.range t.length).map (yx x t)).length=t.length:=DI
   have l3:((List.range (t.length+1)).map λi=>zX (t.take i)).length=t.length+1:=DI
   generalize (List.range t.length).map (yv x t)=fl at *;generalize (List.range t.length).map (yx x t)=bl at *;generalize ((List.range (t.length+1)).map λi=>zX (t.take i))=ll at *;clear g1 g2 g3;refine yb 8 rfl ?_;simp only[AA,Bo,AV,A4,xH,hfz];refine yb 7 rfl ?_;simp only[AA,Bo,AV,A4,xH,hfz];refine yb 5 rfl ?_;simp only[AA,Bo,AV,A4,xH,hfz];refine zz (some [nx+6]) (Row.pures [0,1,2,3,5,6] (.alt 4 (.alt 7 (Row.pures [8,9] (.alt 10 (.done) .stop)) .stop) .stop)) mixed (yE l1 l2 l3 hpl hpt) ?_;refine⟨by omega,?_⟩;refine zb ?_;exact zq (k+1,v3+1) [_,_,_,_,_] hc DL (by simp[zu k (by omega)]) rfl (by simp[hnew,l1,l2,l3];exact⟨rfl,rfl,rfl,rfl,rfl⟩)
 ·simp at hc;obtain rfl:k=d.length:=DH
  rw[Af DI];refine zx ?_;have hml:((d.map (xg x)).flatMap Enc.enc:List PV).length=d.length*4:=by rw[ZgA];simp
  refine yb 3 rfl ?_;refine za (ze [] hml ?_);refine xR 2 rfl ?_;exact zg (zi hd DJ (by simp[zp,hml]))
open Go Go.Proofs
def xx(x:Inst):Int->List Int->Int
 | _,[]=>0
 | a,c :: l=>arc x a (c+1)+xx x (c+1) l
theorem Zcz(x:Inst):∀(l:List Int) (a:Int) (m:List Int),xx x a (l++m)=xx x a l+xx x (y8 a l) m
 | [],a,m=>by simp[xx,y8]
 | c :: l,a,m=>by
  simp only[List.cons_append,xx,y8];rw[Zcz x l (c+1) m];omega
theorem ZcA:∀(l:List Int) (a:Int) (m:List Int),y8 a (l++m)=y8 (y8 a l) m
 | [],a,m=>rfl
 | c :: l,a,m=>by simp only[List.cons_append,y8];exact ZcA l (c+1) m
theorem ZgB(x:Inst):∀(l:List Int) (a:Int),wy x a l=xx x a l+arc x (y8 a l) 0
 | [],a=>by simp[wy,xx,y8]
 | c :: l,a=>by
  simp only[wy,xx,y8];rw[ZgB x l (c+1)];omega
def ue(t:zL)(f n:Nat):zL:=(t.drop f).take n
theorem WE{t:zL}{f n:Nat}{s:Stop}(h:t[f+n]?=some s):ue t f (n+1)=ue t f n++[s]:=by grind[ue,List.take_succ_eq_append_getElem]
theorem getD_some{t:zL}{i:Nat}{s:Stop}(h:t[i]?=some s):t.getD i default=s:=DP
theorem ZgC(x:Inst)(t:zL)(f:Nat)(a:Int):∀n,f+n<t.length->xx x a ((ue t f (n+1)).map (·.c))=arc x a ((t.getD f default).c+1)+(yv x t (f+n)-yv x t f)/\y8 a ((ue t f (n+1)).map (·.c))=(t.getD (f+n) default).c+1
 | 0,h=>by
  have h0:t[f+0]?=some t[f]:=Ae DH;rw[WE h0]
  grind[ue,xx,y8]
 | n+1,h=>by
  obtain⟨i1,i2⟩:=ZgC x t f a n DH;have h0:t[f+(n+1)]?=some t[f+(n+1)]:=Ae DH;rw[WE h0,List.map_append,Zcz,ZcA,i1,i2,getD_some h0]
  grind[xx,y8,yv]
theorem ZgD(x:Inst)(t:zL)(f:Nat):∀(n:Nat) (a:Int),f+n<t.length->xx x a ((ue t f (n+1)).reverse.map (·.c))=arc x a ((t.getD (f+n) default).c+1)+(yx x t (f+n)-yx x t f)/\y8 a ((ue t f (n+1)).reverse.map (·.c))=(t.getD f default).c+1
 | 0,a,h=>by
  have h0:t[f+0]?=some t[f]:=Ae DH;rw[WE h0]
  grind[ue,xx,y8]
 | n+1,a,h=>by
  have h0:t[f+(n+1)]?=some t[f+(n+1)]:=Ae DH;obtain⟨i1,i2⟩:=ZgD x t f n ((t.getD (f+(n+1)) default).c+1) DH;rw[WE h0,List.reverse_append];simp only[Dj,List.reverse_nil,AT,List.cons_append,AA,xx,y8]
  grind[yx]
theorem ZgE(t:zL)(f:Nat):∀n,f+n<=t.length->zX (ue t f n)=zX (t.take (f+n))-zX (t.take f)
 | 0,_=>by simp[ue,zX]
 | n+1,h=>by
  have h0:t[f+n]?=some t[f+n]:=Ae DH;have e:t.take (f+n+1)=t.take (f+n)++[t[f+n]]:=AR DH;rw[WE h0,VZ,ZgE t f n DH,<-Nat.add_assoc,e,VZ];omega
def jm(x:Inst)(d:zk)(st:Int × Int)(p:Pc):Int × Int :=
 if p.f<p.o then
  (bif p.b then (((d.getD p.t []).getD p.f default).c+1,st.2+(arc x st.1 (((d.getD p.t []).getD (p.o-1) default).c+1)+yx x (d.getD p.t []) (p.o-1)-yx x (d.getD p.t []) p.f))
  else (((d.getD p.t []).getD (p.o-1) default).c+1,st.2+(arc x st.1 (((d.getD p.t []).getD p.f default).c+1)+yv x (d.getD p.t []) (p.o-1)-yv x (d.getD p.t []) p.f)))
 else st
def wD(x:Inst)(d:zk)(r:Rw5):Int:=(r.l.foldl (jm x d) (0,0)).2+arc x (r.l.foldl (jm x d) (0,0)).1 0
def wW(d:zk)(st:Int)(p:Pc):Int:=if p.f<p.o then st+(zX ((d.getD p.t []).take p.o)-zX ((d.getD p.t []).take p.f)) else st
def Qy(d:zk)(r:Rw5):Int:=r.l.foldl (wW d) 0
theorem Zpi{x:Inst}{d:zk}{p:Pc}(h:Xq d p)(g:List Stop):jm x d (y8 0 (g.map (·.c)),xx x 0 (g.map (·.c))) p=(y8 0 ((g++qv d p).map (·.c)),xx x 0 ((g++qv d p).map (·.c))):=by
 unfold jm qv
 by_cases hfo:p.f<p.o
 ·obtain⟨ht,ho⟩:=h hfo;unfold qC at ho;rw[if_pos hfo,if_pos hfo];generalize d.getD p.t []=t at *;obtain⟨n,hn⟩:∃n,p.o=p.f+n+1:=⟨p.o-p.f-1,by omega⟩;have e1:p.o-1=p.f+n:=DH
  have e2:p.o-p.f=n+1:=DH
  rw[e1,e2,List.map_append,Zcz,ZcA];cases p.b with
  | true =>
   simp only[cond_true];obtain⟨i1,i2⟩:=ZgD x t p.f n (y8 0 (g.map (·.c))) DH;unfold ue at i1 i2;rw[i1,i2];congr 1;omega
  | false =>
   simp only[cond_false];obtain⟨i1,i2⟩:=ZgC x t p.f (y8 0 (g.map (·.c))) n DH;unfold ue at i1 i2;rw[i1,i2];congr 1;omega
 grind
theorem ZgF{x:Inst}{d:zk}:∀(l:List Pc) (g:List Stop),(∀p∈l,Xq d p)->l.foldl (jm x d) (y8 0 (g.map (·.c)),xx x 0 (g.map (·.c)))=(y8 0 ((g++l.flatMap (qv d)).map (·.c)),xx x 0 ((g++l.flatMap (qv d)).map (·.c)))
 | [],g,_=>by simp
 | p :: l,g,h=>by
  rw[AY,Zpi (h p DI),ZgF l _ λq hq=>h q (by simp[hq]),Az,List.append_assoc]
theorem ZcB{x:Inst}{d:zk}{r:Rw5}(h:uD d r)(h0:arc x 0 0=0):wD x d r=yB x ((y9 d r).map (·.c)):=by
 have:=ZgF (x:=x) r.l [] h
 grind[y8,xx,wD,y9,yB,ZgB]
theorem Zpj{d:zk}{p:Pc}(h:Xq d p)(g:List Stop):wW d (zX g) p=zX (g++qv d p):=by
 unfold wW qv
 by_cases hfo:p.f<p.o
 ·obtain⟨ht,ho⟩:=h hfo;unfold qC at ho;rw[if_pos hfo,if_pos hfo,Zn0];generalize d.getD p.t []=t at *;have:=ZgE t p.f (p.o-p.f) DH;rw[show p.f+(p.o-p.f)=p.o by omega]at this;have hr:∀l:zL,zX l.reverse=zX l:=λl=>by unfold zX;exact ZnZ ((List.reverse_perm l).map _)
  unfold ue at this;cases p.b with
  | true=>simp only[cond_true];rw[hr,this]
  | false=>simp only[cond_false];rw[this]
 grind
theorem Zpk{d:zk}{r:Rw5}(h:uD d r):Qy d r=zX (y9 d r):=by
 have key:∀(l:List Pc) (g:List Stop),(∀p∈l,Xq d p)->l.foldl (wW d) (zX g)=zX (g++l.flatMap (qv d)):=by
  intro l
  induction l with
  | nil=>intro g _;simp
  | cons p l ih =>
   intro g h;rw[AY,Zpj (h p DI),ih _ λq hq=>h q (by simp[hq]),Az,List.append_assoc]
 have:=key r.l [] h
 simp_all[Qy,y9,zX]
open Go Go.Proofs
abbrev Xu(x:Inst)(d:zk)(sms:List Sm):List PV:=[I x.days,I x.veh,I x.cap,I x.len,L x.cust,L x.dist,L d,L sms]
theorem Xv{x:Inst}(h:qt x)(a b:Int):0<=arc x a b/\arc x a b<=2147483648:=h a b
theorem Zaj{x:Inst}{d:zk}{sms:List Sm}(hs:sms=d.map (xg x)){k:Nat}(h:k<d.length):∃(t:zL) (td tf:List PV),d[k]?=some t/\d.getD k []=t/\(d.flatMap Enc.enc:List PV).drop k=L t :: td /\
  (sms.flatMap Enc.enc:List PV).drop (k*4)=[L (xg x t).f,L (xg x t).b,L (xg x t).l,I (xg x t).n]++tf:=by
 obtain⟨t,td,a1,-,-,e0⟩:=zJ rfl d k h;rw[hs];obtain⟨s,ts,b1,-,-,-,f0⟩:=el 4 rfl (d.map (xg x)) k (by simpa using h);have:s=xg x t:=by rw[Ai,a1]at b1;exact(Option.some.inj b1).symm
 subst this;exact⟨t,td,ts,a1,by rw[Aa,a1];rfl,e0,f0⟩
theorem Xw{α:Type}[Enc α](n:Nat)(hn:Enc.sz α=1)(f:Nat->α){i:Nat}(h:i<n):∃tl,(((List.range n).map f).flatMap Enc.enc:List PV).drop i=Enc.enc (f i)++tl:=by
 obtain⟨s,ts,b1,-,-,f0⟩:=zJ hn ((List.range n).map f) i (by simpa using h);have:s=f i:=by rw[Ai,Bk h]at b1;exact(Option.some.inj b1).symm
 subst this;exact⟨ts,f0⟩
theorem ZcC(x:Inst)(d:zk)(r:Rw5)(hx:qt x)(hd':MvDay d)(hr:uD d r):Pure prog 342 [.ip (uE x d),.agg (yt r)] (I (wD x d r)):=by
 obtain⟨sms,hsms⟩:∃sms,sms=d.map (xg x):=⟨_,rfl⟩;have hml:sms.length=d.length:=by rw[hsms];simp
 rw[show uE x d=Xu x d sms from by rw[hsms]];have hdn:=hd'.n;have hat:=λk (h:k<5)=>Zai r h
 have hz:wD x d r=((r.l.take 5).foldl (jm x d) (0,0)).2+arc x ((r.l.take 5).foldl (jm x d) (0,0)).1 0:=by unfold wD;rw[Af (by simp[Rw5.l])]
 rw[hz];clear hz;have hcl:(yt r).length=20:=rfl;have hct:(yt r).take 20=yt r:=rfl;generalize hrc:yt r=rc at *;refine zt func342 ntmps342 results342 λS nx hd=>?_
 refine DQ ?_;intro v0;refine DQ ?_
 repeat apply za
 refine ze [] (zo hcl hct) ?_;refine zj (zD (λk:Nat=>k<=5/\-(8796093022208*(k:Int))<=((r.l.take k).foldl (jm x d) (0,0)).2/\((r.l.take k).foldl (jm x d) (0,0)).2<=8796093022208*k) (λk=>[(0,.ip (Xu x d sms)),(3,.ptr nx v0 0),(5,I ((r.l.take k).foldl (jm x d) (0,0)).1),(6,I ((r.l.take k).foldl (jm x d) (0,0)).2),(13,.agg rc),(14,I k)]) (λ_=>[.cells v0 371 rc]) (λk=>5-k) 0 [] DI DI DI ?_);rintro k ⟨hk,hb1,hb2⟩
 by_cases hk5:k<5
 ·obtain⟨p,hp1,hp2,hp3⟩:=hat k hk5;have hk5':(k:Int)<5:=DH
  have hk6:4<=20-k*4:=DH
  have hok:=hr p (Ab hp1);have hnx:(r.l.take (k+1)).foldl (jm x d) (0,0)=jm x d ((r.l.take k).foldl (jm x d) (0,0)) p:=by rw[hp3,Bw];rfl
  generalize (r.l.take k).foldl (jm x d) (0,0)=st at *;obtain⟨at_,all⟩:=st;simp only at hb1 hb2 ⊢;have wk:=zu k DH;refine za (ze [] hk5' ?_);refine za (zn rfl (zh (za (zj (za (ze [] (yE hp2 hk5 hk5' hcl hk6) ?_))))));intro v3
  by_cases hfo:p.f<p.o
  case neg =>
   have hpz:jm x d (at_,all) p=(at_,all):=by unfold jm;rw[if_neg hfo]
   rw[hpz]at hnx;have hfo':p.o<=p.f:=DH
   repeat apply za
   refine ze [] hfo' ?_;refine zn (by simp[hfo']) ?_;refine zx (zb ?_);exact zq (k+1) [_] ⟨by omega,by rw[hnx];simp only;omega,by rw[hnx];simp only;omega⟩ DH (by simp[wk,hnx]) rfl DJ
  obtain⟨ht,ho⟩:=hok hfo;obtain⟨t,td,tf,a1,hgt,e0,f0⟩:=Zaj hsms ht;unfold qC at ho;rw[hgt]at ho;have htm:=Ab a1;have htl:=hd'.t t htm;have hts:=hd'.s t htm;have ht1:1<=d.length-p.t:=DH
  have ht4:4<=d.length*4-p.t*4:=DH
  obtain⟨n,hn⟩:∃n,p.o=n+1:=⟨p.o-1,by omega⟩;have hfo':¬p.o<=p.f:=DH
  have hst:jm x d (at_,all) p=bif p.b then ((t.getD p.f default).c+1,all+(arc x at_ ((t.getD n default).c+1)+yx x t n-yx x t p.f)) else ((t.getD n default).c+1,all+(arc x at_ ((t.getD p.f default).c+1)+yv x t n-yv x t p.f)):=by
   unfold jm;rw[if_pos hfo,hgt,show p.o-1=n by omega]
  rw[hst]at hnx;clear hst;obtain⟨sf,tsf,s1,-,-,-,s0⟩:=el 2 rfl t p.f DH;obtain⟨sl,tsl,l1,-,-,-,l0⟩:=el 2 rfl t n DH;have hgf:t.getD p.f default=sf:=getD_some s1;have hgl:t.getD n default=sl:=getD_some l1;rw[hgf,hgl]at hnx;have q1:p.f<t.length:=DH
  have q2:n<t.length:=DH
  have q3:2<=t.length*2-p.f*2:=DH
  have q4:2<=t.length*2-n*2:=DH
  have wo:IntKind.i64.wrap ((p.o:Int)-1)=(n:Int):=by rw[wr _ DH DH];omega
  have wsf:=Jd (hts sf (Ab s1)).1;have wsl:=Jd (hts sl (Ab l1)).1;have bf1:=Xs hx t p.f;have bf2:=Xs hx t n;have bb1:=Xt hx t p.f;have bb2:=Xt hx t n;have hlen:((List.range t.length).map (yv x t)).length=t.length/\((List.range t.length).map (yx x t)).length=t.length:=DI
  obtain⟨z1,hz1⟩:=Xw t.length rfl (yv x t) q1;obtain⟨z2,hz2⟩:=Xw t.length rfl (yv x t) q2;obtain⟨z3,hz3⟩:=Xw t.length rfl (yx x t) q1;obtain⟨z4,hz4⟩:=Xw t.length rfl (yx x t) q2;have q5:1<=t.length-p.f:=DH
  have q6:1<=t.length-n:=DH
  simp only[xg]at f0;generalize hfl:(List.range t.length).map (yv x t)=fl at *;generalize hbl:(List.range t.length).map (yx x t)=bl at *;generalize ((List.range (t.length+1)).map λi=>zX (t.take i))=ll at *;generalize yB x (t.map (·.c))=wl at *;obtain⟨hl1,hl2⟩:=hlen;have hfll:(fl.flatMap Enc.enc:List PV).length=t.length:=by rw[jG,hl1]
  have hbll:(bl.flatMap Enc.enc:List PV).length=t.length:=by rw[jG,hl2]
  repeat apply za
  refine ze [] hfo' ?_;refine zm (by simp[hfo']) ?_;refine zh (za (zz (some [nx+1]) (Row.pures [0,1,2,3,4,5,6,7,8,9,10,11,12,13,14,15,16,17,18,19,20] .done) mixed (yl e0 f0 ht ht1 ht4 hml) ?_));refine za (zz (some [nx+1]) (Row.pures [0,1,2,3,4,5,6] .done) mixed wo ?_);apply za;cases hpb:p.b with
  | false =>
   rw[hpb]at hnx;simp only[cond_false]at hnx;have har:=Xv hx at_ (sf.c+1);have ar:=wP x at_ (sf.c+1);have w1:IntKind.i64.wrap (arc x at_ (sf.c+1)+yv x t n)=arc x at_ (sf.c+1)+yv x t n:=wr _ DH DH;have w2:IntKind.i64.wrap (arc x at_ (sf.c+1)+yv x t n-yv x t p.f)=arc x at_ (sf.c+1)+yv x t n-yv x t p.f:=wr _ DH DH;have w3:IntKind.i64.wrap (all+(arc x at_ (sf.c+1)+yv x t n-yv x t p.f))=all+(arc x at_ (sf.c+1)+yv x t n-yv x t p.f):=wr _ DH DH;refine za (ze [] hpb ?_);refine zm rfl (zh (za (zz (some [nx+1]) (Row.pures [0,1,2,3,4,5,6,7,8,9,10,11,12,13,14,15,16,17,18,19,20,21,22,23,24,25,26,27] .done) mixed (yl s0 q1 q3 wsf wo (zo (yl hz1 hz2 hfll hl1 q2 q5) (zV q6 w1 w2 w3))) ?_)));refine zK (ar) (yl s0 q1 q3 wsf wo (zo (yl hz1 hz2 hfll hl1 q2 q5) (zV q6 w1 w2 w3))) ?_;refine ze [] (zV l0 q2 q4 wsl) ?_;refine zb ?_;exact zq (k+1) [_] ⟨by omega,by rw[hnx];simp only;omega,by rw[hnx];simp only;omega⟩ DH (by simp[wk,hnx]) rfl DJ
  | true =>
   rw[hpb]at hnx;simp only[cond_true]at hnx;have har:=Xv hx at_ (sl.c+1);have ar:=wP x at_ (sl.c+1);have w1:IntKind.i64.wrap (arc x at_ (sl.c+1)+yx x t n)=arc x at_ (sl.c+1)+yx x t n:=wr _ DH DH;have w2:IntKind.i64.wrap (arc x at_ (sl.c+1)+yx x t n-yx x t p.f)=arc x at_ (sl.c+1)+yx x t n-yx x t p.f:=wr _ DH DH;have w3:IntKind.i64.wrap (all+(arc x at_ (sl.c+1)+yx x t n-yx x t p.f))=all+(arc x at_ (sl.c+1)+yx x t n-yx x t p.f):=wr _ DH DH;refine za (ze [] hpb ?_);refine zn rfl (zz (some [nx+1]) (Row.pures [0,1,2,3,4,5,6,7,8,9,10,11,12,13] .done) mixed (zV f0 ht ht4 hml) ?_);refine za (zz (some [nx+1]) (Row.pures [0,1,2,3,4,5,6,7,8,9,10,11,12,13,14,15,16,17,18,19,20,21,22,23,24,25,26,27] .done) mixed (yl l0 q2 q4 wsl wo (zo (yl hz3 hz4 hbll hl2 q1 q5) (zV q6 w1 w2 w3))) ?_);refine zK (ar) (yl l0 q2 q4 wsl wo (zo (yl hz3 hz4 hbll hl2 q1 q5) (zV q6 w1 w2 w3))) ?_;refine ze [] (zV s0 q1 q3 wsf) ?_;refine zb ?_;exact zq (k+1) [_] ⟨by omega,by rw[hnx];simp only;omega,by rw[hnx];simp only;omega⟩ DH (by simp[wk,hnx]) rfl DJ
 ·obtain rfl:k=5:=DH
  generalize (r.l.take 5).foldl (jm x d) (0,0)=st at *;obtain⟨at_,all⟩:=st;simp only at hb1 hb2 ⊢;have har:=Xv hx at_ 0;have ar:=wP x at_ 0;have w1:IntKind.i64.wrap (all+arc x at_ 0)=all+arc x at_ 0:=wr _ DH DH;refine DQ ?_;refine za (zm rfl (zx (DQ ?_)));refine qm [] ar w1 ?_;exact zg (zi hd rfl rfl)
open Go Go.Proofs
theorem Zpl(x:Inst)(d:zk)(r:Rw5)(hd':MvDay d)(hr:uD d r):Pure prog 343 [.ip (uE x d),.agg (yt r)] (I (Qy d r)):=by
 obtain⟨sms,hsms⟩:∃sms,sms=d.map (xg x):=⟨_,rfl⟩;have hml:sms.length=d.length:=by rw[hsms];simp
 rw[show uE x d=Xu x d sms from by rw[hsms]];have hdn:=hd'.n;have hat:=λk (h:k<5)=>Zai r h
 have hz:Qy d r=(r.l.take 5).foldl (wW d) 0:=by unfold Qy;rw[Af (by simp[Rw5.l])]
 rw[hz];clear hz;have hcl:(yt r).length=20:=rfl;have hct:(yt r).take 20=yt r:=rfl;generalize hrc:yt r=rc at *;refine zt func343 ntmps343 results343 λS nx hd=>?_
 refine DQ ?_;intro v0;refine DQ ?_
 repeat apply za
 refine ze [] (zo hcl hct) ?_;refine zj (zD (λk:Nat=>k<=5/\-(8796093022208*(k:Int))<=(r.l.take k).foldl (wW d) 0/\(r.l.take k).foldl (wW d) 0<=8796093022208*k) (λk=>[(0,.ip (Xu x d sms)),(3,.ptr nx v0 0),(5,I ((r.l.take k).foldl (wW d) 0)),(8,.agg rc),(9,I k)]) (λ_=>[.cells v0 371 rc]) (λk=>5-k) 0 [] DI DI DI ?_);rintro k ⟨hk,hb1,hb2⟩
 by_cases hk5:k<5
 ·obtain⟨p,hp1,hp2,hp3⟩:=hat k hk5;have hk5':(k:Int)<5:=DH
  have hk6:4<=20-k*4:=DH
  have hok:=hr p (Ab hp1);have hnx:(r.l.take (k+1)).foldl (wW d) 0=wW d ((r.l.take k).foldl (wW d) 0) p:=by rw[hp3,Bw];rfl
  generalize (r.l.take k).foldl (wW d) 0=all at *;have wk:=zu k DH;refine za (ze [] hk5' ?_);refine za (zn rfl (zh (za (zj (za (ze [] (yE hp2 hk5 hk5' hcl hk6) ?_))))));intro v3
  by_cases hfo:p.f<p.o
  case neg =>
   have hpz:wW d all p=all:=by unfold wW;rw[if_neg hfo]
   rw[hpz]at hnx;refine za (ze [] hfo ?_);refine zm (by simp[hfo]) ?_;refine zh (zb ?_);exact zq (k+1) [_] ⟨by omega,by rw[hnx];omega,by rw[hnx];omega⟩ DH (by simp[wk,hnx]) rfl DJ
  obtain⟨ht,ho⟩:=hok hfo;obtain⟨t,td,tf,a1,hgt,e0,f0⟩:=Zaj hsms ht;unfold qC at ho;rw[hgt]at ho;have htm:=Ab a1;have htl:=hd'.t t htm;have hts:=hd'.s t htm;have ht4:4<=d.length*4-p.t*4:=DH
  have hst:wW d all p=all+(zX (t.take p.o)-zX (t.take p.f)):=by unfold wW;rw[if_pos hfo,hgt]
  rw[hst]at hnx;have b1:=Zce (t:=t.take p.o) (λa ha=>(hts a (BD ha)).2);have b2:=Zce (t:=t.take p.f) (λa ha=>(hts a (BD ha)).2);have b3:(t.take p.o).length<=1000:=by rw[Ax];omega
  have b4:(t.take p.f).length<=1000:=by rw[Ax];omega
  have w1:IntKind.i64.wrap (zX (t.take p.o)-zX (t.take p.f))=zX (t.take p.o)-zX (t.take p.f):=wr _ DH DH;have w2:IntKind.i64.wrap (all+(zX (t.take p.o)-zX (t.take p.f)))=all+(zX (t.take p.o)-zX (t.take p.f)):=wr _ DH DH;obtain⟨z1,hz1⟩:=Xw (t.length+1) rfl (λi=>zX (t.take i)) (show p.o<t.length+1 by omega);obtain⟨z2,hz2⟩:=Xw (t.length+1) rfl (λi=>zX (t.take i)) (show p.f<t.length+1 by omega);have hll:((List.range (t.length+1)).map λi=>zX (t.take i)).length=t.length+1:=DI
  simp only[xg]at f0;generalize (List.range t.length).map (yv x t)=fl at *;generalize (List.range t.length).map (yx x t)=bl at *;generalize ((List.range (t.length+1)).map λi=>zX (t.take i))=ll at *;generalize yB x (t.map (·.c))=wl at *;generalize zX (t.take p.o)=lo at *;generalize zX (t.take p.f)=lf at *;have hlf:(ll.flatMap Enc.enc:List PV).length=t.length+1:=by rw[jG,hll]
  have q1:p.o<t.length+1:=DH
  have q2:p.f<t.length+1:=DH
  have q3:1<=t.length+1-p.o:=DH
  have q4:1<=t.length+1-p.f:=DH
  have q5:(p.o:Int)<(t.length:Int)+1:=DH
  have q6:(p.f:Int)<(t.length:Int)+1:=DH
  refine za (ze [] hfo ?_);refine zn (by simp[hfo]) ?_;refine zz (some [nx+1]) (Row.pures [0,1,2,3,4,5,6,7,8,9,10,11,12,13,14,15,16,17,18,19,20,21,22,23,24,25,26,27,28,29] .done) mixed (yl f0 ht ht4 hml hz1 (zo (yl hz2 hll hlf q1 q2 q3) (yE q4 q5 q6 w1 w2))) ?_;refine zb ?_;exact zq (k+1) [_] ⟨by omega,by rw[hnx];omega,by rw[hnx];omega⟩ DH (by simp[wk,hnx]) rfl DJ
 ·obtain rfl:k=5:=DH
  refine DQ ?_;refine za (zm rfl (zx (DQ ?_)));exact zg (zi hd rfl rfl)
def WF(x:Inst)(d:zk)(m:Mv)(r1 r2:Rw5):Int:=wD x d r1-yB x ((d.getD m.a []).map (·.c))+(if m.a=m.b then 0 else wD x d r2-yB x ((d.getD m.b []).map (·.c)))
theorem ZgG{x:Inst}(hx:qt x){d:zk}(hd':MvDay d){r:Rw5}(hr:uD d r):-52776558133248<=wD x d r/\wD x d r<=52776558133248:=by
 have key:∀k:Nat,k<=5->-(8796093022208*(k:Int))<=((r.l.take k).foldl (jm x d) (0,0)).2/\((r.l.take k).foldl (jm x d) (0,0)).2<=8796093022208*k:=by
  intro k
  induction k with
  | zero=>intro _;simp
  | succ k ih =>
   intro hk;obtain⟨h1,h2⟩:=ih DH;obtain⟨p,hp1,-,hp3⟩:=Zai r (show k<5 by omega);have hok:=hr p (Ab hp1);rw[hp3,Bw,AY,List.foldl_nil];generalize (r.l.take k).foldl (jm x d) (0,0)=st at *;unfold jm
   by_cases hfo:p.f<p.o
   ·obtain⟨ht,ho⟩:=hok hfo;have htm:d.getD p.t []∈d:=Ab (i:=p.t) (by rw[Aa,Ae ht];rfl);have htl:=hd'.t _ htm;unfold qC at ho;generalize d.getD p.t []=t at *;have b1:=Xs hx t p.f;have b2:=Xs hx t (p.o-1);have b3:=Xt hx t p.f;have b4:=Xt hx t (p.o-1);rw[if_pos hfo];cases p.b with
    | true =>
     have:=Xv hx st.1 ((t.getD (p.o-1) default).c+1);simp only[cond_true];omega
    | false =>
     have:=Xv hx st.1 ((t.getD p.f default).c+1);simp only[cond_false];omega
   ·rw[if_neg hfo];omega
 have h5:=key 5 DH;rw[Af (by simp[Rw5.l])]at h5;have:=Xv hx (r.l.foldl (jm x d) (0,0)).1 0;unfold wD;omega
theorem Zpm(x:Inst)(d:zk)(m:Mv)(r1 r2:Rw5)(hx:qt x)(hd':MvDay d)(hr1:uD d r1)(hr2:uD d r2)(ha:m.a<d.length)(hb:m.b<d.length):Pure prog 327 [.ip (uE x d),.agg (u5 m),.agg (yt r1),.agg (yt r2)] (I (WF x d m r1 r2)):=by
 have l1:=ZcC x d r1 hx hd' hr1;have l2:=ZcC x d r2 hx hd' hr2;have b1:=ZgG hx hd' hr1;have b2:=ZgG hx hd' hr2;obtain⟨sms,hsms⟩:∃sms,sms=d.map (xg x):=⟨_,rfl⟩;have hml:sms.length=d.length:=by rw[hsms];simp
 rw[show uE x d=Xu x d sms from by rw[hsms]]at l1 l2 ⊢;have hdn:=hd'.n;obtain⟨ta,tda,tfa,a1,hga,-,fa⟩:=Zaj hsms ha;obtain⟨tb,tdb,tfb,c1,hgb,-,fb⟩:=Zaj hsms hb;have wa:=Xm hx (ta.map (·.c));have wb:=Xm hx (tb.map (·.c));rw[List.length_map]at wa wb;have hta:=hd'.t ta (Ab a1);have htb:=hd'.t tb (Ab c1);have hdef:WF x d m r1 r2=wD x d r1-yB x (ta.map (·.c))+(if m.a=m.b then 0 else wD x d r2-yB x (tb.map (·.c))):=by unfold WF;rw[hga,hgb]
 rw[hdef];clear hdef;simp only[xg]at fa fb;generalize wD x d r1=k1 at *;generalize wD x d r2=k2 at *;generalize yB x (ta.map (·.c))=wl at *;generalize yB x (tb.map (·.c))=wm at *;have ha4:4<=d.length*4-m.a*4:=DH
 have hb4:4<=d.length*4-m.b*4:=DH
 have w1:IntKind.i64.wrap (k1-wl)=k1-wl:=wr _ DH DH;have w2:IntKind.i64.wrap (k2-wm)=k2-wm:=wr _ DH DH;have w3:IntKind.i64.wrap (k1-wl+(k2-wm))=k1-wl+(k2-wm):=wr _ DH DH;have hc1:(yt r1).length=20:=rfl;have ht1:(yt r1).take 20=yt r1:=rfl;have hc2:(yt r2).length=20:=rfl;have ht2:(yt r2).take 20=yt r2:=rfl;generalize hrc1:yt r1=rc1 at *;generalize hrc2:yt r2=rc2 at *;refine zt func327 ntmps327 results327 λS nx hd=>?_
 refine DQ ?_;intro v0 v1 v2;refine za (zz (some [nx,nx+1]) (Row.pures [0,1,2,3,4,5,6,7,8,9,10,11,12,13] .done) mixed (yl hc1 ht1 fa ha ha4 (zo hml w1)) ?_);refine zK (l1) (yl hc1 ht1 fa ha ha4 (zo hml w1)) ?_
 by_cases hab:m.a=m.b
 ·have hab':(m.a:Int)=m.b:=DH
  rw[if_pos hab]
  repeat apply za
  refine ze [] hab' ?_;refine zm (by simp[hab']) ?_;refine zh (DQ ?_);exact zg (zi hd rfl (by simp[zp]))
 ·have hab':¬(m.a:Int)=m.b:=DH
  rw[if_neg hab]
  repeat apply za
  refine ze [] hab' ?_;refine zn (by simp[hab']) ?_;refine zz (some [nx,nx+2]) (Row.pures [0,1,2,3,4,5,6,7,8,9,10,11,12,13,14,15] .done) mixed (yl hc2 ht2 fb hb hb4 (zF hml w2 w3)) ?_;refine zK (l2) (yl hc2 ht2 fb hb hb4 (zF hml w2 w3)) ?_;refine DQ ?_;exact zg (zi hd rfl (by simp[zp]))
theorem ZgH(x:Inst)(d:zk)(r:Rw5)(hx:qt x)(hd':MvDay d)(hr:uD d r):Pure prog 328 [.ip (uE x d),.agg (yt r)] (B (decide (Qy d r<=x.cap/\wD x d r<=x.len))):=by
 have l1:=ZcC x d r hx hd' hr;have l2:=Zpl x d r hd' hr;obtain⟨sms,hsms⟩:∃sms,sms=d.map (xg x):=⟨_,rfl⟩;rw[show uE x d=Xu x d sms from by rw[hsms]]at l1 l2 ⊢;generalize wD x d r=k1 at *;generalize Qy d r=k2 at *;have hc1:(yt r).length=20:=rfl;have ht1:(yt r).take 20=yt r:=rfl;generalize hrc1:yt r=rc at *;refine zt func328 ntmps328 results328 λS nx hd=>?_
 refine DQ ?_;intro v0
 by_cases h1:k2<=x.cap
 ·refine za (zz (some [nx]) (Row.pures [0,1,2,3,4,5,6,7,8,9,10,11,12,13,14,15,16,17,18,19,20] .done) mixed (zF hc1 ht1 h1) ?_);refine zK (l2) (zF hc1 ht1 h1) ?_;refine zK (l1) (zF hc1 ht1 h1) ?_;exact zg (zi hd rfl (by simp[zp,h1]))
 ·refine za (zz (some [nx]) (Row.pures [0,1,2,3,4,5,6,7,8,9,10,11,12,13,14,15,16,17,18,19,20] .done) mixed (zV hc1 ht1 h1 zN) ?_);refine zK (l2) (zV hc1 ht1 h1 zN) ?_;exact zg (zi hd rfl (by simp[zp,h1]))
open Go Go.Proofs
theorem Zak{α:Type}{W:Nat->List α}{n k i:Nat}{x:α}(hk:k<n)(h:(W k)[i]?=some x):((List.range n).flatMap W)[((List.range k).flatMap W).length+i]?=some x:=by
 obtain⟨m,rfl⟩:∃m,n=k+(m+1):=⟨n-k-1,by omega⟩;have hi:=(Ac.1 h).1;rw[Da,Ar,Aj (CU _ _),AG,CC];simp only[AA,Az,Bx];rw[Ap hi];exact h
theorem Zal{α:Type}(W:Nat->List α)(k:Nat):((List.range (k+1)).flatMap W).length=((List.range k).flatMap W).length+(W k).length:=by
 rw[AL,Ar,Aq];simp
def YJ(d:zk)(k a b i j:Nat):Option Mv:=if xT d ⟨k,a,b,i,j⟩=true then some ⟨k,a,b,i,j⟩ else none
def Zt(d:zk)(k a b i:Nat):List Mv:=(List.range (qC d b+1)).filterMap (YJ d k a b i)
def Z5(d:zk)(k a b:Nat):List Mv:=(List.range (qC d a+1)).flatMap (Zt d k a b)
def Qz(d:zk)(k a:Nat):List Mv:=(List.range d.length).flatMap (Z5 d k a)
def Z6(d:zk)(k:Nat):List Mv:=(List.range d.length).flatMap (Qz d k)
def YK(d:zk):List Mv:=(List.range 4).flatMap (Z6 d)
abbrev Jq(m:Mv):List PV:=[.agg (u5 m)]
theorem Zpn(d:zk)(k a b:Nat)(hdn:d.length<=1048576)(hdt:∀t∈d,t.length<=1000)(hk:k<=3)(ha:a<d.length)(hb:b<d.length):
  V9 prog 341 (λy=>[.agg [L d],.agg [I k,I a,I b,I 0,I 0],jQ y]) ((Z5 d k a b).map Jq) (B true):=by
 refine ZfL func341 DM rfl ntmps341 (congrArg Array.toList results341) DI λy V keep nx J hJd hY A0 hA0=>?_
 obtain⟨ta,xa,a1,-,-,a0⟩:=zJ rfl d a ha;obtain⟨tb,xb,b1,-,-,b0⟩:=zJ rfl d b hb;have ha1:1<=d.length-a:=DH
 have hb1:1<=d.length-b:=DH
 have la:qC d a=ta.length:=by unfold qC;rw[Aa,a1];rfl
 have lb:qC d b=tb.length:=by unfold qC;rw[Aa,b1];rfl
 have hal:=hdt ta (Ab a1);have hbl:=hdt tb (Ab b1);have hall:∀t∈d,t.length<=1048576:=λt ht=>AD (hdt t ht) DN
 have hlook:=λi j (hi:i<=1048576) (hj:j<=1048576)=>Zct d ⟨k,a,b,i,j⟩ hdn hall hk ha hb hi hj
 have hpl:Z5 d k a b=(List.range (ta.length+1)).flatMap (Zt d k a b):=by unfold Z5;rw[la]
 have hrow:∀i,Zt d k a b i=(List.range (tb.length+1)).filterMap (YJ d k a b i):=λi=>by unfold Zt;rw[lb]
 rw[hpl]at hY ⊢;clear hpl la lb;refine DQ ?_;intro v0 v1
 repeat apply za
 refine zb ?_;refine zj (jt (σ:=Nat × Int × Store) (λs'=>s'.1<=ta.length+1/\J ((List.range s'.1).flatMap (Zt d k a b)).length s'.2.2) (λs'=>[(2,jQ y),(3,.ptr nx v0 0),(4,.ptr (nx+1) v1 0)]) (λs'=>s'.2.2)
  (λ(i,jv,_)=>[.cells v0 39 [L d],.cells v1 339 [I k,I a,I b,I i,I jv]]) (λs'=>ta.length+1-s'.1) (z8 (0,0,A0) [] (by simpa using hA0) DI rfl DI) ?_)
 rintro⟨i,jv,A⟩ ⟨hi,hJ⟩;simp only at hi hJ ⊢
 repeat apply za
 refine zz (some [nx,nx+1]) (Row.pures [0,1,2,3,4,5,6,7,8,9,10] .done) mixed (zF a0 ha ha1) ?_;refine zv rfl (λhc=>?_) (λhc=>?_)
 ·simp at hc;have hrl:=Zal (Zt d k a b) i;refine zh (za (zj (DQ ?_)));refine zj (jt (σ:=Nat × Store) (λs'=>s'.1<=tb.length+1/\J (((List.range i).flatMap (Zt d k a b)).length+((List.range s'.1).filterMap (YJ d k a b i)).length) s'.2) (λs'=>[(2,jQ y),(3,.ptr nx v0 0),(4,.ptr (nx+1) v1 0)]) (λs'=>s'.2)
   (λ(j,_)=>[.cells v0 39 [L d],.cells v1 339 [I k,I a,I b,I i,I j]]) (λs'=>tb.length+1-s'.1) (z8 (0,A) [] (by simpa using hJ) DI rfl DI) ?_)
  clear hJ A jv;rintro⟨j,A⟩ ⟨hj,hJ⟩;simp only at hj hJ ⊢
  repeat apply za
  refine zz (some [nx,nx+1]) (Row.pures [0,1,2,3,4,5,6,7,8,9,10] .done) mixed (zF b0 hb hb1) ?_;refine zv rfl (λhcj=>?_) (λhcj=>?_)
  ·simp at hcj;have hlk:=hlook i j DH DH;have wj:=zu j DH;refine zh (za (zj ?_));cases hm:xT d ⟨k,a,b,i,j⟩ with
   | true =>
    have hce:YJ d k a b i j=some ⟨k,a,b,i,j⟩:=by unfold YJ;rw[if_pos hm]
    have hlo:Z3 d ⟨k,a,b,i,j⟩=((yp d ⟨k,a,b,i,j⟩).1,(yp d ⟨k,a,b,i,j⟩).2,true):=by unfold Z3;rw[if_pos hm]
    rw[hlo]at hlk;have hat:=ZfN (n:=tb.length+1) DH hce;rw[<-hrow]at hat;have hat2:=Zak (W:=Zt d k a b) (n:=ta.length+1) DH hat;have hy:(((List.range (ta.length+1)).flatMap (Zt d k a b)).map Jq)[((List.range i).flatMap (Zt d k a b)).length+((List.range j).filterMap (YJ d k a b i)).length]?=some (Jq ⟨k,a,b,i,j⟩):=by
     rw[Ai,hat2];rfl
    have hnx:=ZfP hce;generalize (yp d ⟨k,a,b,i,j⟩).1=r1 at *;generalize (yp d ⟨k,a,b,i,j⟩).2=r2 at *;refine DQ ?_;refine zr hlk ?_;intro v2 v3;refine za (ze [(1,50)] trivial ?_);refine λhsuf=>J9 rfl rfl rfl (hY _ _ _ _ hy hJ) ?_
    rintro _ ⟨A',hJ',rfl⟩;refine⟨_,_,rfl,jH [(1,50)] trivial hsuf ?_⟩;refine zm rfl (zh (zb ?_));exact zq (j+1,A') [_,_] ⟨by simp;omega,by rw[hnx];exact hJ'⟩ DL DI rfl (by simp[wj];exact⟨rfl,rfl⟩)
   | false =>
    have hce:YJ d k a b i j=none:=by unfold YJ;rw[if_neg (by simp[hm])]
    have hlo:Z3 d ⟨k,a,b,i,j⟩=(xu,xu,false):=by unfold Z3;rw[if_neg (by simp[hm])]
    rw[hlo]at hlk;have hnx:=ZfO hce;generalize xu=r0 at *;refine DQ ?_;refine zr hlk ?_;intro v2 v3;refine za (ze [(1,50)] zN ?_);refine zm rfl (zh (zb ?_));exact zq (j+1,A) [_,_] ⟨by simp;omega,by rw[hnx];exact hJ⟩ DL DI rfl (by simp[wj];exact⟨rfl,rfl⟩)
  ·simp at hcj;obtain rfl:j=tb.length+1:=DH
   rw[<-hrow,<-hrl]at hJ;refine zx ?_;have wi:=zu i DH;refine zb ?_;exact zq (i+1,((tb.length+1:Nat):Int),A) [] ⟨by simp;omega,hJ⟩ DL DI rfl (by simp[wi])
 ·simp at hc;obtain rfl:i=ta.length+1:=DH
  refine zx (DQ ?_);exact zg (Zaa (hJd _ _ hJ) DJ (by simp[zp]) (by simpa using hJ))
theorem Zpo(d:zk):Pure prog 325 [.agg [L d]] (.fn (.func 339) [] [.ip [L d]]):=by
 refine zt func325 ntmps325 results325 λS nx hd=>?_
 refine DQ ?_;intro v0;refine DQ ?_;refine xR 0 rfl ?_;exact DR hd
theorem Zpp(d:zk)(hdn:d.length<=1000)(hdt:∀t∈d,t.length<=1000):Qk prog 339 [.ip [L d]] ((YK d).map Jq):=by
 have hpl:=λk a b (hk:k<=3) (ha:a<d.length) (hb:b<d.length)=>Zpn d k a b DH hdt hk ha hb
 have hkinds:=Zgp;generalize Zag=kl at hkinds;refine Wl func339 DM rfl ntmps339 (congrArg Array.toList results339) DI λl V keep nx J hJd hY A0 hA0=>?_
 refine DQ ?_;refine zr hkinds ?_;refine zj (jt (σ:=Nat × Store) (λs'=>s'.1<=4/\J ((List.range s'.1).flatMap (Z6 d)).length s'.2) (λs'=>[(0,jQ l),(1,.ip [L d]),(7,I s'.1)]) (λs'=>s'.2) (λ_=>[]) (λs'=>4-s'.1) (z8 (0,A0) [] (by simpa using hA0) DI rfl DI) ?_);rintro⟨k,A⟩ ⟨hk,hJ⟩;simp only at hk hJ ⊢
 by_cases hk4:k<4
 ·have hk4':(k:Int)<4:=DH
  have hlA:=Zal (Z6 d) k;refine za (ze [] hk4' ?_);refine za (zn rfl (zh (za (zj (DQ ?_)))));refine DQ ?_;refine zj (jt (σ:=Nat × Store) (λs'=>s'.1<=d.length/\J (((List.range k).flatMap (Z6 d)).length+((List.range s'.1).flatMap (Qz d k)).length) s'.2) (λs'=>[(0,jQ l),(1,.ip [L d]),(3,I k),(7,I k),(12,I d.length),(13,I s'.1)]) (λs'=>s'.2) (λ_=>[]) (λs'=>d.length-s'.1) (z8 (0,A) [] (by simpa using hJ) DI rfl DI) ?_);clear hJ A;rintro⟨a,A⟩ ⟨ha,hJ⟩;simp only at ha hJ ⊢;refine DQ ?_;refine za (zv rfl (λhca=>?_) (λhca=>?_))
  ·simp at hca;have hlK:=Zal (Qz d k) a;refine zh (za (zj (DQ ?_)));refine DQ ?_;refine zj (jt (σ:=Nat × Store) (λs'=>s'.1<=d.length/\J (((List.range k).flatMap (Z6 d)).length+((List.range a).flatMap (Qz d k)).length+((List.range s'.1).flatMap (Z5 d k a)).length) s'.2) (λs'=>[(0,jQ l),(1,.ip [L d]),(3,I k),(4,I a),(7,I k),(12,I d.length),(13,I a),(18,I d.length),(19,I s'.1)]) (λs'=>s'.2) (λ_=>[]) (λs'=>d.length-s'.1) (z8 (0,A) [] (by simpa using hJ) DI rfl DI) ?_);clear hJ A;rintro⟨b,A⟩ ⟨hb,hJ⟩;simp only at hb hJ ⊢;refine DQ ?_;refine za (zv rfl (λhcb=>?_) (λhcb=>?_))
   ·simp at hcb;have hw:=hpl k a b DH hca hcb;have hlP:=Zal (Z5 d k a) b;have hin:∀(i:Nat) (x:List PV),((Z5 d k a b).map Jq)[i]?=some x->((YK d).map Jq)[((List.range k).flatMap (Z6 d)).length+((List.range a).flatMap (Qz d k)).length+((List.range b).flatMap (Z5 d k a)).length+i]?=some x:=by
     intro i x hx;rw[Ai]at hx ⊢;obtain⟨m,hm,rfl⟩:=Ao.1 hx;have e1:=Zak (W:=Z5 d k a) (n:=d.length) hcb hm;have e2:=Zak (W:=Qz d k) (n:=d.length) hca e1;have e3:=Zak (W:=Z6 d) (n:=4) hk4 e2;rw[Nat.add_assoc,Nat.add_assoc];unfold YK;rw[e3];rfl
    refine zh (za (zj (DQ ?_)));refine DQ ?_;refine λhsuf=>((ZfM hw keep hY _ hin hJ _).mono ?_)
    rintro _ _ ⟨A',rfl,hJ',rfl⟩;rw[List.length_map,Nat.add_assoc,<-hlP]at hJ';refine⟨_,_,rfl,zG hsuf ?_⟩;refine zm rfl (zh (zb ?_));exact zq (b+1,A') [] ⟨hcb,hJ'⟩ DL (by simp[zu b (by omega)]) rfl DI
   ·simp at hcb;obtain rfl:b=d.length:=DH
    refine zx ?_;have hJ2:J (((List.range k).flatMap (Z6 d)).length+((List.range (a+1)).flatMap (Qz d k)).length) A:=by rw[hlK,<-Nat.add_assoc];exact hJ
    refine zb ?_;exact zq (a+1,A) [] ⟨hca,hJ2⟩ DL (by simp[zu a (by omega)]) rfl DI
  ·simp at hca;obtain rfl:a=d.length:=DH
   refine zx ?_;have hJ2:J ((List.range (k+1)).flatMap (Z6 d)).length A:=by rw[hlA];exact hJ
   refine zb ?_;exact zq (k+1,A) [] ⟨hk4,hJ2⟩ DL (by simp[zu k (by omega)]) rfl DI
 ·obtain rfl:k=4:=DH
  refine DQ ?_;refine za (zm rfl (zx (uV (hJd _ _ hJ) rfl ?_)));rw[List.length_map];exact hJ
open Go Go.Proofs
theorem Jr{d:zk}{m:Mv}(h:xT d m=true):m.k<=3/\m.a<d.length/\m.b<d.length/\uD d (yp d m).1/\uD d (yp d m).2:=by
 unfold xT at h;rw[Aw]at h;obtain⟨h1,h2⟩:=h;have h1:=of_decide_eq_true h1;refine⟨h1.1,h1.2.1,h1.2.2,?_⟩;unfold vE at h2;unfold yp xv;have e0:=Zo1 d;have key:∀p:Pc,Xq d p<->(p.f<p.o->p.t<d.length/\p.o<=qC d p.t):=λ_=>Iff.rfl
 by_cases k0:m.k=0
 ·rw[if_pos k0]at h2 ⊢;have h2:=of_decide_eq_true h2;refine⟨?_,e0⟩;intro p hp;simp only[Rw5.l,As,A7,or_false]at hp;rcases hp with rfl | rfl | rfl | rfl | rfl<;>refine(key _).2 ?_<;>simp only[yJ]<;>omega
 rw[if_neg k0]at h2 ⊢
 by_cases k1:m.k=1
 ·rw[if_pos k1]at h2 ⊢;have h2:=of_decide_eq_true h2
  by_cases hab:m.a=m.b
  ·rw[if_pos hab,hab]at h2;rw[if_neg (by simp[hab])]
   by_cases hij:m.i<m.j
   ·rw[if_pos hij];refine⟨?_,e0⟩;intro p hp;simp only[Rw5.l,As,A7,or_false]at hp;rcases hp with rfl | rfl | rfl | rfl | rfl<;>refine(key _).2 ?_<;>simp only[yJ]<;>(try rw[hab])<;>omega
   ·rw[if_neg hij];refine⟨?_,e0⟩;intro p hp;simp only[Rw5.l,As,A7,or_false]at hp;rcases hp with rfl | rfl | rfl | rfl | rfl<;>refine(key _).2 ?_<;>simp only[yJ]<;>(try rw[hab])<;>omega
  ·rw[if_neg hab]at h2;rw[if_pos hab];constructor<;>intro p hp<;>simp only[Rw5.l,As,A7,or_false]at hp<;>rcases hp with rfl | rfl | rfl | rfl | rfl<;>refine(key _).2 ?_<;>simp only[yJ]<;>omega
 rw[if_neg k1]at h2 ⊢
 by_cases k2:m.k=2
 ·rw[if_pos k2]at h2 ⊢;have h2:=of_decide_eq_true h2
  by_cases hab:m.a=m.b
  ·rw[if_pos hab];rw[hab]at h2;refine⟨?_,e0⟩;intro p hp;simp only[Rw5.l,As,A7,or_false]at hp;rcases hp with rfl | rfl | rfl | rfl | rfl<;>refine(key _).2 ?_<;>simp only[yJ,hab]<;>omega
  ·rw[if_neg hab];constructor<;>intro p hp<;>simp only[Rw5.l,As,A7,or_false]at hp<;>rcases hp with rfl | rfl | rfl | rfl | rfl<;>refine(key _).2 ?_<;>simp only[yJ]<;>omega
 rw[if_neg k2]at h2 ⊢;have h2:=of_decide_eq_true h2;constructor<;>intro p hp<;>simp only[Rw5.l,As,A7,or_false]at hp<;>rcases hp with rfl | rfl | rfl | rfl | rfl<;>refine(key _).2 ?_<;>simp only[yJ]<;>omega
theorem ZcD{d:zk}{m:Mv}:m∈YK d->xT d m=true/\m.i<=qC d m.a/\m.j<=qC d m.b:=by
 unfold YK Z6 Qz Z5 Zt YJ;intro h;simp only[BG,AP,Cb]at h;obtain⟨k,hk,a,ha,b,hb,i,hi,j,hj,h⟩:=h;split at h
 ·rename_i hm;cases h;exact⟨hm,by simp only;omega,by simp only;omega⟩
 ·cases h
def Xx:Mv:=⟨0,0,0,0,0⟩
def wX(x:Inst)(d:zk)(r:Rw5):Prop:=Qy d r<=x.cap/\wD x d r<=x.len
instance (x:Inst) (d:zk) (r:Rw5):Decidable (wX x d r):=by unfold wX;infer_instance
def QA(x:Inst)(d:zk)(m:Mv):Int:=WF x d m (yp d m).1 (yp d m).2
def QB(x:Inst)(d:zk)(st:Mv × Int)(m:Mv):Mv × Int:=if QA x d m<st.2/\wX x d (yp d m).1/\wX x d (yp d m).2 then (m,QA x d m) else st
def vG(x:Inst)(d:zk):Mv × Int:=(YK d).foldl (QB x d) (Xx,0)
theorem Zpq(x:Inst)(d:zk)(hx:qt x)(hd':MvDay d):Pure prog 291 [.agg (zy x),.agg [L d]] (.tup [.agg (u5 (vG x d).1),I (vG x d).2,B (decide ((vG x d).2<0))]):=by
 have hdn:=hd'.n;have hit:=Zpp d hdn hd'.t;have hread:=Zph x d hx hd';have hfacts:∀m∈YK d,Pure prog 326 [.agg [L d],.agg (u5 m)] (.tup [.agg (yt (yp d m).1),.agg (yt (yp d m).2),B true])/\Pure prog 327 [.ip (uE x d),.agg (u5 m),.agg (yt (yp d m).1),.agg (yt (yp d m).2)] (I (QA x d m)) /\
   Pure prog 328 [.ip (uE x d),.agg (yt (yp d m).1)] (B (decide (wX x d (yp d m).1)))/\Pure prog 328 [.ip (uE x d),.agg (yt (yp d m).2)] (B (decide (wX x d (yp d m).2))):=by
  intro m hm;obtain⟨h1,h2,h3⟩:=ZcD hm;obtain⟨hk,ha,hb,r1,r2⟩:=Jr h1;have hl:∀a,qC d a<=1000:=by
   intro a;unfold qC;rw[Aa];cases hq:d[a]? with
   | none=>simp
   | some l=>exact hd'.t l (Ab hq)
  have hla:=hl m.a;have hlb:=hl m.b;have hlk:=Zct d m DH (λt ht=>AD (hd'.t t ht) DN) hk ha hb DH DH;unfold Z3 at hlk;rw[if_pos h1]at hlk;exact⟨hlk,Zpm x d m _ _ hx hd' r1 r2 ha hb,ZgH x d _ hx hd' r1,ZgH x d _ hx hd' r2⟩
 unfold vG;generalize YK d=xs at *;generalize uE x d=rd at *;have hea:=Zpo d;refine zt func291 ntmps291 results291 λS nx hd=>?_
 refine DQ ?_;intro v0 v1 v2;refine DQ ?_;refine zr hread ?_;intro v3;refine DQ ?_;intro v4 v5
 repeat apply za
 refine zb ?_;refine zr hea ?_;refine zj (Ja (xs:=xs.map Jq) (σ:=Mv × Int) (λi st=>st=(xs.take i).foldl (QB x d) (Xx,0)) [(2,.ptr nx v0 0),(3,.ptr (nx+1) v1 0),(4,.ptr (nx+2) v2 0),(7,.ptr (nx+3) v3 0),(8,.ptr (nx+4) v4 0),(9,.ptr (nx+5) v5 0)] (λ_=>S)
  (λ(b,least)=>[.cells v0 25 (zy x),.cells v1 39 [L d],.cells v2 339 [I 0,I 0,I 0,I 0,I 0],.cells v3 363 [.ip rd],.cells v4 339 (u5 b),.cells v5 3 [I least]]) (Xx,0)
  hit rfl (by intro x hx;obtain⟨y,_,rfl⟩:=Al.1 hx;rfl) DN DI DI rfl (by simp[Xx]) (by simp[Xx]) ?_ ?_)
 ·rintro l i ⟨b,least⟩ more y hst hy;simp only at hst ⊢;rw[Ai]at hy;obtain⟨m,hm,rfl⟩:=Ao.1 hy;have hsucc:=Zco (f:=QB x d) (b:=(Xx,0)) hm;rw[<-hst]at hsucc;obtain⟨f1,f2,f3,f4⟩:=hfacts m (Ab hm);unfold QB at hsucc;simp only at hsucc;generalize (yp d m).1=r1 at *;generalize (yp d m).2=r2 at *;generalize QA x d m=by_ at *;refine zb ?_;intro v6;refine zj (DQ ?_);refine zr f1 ?_;intro v7 v8;refine DQ ?_;refine zr f2 ?_
  by_cases hlt:by_<least
  ·refine za (ze [(3,37),(8,42)] hlt ?_);refine qm [(3,37),(8,42)] f3 hlt ?_
   by_cases hf1:wX x d r1
   ·rw[decide_eq_true hf1];refine qm [(3,37),(8,42)] f4 hlt ?_
    by_cases hf2:wX x d r2
    ·rw[if_pos ⟨hlt,hf1,hf2⟩]at hsucc;refine zn (by simp[hf2]) ?_;refine zb ?_;simp only[js];exact ww (m,by_) [_,_,_] hsucc.symm rfl (by simp;exact⟨rfl,rfl,rfl⟩)
    ·rw[if_neg λe=>hf2 e.2.2]at hsucc;refine zm (by simp[hf2]) ?_;refine zh ?_;simp only[js];exact ww (b,least) [_,_,_] hsucc.symm rfl (by simp;exact⟨rfl,rfl,rfl⟩)
   ·rw[decide_eq_false hf1];rw[if_neg λe=>hf1 e.2.1]at hsucc;refine zm rfl (zh ?_);simp only[js];exact ww (b,least) [_,_,_] hsucc.symm rfl (by simp;exact⟨rfl,rfl,rfl⟩)
  ·rw[if_neg λe=>hlt e.1]at hsucc;refine za (ze [(3,37),(8,42)] (zo hlt zN) ?_);refine zm rfl (zh ?_);simp only[js];exact ww (b,least) [_,_,_] hsucc.symm rfl (by simp;exact⟨rfl,rfl,rfl⟩)
 ·rintro⟨b,least⟩ hst;rw[Af DI]at hst;simp only at hst ⊢;rw[<-hst];refine za (zz (some [nx+4,nx+5]) (Row.pures [0,1,2,3] (.alt 4 (Row.pures [5,6] .done) .stop)) mixed trivial ?_);exact zg (zi hd DJ (by simp[zp]))
open Go Go.Proofs
def xU(d:zk)(m:Mv)(i:Nat):zL:=if i=m.a then y9 d (yp d m).1 else if i=m.b then y9 d (yp d m).2 else d.getD i []
def jT(d:zk)(m:Mv)(i:Nat):Option zL:=if (xU d m i).length=0 then none else some (xU d m i)
def vH(d:zk)(m:Mv):zk:=(List.range d.length).filterMap (jT d m)
theorem ZgI{d:zk}{r:Rw5}{k:Nat}(h:∀t∈d,t.length<=k):(y9 d r).length<=5*k:=by
 have h1:=λp=>Zgr (d:=d) (p:=p) h
 have a1:=h1 r.a;have a2:=h1 r.b;have a3:=h1 r.c;have a4:=h1 r.d;have a5:=h1 r.e;unfold y9 Rw5.l;simp only[Az,Cn,Aq,AH];omega
theorem Zpr(x:Inst)(d:zk)(m:Mv)(hdn:d.length<=1000)(hdt:∀t∈d,t.length<=1000)(hm:xT d m=true)(hi:m.i<=1048576)(hj:m.j<=1048576):Pure prog 292 [.agg (zy x),.agg [L d],.agg (u5 m)] (.tup [.agg [L (vH d m)],I 0]):=by
 obtain⟨hk,ha,hb,r1,r2⟩:=Jr hm;have hlk:=Zct d m DH (λt ht=>AD (hdt t ht) DN) hk ha hb hi hj;unfold Z3 at hlk;rw[if_pos hm]at hlk;have g1:=Zgs d _ DH hdt r1;have g2:=Zgs d _ DH hdt r2;have n1:=ZgI (r:=(yp d m).1) hdt;have n2:=ZgI (r:=(yp d m).2) hdt;have hmk:∀i,xU d m i=if i=m.a then y9 d (yp d m).1 else if i=m.b then y9 d (yp d m).2 else d.getD i []:=λ_=>rfl
 generalize y9 d (yp d m).1=t1 at *;generalize y9 d (yp d m).2=t2 at *;generalize (yp d m).1=c1 at *;generalize (yp d m).2=c2 at *;have hme:vH d m=(List.range d.length).filterMap (jT d m):=rfl;rw[hme];clear hme;refine zt func292 ntmps292 results292 λS nx hd=>?_
 refine DQ ?_;intro v0 v1 v2 v3;refine DQ ?_;refine zr hlk ?_;intro v4 v5
 repeat apply za
 refine zb ?_;refine zm rfl (zh (DQ ?_));intro v6;refine qQ 6 0 42 1 rfl rfl λv7=>?_
 repeat apply za
 refine zb ?_;refine zj (zD (λs':Nat × Nat=>s'.1<=d.length) (λ(k,v7)=>[(4,.ptr (nx+1) v1 0),(5,.ptr (nx+2) v2 0),(6,.ptr (nx+3) v3 0),(8,.ptr (nx+4) v4 0),(9,.ptr (nx+5) v5 0),(11,.ptr (nx+6) v6 0),(26,L d),(27,I d.length),(28,I k)])
  (λ(k,v7)=>[.cells v0 25 (zy x),.cells v1 39 [L d],.cells v2 339 (u5 m),.cells v3 39 [yq],.cells v4 371 (yt c1),.cells v5 371 (yt c2),.cells v6 39 [.sl (nx+7) v7 1 0 ((List.range k).filterMap (jT d m)).length],.cells v7 42 (((List.range k).filterMap (jT d m)).flatMap Enc.enc)]) (λs'=>d.length-s'.1) (0,v7) [] DI DI DI ?_)
 rintro⟨k,v7⟩ hk0;simp only at hk0 ⊢;refine DQ ?_;refine za (zv rfl (λhc=>?_) (λhc=>?_))
 ·simp at hc;obtain⟨t,tl,a1,a2,a3,e0⟩:=zJ rfl d k hc;have hk1:1<=d.length-k:=DH
  have htl:=hdt t (Ab a1);have hcl:=V8 t DH;have hgk:d.getD k []=t:=by rw[Aa,a1];rfl
  have hmkk:=hmk k;have hlen:((List.range k).filterMap (jT d m)).length<=k:=by have:=Cu (jT d m) (List.range k);simpa using this
  have hnext:(List.range (k+1)).filterMap (jT d m)=(List.range k).filterMap (jT d m)++(jT d m k).toList:=by
   rw[AL,BV];simp only[List.filterMap_cons,List.filterMap_nil];cases jT d m k<;>rfl
  have hT1:jT d m k=if (xU d m k).length=0 then none else some (xU d m k):=rfl
  rw[hgk]at hmkk;have hTl:(xU d m k).length<=5000:=by rw[hmkk];(repeat' split)<;>omega
  have hof:(((List.range k).filterMap (jT d m)).flatMap Enc.enc:List PV).length=((List.range k).filterMap (jT d m)).length:=jR _;generalize (List.range k).filterMap (jT d m)=out at *;have hot:(out.flatMap Enc.enc:List PV).take out.length=out.flatMap Enc.enc:=Af DH;have wk:=zu k DH;refine zh (za (zj (za (ze [] (zF e0 hc hk1) ?_))));intro v8;refine DQ ?_;refine zr hcl ?_
  repeat apply za
  refine zb ?_;refine qS (nx:=nx) (λ_:Unit=>True) (λ_=>[(4,.ptr (nx+1) v1 0),(5,.ptr (nx+2) v2 0),(6,.ptr (nx+3) v3 0),(8,.ptr (nx+4) v4 0),(9,.ptr (nx+5) v5 0),(11,.ptr (nx+6) v6 0),(14,L (xU d m k)),(26,L d),(27,I d.length),(28,I k)]) (λ_=>S)
   (λ_=>[.cells v0 25 (zy x),.cells v1 39 [L d],.cells v2 339 (u5 m),.cells v3 39 [yq],.cells v4 371 (yt c1),.cells v5 371 (yt c2),.cells v6 39 [.sl (nx+7) v7 1 0 out.length],.cells v7 42 (out.flatMap Enc.enc),.cells v8 42 [L t]]) ?_ ?_
  ·refine zj ?_
   by_cases h1:k=m.a
   ·rw[if_pos h1]at hmkk;have h1':(k:Int)=m.a:=DH
    rw[hmkk];refine DQ ?_;refine zn DL ?_;refine zb ?_;refine zr g1 ?_;simp only[js];exact z8 () [] trivial DI rfl DI
   ·rw[if_neg h1]at hmkk;have h1':¬(k:Int)=m.a:=DH
    refine DQ ?_;refine zm DL ?_
    by_cases h2:k=m.b
    ·rw[if_pos h2]at hmkk;have h2':(k:Int)=m.b:=DH
     rw[hmkk];refine DQ ?_;refine zn DL ?_;refine zb ?_;refine zr g2 ?_;simp only[js];exact z8 () [] trivial DI rfl DI
    ·rw[if_neg h2]at hmkk;have h2':¬(k:Int)=m.b:=DH
     rw[hmkk];refine DQ ?_;refine zm DL ?_;refine zh ?_;simp only[js];exact z8 () [] trivial DI rfl DI
  ·rintro⟨⟩ -;generalize xU d m k=tt at *;clear hmkk hcl e0
   by_cases h0:tt.length=0
   ·have e:(jT d m k).toList=[]:=by rw[hT1,if_pos h0];rfl
    have h0':¬0<tt.length:=DH
    refine za (ze [] h0' ?_);refine zm (by simp[h0']) ?_;refine zh (zb ?_);exact zq (k+1,v7) [_] DL DL (by simp[wk,hnext,e]) rfl (by simp[hnext,e];rfl)
   ·have e:(jT d m k).toList=[tt]:=by rw[hT1,if_neg h0];rfl
    have h0':0<tt.length:=DH
    refine za (ze [] h0' ?_);refine zn (by simp[h0']) ?_;refine ze [] (zo hof hot) ?_;refine⟨by omega,?_⟩;refine zb ?_;exact zq (k+1,v7+1) [_] DL DL (by simp[wk,hnext,e]) rfl (by simp[hnext,e];rfl)
 ·simp at hc;obtain rfl:k=d.length:=DH
  refine zx (yb 7 rfl ?_);refine DQ ?_;exact zg (zi hd DJ (by simp[zp]))
open Go Go.Proofs
def Js(d:zk)(s:Stop)(t k:Nat):Nat:=((d.getD t []).take k).count s
theorem ZcE(d:zk)(s:Stop)(t:Nat):Js d s t 0=0:=by simp[Js]
theorem ZgJ(d:zk)(s:Stop)(t:Nat):Js d s t (qC d t)=(d.getD t []).count s:=by simp[Js,qC]
theorem Zps(d:zk)(s:Stop)(p:Pc):p.f<=p.o->(qv d p).count s+Js d s p.t p.f=Js d s p.t p.o:=by
 intro h;unfold qv Js;generalize d.getD p.t []=u
 by_cases hf:p.f<p.o
 ·rw[if_pos hf,show p.o=p.f+(p.o-p.f) by omega,List.take_add,List.count_append,show p.f+(p.o-p.f)-p.f=p.o-p.f by omega];cases p.b
  ·rw[cond_false];omega
  ·rw[cond_true,List.count_reverse];omega
 grind
theorem ZgK(d:zk)(s:Stop)(r:Rw5):(y9 d r).count s=(qv d r.a).count s+(qv d r.b).count s+(qv d r.c).count s+(qv d r.d).count s+(qv d r.e).count s:=by grind[y9,Rw5.l]
theorem Zpt{d:zk}{m:Mv}(h:xT d m=true)(s:Stop):(y9 d (yp d m).1).count s+(if m.a=m.b then 0 else (y9 d (yp d m).2).count s)=(d.getD m.a []).count s+(if m.a=m.b then 0 else (d.getD m.b []).count s):=by
 unfold xT at h;rw[Aw]at h;obtain⟨-,h2⟩:=h;unfold vE at h2;unfold yp xv;have e0:=ZcE d s;have ea:=ZcE d s m.a;have eb:=ZcE d s m.b;have la:=ZgJ d s m.a;have lb:=ZgJ d s m.b;have key:=Zps d s;rw[ZgK,ZgK]
 grind[yJ]
theorem Zpu{d:zk}{i:Nat}{u:zL}(t:zL)(h:d[i]?=some u)(s:Stop):(d.set i t).flatten.count s+u.count s=t.count s+d.flatten.count s:=by grind[List.drop_eq_getElem_cons,List.take_append_drop,List.set_eq_take_append_cons_drop]
theorem ZcF{d:zk}{i:Nat}{u:zL}(t:zL)(h:d[i]?=some u)(x:Inst):yn x (d.set i t)+yB x (u.map (·.c))=yB x (t.map (·.c))+yn x d:=by grind[List.drop_eq_getElem_cons,List.take_append_drop,yn,List.set_eq_take_append_cons_drop]
theorem ZgL(d:zk)(m:Mv):(List.range d.length).map (xU d m)=(d.set m.b (y9 d (yp d m).2)).set m.a (y9 d (yp d m).1):=by
 refine A5 λi=>?_
 grind[xU]
theorem ZcG(d:zk)(m:Mv):∀l:List Nat,(l.filterMap (jT d m)).flatten=(l.map (xU d m)).flatten/\∀x,yn x (l.filterMap (jT d m))=yn x (l.map (xU d m))
 | []=>⟨rfl,λ_=>rfl⟩
 | i :: l=>by
  obtain⟨h1,h2⟩:=ZcG d m l;have e:jT d m i=if (xU d m i).length=0 then none else some (xU d m i):=rfl
  rw[List.filterMap_cons,e,AA]
  by_cases h:(xU d m i).length=0
  ·rw[if_pos h,Ck.1 h];refine⟨by simpa using h1,λx=>?_⟩;have:=h2 x;unfold yn at this ⊢;simpa[yB] using this
  simp_all[yn]
theorem Zpv{d:zk}{m:Mv}{t:zL}(h:t∈vH d m):t≠[]/\(t=y9 d (yp d m).1\/t=y9 d (yp d m).2\/t∈d):=by grind[vH,jT,xU]
theorem Zpw(d:zk)(m:Mv):(vH d m).length<=d.length:=by grind[vH]
theorem ZgM{d:zk}{m:Mv}(h:xT d m=true):(vH d m).flatten.Perm d.flatten:=by
 obtain⟨-,ha,hb,-,-⟩:=Jr h;refine List.perm_iff_count.2 λs=>?_
 have hc:=Zpt h s;unfold vH
 grind[ZcG,ZgL,Zpu]
theorem Zpx{x:Inst}{d:zk}{m:Mv}(h:xT d m=true)(h0:arc x 0 0=0):yn x (vH d m)=yn x d+QA x d m:=by
 obtain⟨-,ha,hb,r1,r2⟩:=Jr h;unfold vH QA WF;rw[(ZcG d m _).2,ZgL,ZcB r1 h0,ZcB r2 h0];obtain⟨ua,hua⟩:∃u,d[m.a]?=some u:=⟨_,Ae ha⟩;obtain⟨ub,hub⟩:∃u,d[m.b]?=some u:=⟨_,Ae hb⟩;have ga:d.getD m.a []=ua:=by rw[Aa,hua];rfl
 have gb:d.getD m.b []=ub:=by rw[Aa,hub];rfl
 rw[ga,gb];generalize y9 d (yp d m).1=t1 at *;generalize y9 d (yp d m).2=t2 at *
 by_cases hab:m.a=m.b
 ·rw[if_pos hab,<-hab,List.set_set];have:=ZcF t1 hua x;omega
 ·rw[if_neg hab];have h1:=ZcF t2 hub x;have h2:=ZcF (d:=d.set m.b t2) (i:=m.a) (u:=ua) t1 (by rw[AX (λe=>hab e.symm)];exact hua) x;omega
open Go Go.Proofs Hp
theorem ZcH(x:Inst):∀(ds:List zk) (st:zk × Int × Bool),(ds.foldl (vy x) st).2.2=true->ds.foldl (vy x) st=st\/(∃d∈ds,yr x d=0/\ds.foldl (vy x) st=(d,W (yn x d),true))
 | [],st,_=>.inl rfl
 | d :: ds,st,h=>by
  rw[AY]at h ⊢;rcases ZcH x ds _ h with e | ⟨d2,h1,h2,h3⟩
  ·rw[e];unfold vy;split
   ·rename_i h0;split
    ·exact .inr ⟨d,by simp,h0,rfl⟩
    ·exact .inl rfl
   ·exact .inl rfl
  ·exact .inr ⟨d2,by simp[h1],h2,h3⟩
theorem Zpy{x:Inst}{e:Int}{ds:List zk}(h:(vz x e ds).2=0):e=0/\(vz x e ds).1∈ds/\yr x (vz x e ds).1=0:=by
 unfold vz at h ⊢
 by_cases he:e=0
 ·rw[if_pos he]at h ⊢;cases hz:(Qr x ds).2.2 with
  | false=>rw[hz]at h;cases h
  | true =>
   refine⟨he,?_⟩;rcases ZcH x ds ([],0,false) hz with q | ⟨d,h1,h2,h3⟩
   ·have:(Qr x ds).2.2=false:=by unfold Qr;rw[q]
    rw[this]at hz;cases hz
   ·have:Qr x ds=(d,W (yn x d),true):=h3;rw[this];exact⟨h1,h2⟩
 ·rw[if_neg he]at h;exact absurd h he
theorem ZgN(x:Inst):qt (yF x):=by
 refine ZoI λrow hr d hd=>?_
 simp only[yF,Al]at hr;obtain⟨a,_,rfl⟩:=hr;unfold vU at hd;obtain⟨b,_,rfl⟩:=Al.1 hd;split
 ·have:=xq (arc x a b) 0 60 DH;omega
 ·omega
theorem Zpz(x:Inst):0<=(yF x).veh:=(xq x.veh 0 5 DH).1
open Go Go.Proofs
structure SG (x:Inst) (l:List Stop) (d:zk):Prop where
 may:∀t∈d,zT x t=0
 perm:d.flatten.Perm l
def ZgO(x:Inst)(t:zL):Prop:=(∀s∈t,jh x s=true)/\(t.map (·.c)).Nodup/\t.length<=1000
theorem ZcI{x:Inst}{t:zL}(h:zT x t=0):(∀s∈t,jh x s=true)/\t≠[]:=by simp_all[Xl,qZ]
theorem ZcJ{x:Inst}:∀t:zL,(∀s∈t,jh x s=true)->0<=zX t/\zX t<=2147483648*(t.length:Int)
 | [],_=>by simp[zX]
 | s :: t,h=>by
  have h1:=ZcJ t λs hs=>h s (by simp[hs])
  have h2:=h s DI
  grind[jh,zX]
theorem WG{x:Inst}(hx:qt x){t:zL}(h:ZgO x t)(hn:t≠[]):zT x t=0<->zX t<=x.cap/\yB x (t.map (·.c))<=x.len:=by
 obtain⟨h1,h2,h3⟩:=h;have b1:=ZcJ t h1;have b2:=Xm hx (t.map (·.c))
 grind[wr,Xl,qZ]
theorem SG.each{x:Inst}{l:List Stop}{d:zk}(g:SG x l d):∀s∈l,jh x s=true:=by
 intro s hs;obtain⟨t,ht,hst⟩:=Bs.1 (g.perm.symm.subset hs);exact(ZcI (g.may t ht)).1 s hst
section
variable {x:Inst} {l:List Stop} (h:SOk x l)
include h
theorem SG.len{d:zk}(g:SG x l d):d.flatten.length<=1000/\d.length<=1000:=by
 have h1:=Zab d λt ht=>(ZcI (g.may t ht)).2
 have h2:=g.perm.length_eq;have h3:=h.len;omega
theorem SG.tour{d:zk}(g:SG x l d){e:zk}(he:e.flatten.Perm l){t:zL}(ht:t∈e):ZgO x t:=by
 have hs:=YD ht;have hl:=h.len;refine⟨λs q=>g.each s (he.subset (hs.subset q)),?_,?_⟩
 ·exact((he.map _).nodup_iff.2 h.nd).sublist (hs.map _)
 ·have:=hs.length_le;have:=he.length_eq;omega
theorem SG.mv{d:zk}(g:SG x l d):MvDay d:=by
 refine⟨(g.len h).2,λt ht=>(g.tour h g.perm ht).2.2,λt ht s hs=>?_⟩;have:=(g.tour h g.perm ht).1 s hs;have hc:=h.cust
 grind[jh,qb]
theorem SG.ok{d:zk}(g:SG x l d):DayOk d:=by
 have h1:=g.len h;have h2:=g.mv h;exact⟨by omega,λt ht=>AD (h2.t t ht) DN,λt ht s hs=>(h2.s t ht s hs).1⟩
end
theorem ZgP{x:Inst}{d:zk}{r:Rw5}(hr:uD d r)(h0:arc x 0 0=0):wX x d r<->zX (y9 d r)<=x.cap/\yB x ((y9 d r).map (·.c))<=x.len:=by simp_all[wX,ZcB,Zpk]
theorem ZpA{d:zk}{m:Mv}(h:xT d m=true)(hab:m.a=m.b):y9 d (yp d m).2=[]:=by
 have e0:y9 d xu=[]:=rfl
 grind[xT,vE,yp,xv]
theorem ZpB{d:zk}{m:Mv}(h:xT d m=true)(hn:y9 d (yp d m).1≠[]):y9 d (yp d m).1∈vH d m:=by
 obtain⟨-,ha,-⟩:=Jr h;refine Cb.2 ⟨m.a,AP.2 ha,?_⟩
 grind[xU,jT]
theorem ZpC{d:zk}{m:Mv}(h:xT d m=true)(hab:m.a≠m.b)(hn:y9 d (yp d m).2≠[]):y9 d (yp d m).2∈vH d m:=by
 obtain⟨-,-,hb,-⟩:=Jr h;refine Cb.2 ⟨m.b,AP.2 hb,?_⟩
 grind[xU,jT]
theorem ZpD{x:Inst}{l:List Stop}(h:SOk x l)(h0:arc x 0 0=0){d:zk}(g:SG x l d){m:Mv}(hm:xT d m=true):(wX x d (yp d m).1/\wX x d (yp d m).2)<->∀t∈vH d m,zT x t=0:=by
 obtain⟨-,ha,hb,r1,r2⟩:=Jr hm;have hp:(vH d m).flatten.Perm l:=(ZgM hm).trans g.perm;rw[ZgP r1 h0,ZgP r2 h0];have hz:0<=x.cap/\0<=x.len:=by
  have ht:=g.may _ (Bd ha);have hg:=g.tour h g.perm (Bd ha);have:=(WG h.arc hg (ZcI ht).2).1 ht;have b1:=ZcJ _ hg.1;have b2:=Xm h.arc (d[m.a].map (·.c));omega
 have e0:zX []=0/\yB x (([]:zL).map (·.c))=0:=⟨rfl,rfl⟩;constructor
 ·rintro⟨q1,q2⟩ t ht;obtain⟨hn,h3⟩:=Zpv ht;have hg:=g.tour h hp ht;rcases h3 with rfl | rfl | h3
  ·exact(WG h.arc hg hn).2 q1
  ·exact(WG h.arc hg hn).2 q2
  ·exact g.may t h3
 ·intro hall;constructor
  ·by_cases hn:y9 d (yp d m).1=[]
   ·simp_all
   ·have ht:=ZpB hm hn;exact(WG h.arc (g.tour h hp ht) hn).1 (hall _ ht)
  ·by_cases hn:y9 d (yp d m).2=[]
   ·simp_all
   ·by_cases hab:m.a=m.b
    ·simp_all[ZpA]
    ·have ht:=ZpC hm hab hn;exact(WG h.arc (g.tour h hp ht) hn).1 (hall _ ht)
theorem ZgQ(x:Inst)(d:zk):∀(ms:List Mv) (st:Mv × Int),(ms.foldl (QB x d) st=st)\/(∃m∈ms,(ms.foldl (QB x d) st)=(m,QA x d m)/\wX x d (yp d m).1/\wX x d (yp d m).2)
 | [],st=>.inl rfl
 | m :: ms,st=>by
  rw[AY];rcases ZgQ x d ms (QB x d st m) with e | ⟨m2,h1,h2,h3⟩
  ·rw[e];unfold QB;split
   ·rename_i hc;exact .inr ⟨m,by simp,rfl,hc.2⟩
   ·exact .inl rfl
  grind
def uf(x:Inst)(d:zk):Option zk:=if (vG x d).2<0 then some (vH d (vG x d).1) else none
theorem ZgR{x:Inst}{d:zk}(hb:(vG x d).2<0):(vG x d).1∈YK d/\QA x d (vG x d).1<0/\wX x d (yp d (vG x d).1).1/\wX x d (yp d (vG x d).1).2:=by grind[ZgQ,vG]
theorem ZgS{x:Inst}{l:List Stop}(h:SOk x l)(h0:arc x 0 0=0){d e:zk}(g:SG x l d)(hs:uf x d=some e):SG x l e/\yn x e<yn x d/\e.length<=d.length:=by
 unfold uf at hs;split at hs
 ·rename_i hb;cases hs;obtain⟨h1,h2,h3⟩:=ZgR hb;have hm:=(ZcD h1).1;refine⟨⟨(ZpD h h0 g hm).1 h3,(ZgM hm).trans g.perm⟩,?_,Zpw _ _⟩
  grind[Zpx]
 ·cases hs
theorem ZgT{x:Inst}{l:List Stop}(h:SOk x l)(h0:arc x 0 0=0):Zgn x (uf x) (SG x l):=by
 intro d g;have hv:=g.mv h;have hl:∀a,qC d a<=1000:=by
  intro a;unfold qC;rw[Aa];cases hq:d[a]? with
  | none=>simp
  | some l=>exact hv.t l (Ab hq)
 have hd1:(uf x d).isSome=decide ((vG x d).2<0):=by
  unfold uf;split
  ·simp_all
  ·simp_all
 refine⟨_,_,_,_,_,_,by rw[hd1];exact Zpq x d h.arc hv,λe he=>⟨?_,(ZgS h h0 g he).1⟩⟩;unfold uf at he;split at he
 ·rename_i hb;cases he;obtain⟨h1,-,-⟩:=ZgR hb;obtain⟨h1,h2,h3⟩:=ZcD h1;have:=hl (vG x d).1.a;have:=hl (vG x d).1.b;exact Zpr x d _ hv.n hv.t h1 DH DH
 ·cases he
theorem Zam{x:Inst}{l:List Stop}(h:SOk x l)(h0:arc x 0 0=0):∀(n:Nat) (d:zk),SG x l d->SG x l (wV (uf x) n d)/\yn x (wV (uf x) n d)<=yn x d/\(wV (uf x) n d).length<=d.length
 | 0,d,g=>⟨g,CZ _,Ag _⟩
 | n+1,d,g=>by
  unfold wV;cases hs:uf x d with
  | none=>simp_all
  | some e =>
   obtain⟨a,b,c⟩:=ZgS h h0 g hs;obtain⟨a',b',c'⟩:=Zam h h0 n e a
   grind
open Go Go.Proofs Hp
theorem ZgU(x:Inst):arc (yF x) 0 0=0:=by simp[yF,vU,arc]
theorem ZgV{x:Inst}{l:List Stop}(h:wA x l=0):∀s∈l,zT x [s]=0:=by grind[wA]
theorem ZpE{x:Inst}{l:List Stop}(h:SOk x l)(hf:wA x l=0):∀t∈wS x l,zT x t=0:=by
 have key:∀(ps:List Pr) (st:zk × Int),(∀t∈st.1,t.length<=1\/zT x t=0)->∀t∈(ps.foldl (q8 x) st).1,t.length<=1\/zT x t=0:=by
  intro ps
  induction ps with
  | nil=>intro st h;exact h
  | cons p ps ih =>
   intro st hst;rw[AY];refine ih _ λt ht=>?_
   unfold q8 Wy at ht;generalize uY st.1 p.a=i at ht;generalize uY st.1 p.b=k at ht;generalize st.1.getD i []=a at ht;generalize st.1.getD k []=b at ht;cases hc:qu x st.2 p i k a b with
   | false=>rw[hc]at ht;exact hst t ht
   | true =>
    rw[hc]at ht;simp only[cond_true]at ht;unfold qu at hc;simp only[Aw,decide_eq_true_eq]at hc;rcases Bu ht with ht | ht
    ·rcases Bu ht with ht | ht
     ·exact hst t ht
     ·rw[ht];exact .inr hc.2
    ·rw[ht];exact .inl DI
 intro t ht;obtain⟨-,hp,-,hne⟩:=h.join;have hs:=YD ht;have h1:=key (qT x (l.map λs:Stop=>s.c)) (l.map λs=>[s],(l.length:Int)) (λt ht=>by obtain⟨s,_,rfl⟩:=Al.1 ht;simp) t (Bl.1 ht).1;rcases h1 with h1 | h1
 ·have:=hne t ht
  match t,h1,this with
  | [s],_,_=>exact ZgV hf s (hp.subset (hs.subset DI))
 omega
theorem ZgW{x:Inst}{l:List Stop}(h:SOk x l)(hf:wA x l=0):∀d∈Qx x l,SG x l d:=by
 intro d hd;unfold Qx at hd;simp only[List.cons_append,AT,As]at hd;rcases hd with rfl | rfl | hd
 ·exact⟨ZpE h hf,h.join.2.1⟩
 ·refine⟨λt ht=>?_,by rw[h.apart.2.1]⟩;obtain⟨s,hs,rfl⟩:=Al.1 ht;exact ZgV hf s hs
 ·cases hall:(jk x l).2 with
  | false=>simp_all
  | true =>
   rw[hall]at hd;simp at hd;subst hd;obtain⟨r,hp⟩:=h.regret;exact⟨((vB x _).1 r.may).1,hp hall⟩
def wY(x:Inst)(b:Int)(d:zk):zk:=wV (uf x) b.toNat d
def uF(x:Inst)(b:Int)(l:List Stop):zk × Int:=vz x (wA x l) (Z4 x (wY x b) l)
theorem ZpF{x:Inst}{l:List Stop}(h:SOk x l)(h0:arc x 0 0=0)(hf:wA x l=0){b:Int}(hb:b<=9223372036854775807):Zgz x b (wY x b) (Qx x l):=by
 intro d hd;have g:=ZgW h hf d hd;obtain⟨g2,-,-⟩:=Zam h h0 b.toNat d g;have o:=g.ok h;refine⟨⟨_,Zgo x d b (uf x) (SG x l) hb o.n o.t (λ_=>g) (ZgT h h0)⟩,g2.ok h,?_⟩;have:=(g2.len h).1
 show (wV (uf x) b.toNat d).flatten.length<=1048576
 omega
theorem ZpG{x:Inst}{l:List Stop}(h:SOk x l)(h0:arc x 0 0=0){b:Int}(hb:b<=9223372036854775807):Pure prog 249 [.agg (zy x),L l,I b] (.tup [.agg [L (uF x b l).1],I (uF x b l).2]) :=
 Zpb x l b _ h λhf=>ZpF h h0 hf hb
theorem ZpH{x:Inst}{l:List Stop}(h:SOk x l)(h0:arc x 0 0=0)(hf:wA x l=0)(b:Int):∀d∈Z4 x (wY x b) l,SG x l d:=by
 have hb:=ZgW h hf;have hi:=λd g=>(Zam h h0 b.toNat d g).1
 intro d hd;unfold Z4 at hd;unfold Qx at hb;simp only[List.cons_append,AT,As]at hd hb;rcases hd with rfl | rfl | rfl | hd
 ·simp_all
 ·exact hi _ (hb _ (.inl rfl))
 ·exact hi _ (hb _ (.inr (.inl rfl)))
 ·cases hall:(jk x l).2 with
  | false=>simp_all
  | true =>
   rw[hall]at hd;simp at hd;subst hd;exact hi _ (hb _ (.inr (.inr (by rw[hall];simp))))
theorem ZgX(x:Inst):∀(ds:List zk) (st:zk × Int × Bool),(st.2.2=true->(ds.foldl (vy x) st).2.2=true/\(ds.foldl (vy x) st).2.1<=st.2.1)/\∀d∈ds,yr x d=0->(ds.foldl (vy x) st).2.2=true/\(ds.foldl (vy x) st).2.1<=W (yn x d)
 | [],st=>⟨λe=>⟨e,CZ _⟩,by simp⟩
 | d :: ds,st=>by
  rw[AY];obtain⟨h1,h2⟩:=ZgX x ds (vy x st d)
  grind[vy]
theorem ZpI{x:Inst}{e:Int}{ds:List zk}(he:e=0){d:zk}(hd:d∈ds)(hz:yr x d=0):(vz x e ds).2=0/\W (yn x (vz x e ds).1)<=W (yn x d):=by
 obtain⟨h1,h2⟩:=(ZgX x ds ([],0,false)).2 d hd hz
 grind[Qr,vz,ZcH]
theorem ZpJ(x:Inst)(imp:zk->zk)(l:List Stop):qH l∈Z4 x imp l:=by simp[Z4]
section
variable {x:Inst} {l:List Stop} (h:SOk x l) (h0:arc x 0 0=0) (b:Int)
include h h0
theorem ZpK(he:(uF x b l).2=0):wA x l=0/\yr x (uF x b l).1=0/\(uF x b l).1.flatten.Perm l/\(yr x (qH l)=0->W (yn x (uF x b l).1)<=W (yn x (qH l))):=by
 obtain⟨hf,hm,hz⟩:=Zpy he;have g:=ZpH h h0 hf b _ hm;exact⟨hf,hz,g.perm,λq=>(ZpI hf (ZpJ x _ l) q).2⟩
omit h0 in
end
open Go
structure Visit where
 d:Int
 q:Int
 deriving DecidableEq
instance:Inhabited Visit:=⟨⟨0,0⟩⟩
instance:Enc Visit:=⟨λs=>[I s.d,I s.q],2,λ_=>rfl,λ_=>rfl⟩
@[simp] theorem ZyJ(s:Visit):Enc.enc s=[I s.d,I s.q]:=rfl
@[simp high] theorem ZyK(l:List Visit):(l.flatMap Enc.enc).length=l.length*2:=j4 l
@[simp high] theorem ZyL(l:List Visit):(l.flatMap Enc.enc).take (l.length*2)=l.flatMap Enc.enc:=YB l
def told:Nat->List zk->List (Stop × Nat)
 | _,[]=>[]
 | i,d :: ds=>d.flatten.map (·,i)++told (i+1) ds
def Jt(x:Stop × Nat):List PV:=[.agg [I x.1.c,I x.1.q,I x.2]]
theorem ZgY(p:zA):Pure prog 99 [.agg [L p]] (.fn (.func 135) [] [.ip [L p]]):=by
 refine zt func99 ntmps99 results99 λS nx hd=>?_
 refine DQ ?_;intro v0;refine DQ ?_;refine xR 0 rfl ?_;exact DR hd
theorem ZgZ(p:zA)(hp:p.length<=1048576)(hd:∀d∈p,d.length<=1048576)(ht:∀d∈p,∀t∈d,t.length<=1048576):Qk prog 135 [.ip [L p]] ((told 0 p).map Jt):=by
 have yieldX:∀(pre rest:List (Stop × Nat)) (x:Stop × Nat),told 0 p=pre++x :: rest->((told 0 p).map Jt)[pre.length]?=some (Jt x):=by
  intro pre rest x e;rw[e];simp
 refine Wl func135 DM rfl ntmps135 (congrArg Array.toList results135) DI λl V keep nx J hJd hY A0 hA0=>?_
 refine DQ ?_;refine zj (jt (σ:=Nat × Store × List (Stop × Nat)) (λs=>s.1<=p.length/\J s.2.2.length s.2.1/\told 0 p=s.2.2++told s.1 (p.drop s.1)) (λs=>[(0,jQ l),(10,L p),(11,I p.length),(12,I s.1)]) (λs=>s.2.1) (λs=>[]) (λs=>p.length-s.1) (z8 (0,A0,[]) [] (by simp[hA0]) DI rfl DI) ?_);rintro⟨a,A,pre⟩ ⟨ha,hJ,hr⟩;simp only at ha hJ hr ⊢;refine DQ ?_;refine za (zv rfl (λhc=>?_) (λhc=>?_))
 ·simp at hc;obtain⟨d,tl,a1,a2,a3,e0⟩:=zJ rfl p a hc;have hdm:=Ab a1;have hdl:=hd d hdm;rw[a2]at hr;simp only[told]at hr;refine zh (za (zj (za (ze [] (zo e0 hc) ?_))));intro v0;refine DQ ?_;refine zj (jt (σ:=Nat × Store × List (Stop × Nat)) (λs=>s.1<=d.length/\J s.2.2.length s.2.1/\told 0 p=s.2.2++((d.drop s.1).flatten.map (·,a)++told (a+1) (p.drop (a+1)))) (λs=>[(0,jQ l),(3,I a),(10,L p),(11,I p.length),(12,I a),(18,L d),(19,I d.length),(20,I s.1)]) (λs=>s.2.1) (λs=>[]) (λs=>d.length-s.1) (z8 (0,A,pre) [_] (by simp[hJ,hr]) DI rfl rfl) ?_);rintro⟨b,A,pre⟩ ⟨hb,hJ,hr⟩;simp only at hb hJ hr ⊢;refine DQ ?_;refine za (zv rfl (λhc2=>?_) (λhc2=>?_))
  ·simp at hc2;obtain⟨t,tl2,b1,b2,b3,e2⟩:=zJ rfl d b hc2;have htl:=ht d hdm t (Ab b1);rw[b2]at hr;simp only[BK,List.map_append,List.append_assoc]at hr;refine zh (za (zj (za (ze [] (zo e2 hc2) ?_))));intro v1;refine DQ ?_;refine zj (jt (σ:=Nat × Store × List (Stop × Nat)) (λs=>s.1<=t.length/\J s.2.2.length s.2.1/\told 0 p=s.2.2++((t.drop s.1).map (·,a)++((d.drop (b+1)).flatten.map (·,a)++told (a+1) (p.drop (a+1))))) (λs=>[(0,jQ l),(3,I a),(10,L p),(11,I p.length),(12,I a),(18,L d),(19,I d.length),(20,I b),(25,L t),(26,I t.length),(27,I s.1)]) (λs=>s.2.1) (λs=>[]) (λs=>t.length-s.1) (z8 (0,A,pre) [_] (by simp[hJ,hr]) DI rfl rfl) ?_);rintro⟨j,A,pre⟩ ⟨hj,hJ,hr⟩;simp only at hj hJ hr ⊢;refine DQ ?_;refine za (zv rfl (λhc3=>?_) (λhc3=>?_))
   ·simp at hc3;obtain⟨s,tl3,c1,c2,c3,_,e3⟩:=el 2 rfl t j hc3;rw[c2]at hr;simp only[AA,List.cons_append]at hr;refine zh (za (zj (za (ze [] (zo e3 hc3) ?_))));intro v2;refine DQ ?_;refine λhsuf=>J9 rfl rfl rfl (hY _ _ _ _ (yieldX pre _ (s,a) hr) hJ) ?_
    rintro _ ⟨A',hJ',rfl⟩;refine⟨_,_,rfl,zG hsuf ?_⟩;refine zm rfl (zh (zb ?_));exact zq (j+1,A',pre++[(s,a)]) [_] ⟨hc3,by simpa using hJ',by simp[hr]⟩ DL (by simp[zu j (by omega)]) rfl rfl
   ·simp at hc3;have:j=t.length:=DH
    subst this;simp only[B5,Bo,AT]at hr;refine zx (zb ?_);exact zq (b+1,A,pre) [] ⟨hc2,hJ,hr⟩ DL (by simp[zu b (by omega)]) rfl DI
  ·simp at hc2;have:b=d.length:=DH
   subst this;simp only[B5,List.flatten_nil,Bo,AT]at hr;refine zx (zb ?_);exact zq (a+1,A,pre) [] ⟨hc,hJ,hr⟩ DL (by simp[zu a (by omega)]) rfl DI
 ·simp at hc;have:a=p.length:=DH
  subst this;simp only[B5,told,AH]at hr;refine zx (uV (hJd _ _ hJ) rfl ?_);simpa[hr] using hJ
open Go
def yW(c:Int)(l:List (Stop × Nat)):List Visit:=(l.filter λx=>decide (x.1.c=c)).map λx=>⟨x.2,x.1.q⟩
theorem Zg0(c:Int)(l m:List (Stop × Nat)):yW c (l++m)=yW c l++yW c m:=by simp[yW]
theorem Zg1(c:Int)(x:Stop × Nat):yW c [x]=if x.1.c=c then [⟨x.2,x.1.q⟩] else []:=by
 by_cases h:x.1.c=c<;>simp[yW,h]
theorem Zg2(c:Int)(l:List (Stop × Nat)):(yW c l).length<=l.length:=by
 simp only[yW,List.length_map];exact BC _ _
structure PlanOk (p:zA):Prop where
 n:p.length<=1048576
 d:∀d∈p,d.length<=1048576
 t:∀d∈p,∀t∈d,t.length<=1048576
 told:(told 0 p).length<=1048576
theorem ZcK(p:zA)(c:Int)(hp:PlanOk p):Pure prog 158 [.agg [L p],I c] (L (yW c (told 0 p))):=by
 have hlen:=hp.told;refine zt func158 ntmps158 results158 λS nx hd=>?_
 refine DQ ?_;intro v0 v1;refine DQ ?_;intro v2
 repeat apply za
 refine zb ?_;refine zr (ZgY p) ?_;refine qQ 2 0 104 2 rfl rfl λv3=>?_
 refine zj (Ja (xs:=(told 0 p).map Jt) (σ:=List Visit × Nat) (λi s=>s.1=yW c ((told 0 p).take i)/\s.1.length<=i/\i<=(told 0 p).length) [(3,.ptr (nx+1) v1 0),(5,.ptr (nx+2) v2 0)] (λ_=>S)
  (λ(out,v3)=>[.cells v0 30 [L p],.cells v1 3 [I c],.cells v2 101 [.sl (nx+3) v3 2 0 out.length],.cells v3 104 (out.flatMap Enc.enc)]) ([],v3)
  (ZgZ p hp.n hp.d hp.t) rfl (by intro x hx;obtain⟨y,_,rfl⟩:=Al.1 hx;rfl) DN DI ⟨by simp[yW],by simp,by simp⟩ rfl DI DI ?_ ?_)
 ·rintro l i ⟨out,v3⟩ more x ⟨ho,hl,hi⟩ hx;simp only at ho hl hi ⊢;rw[Ai]at hx;obtain⟨y,hy,rfl⟩:=Ao.1 hx;obtain⟨s,d⟩:=y;obtain⟨hil,hyi⟩:=Ac.1 hy;have htk:(told 0 p).take (i+1)=(told 0 p).take i++[(s,d)]:=by rw[AR hil,hyi]
  refine jP [] DM DM λK Gc Gh hK hGc hGh X hX0 hX=>?_
  simp -implicitDefEqProofs [hX0,hX,Jt]
  try clear hX0 hX X
  intro v4;refine hK _ _ _ ?_;clear hK hGc hGh;clear K Gc Gh;refine zj (DQ ?_);refine zv rfl (λhc=>?_) (λhc=>?_)
  ·simp at hc;refine zb ?_;refine⟨by omega,?_⟩;simp only[js];exact ww (out++[⟨d,s.q⟩],v3+1) [_] ⟨by rw[htk,Zg0,Zg1,if_pos hc,ho],by simp;omega,by omega⟩ rfl DJ
  ·simp at hc;refine zh ?_;simp only[js];exact ww (out,v3) [_] ⟨by rw[htk,Zg0,Zg1,if_neg hc,ho,AH],Nat.le_succ_of_le hl,by omega⟩ rfl DJ
 ·rintro⟨out,v3⟩ ⟨ho,hl,-⟩;simp only[List.length_map,Ak]at ho hl ⊢;refine DQ ?_;refine yb 3 rfl ?_;exact zg (zi hd DJ (by rw[ho];rfl))
open Go
theorem ZpL(p:zA)(c:Int)(hp:PlanOk p):Pure prog 198 [.agg [L p],I c] (L ((yW c (told 0 p)).map (·.d))):=by
 have hlen:=AD (Zg2 c (told 0 p)) hp.told;have hvis:=ZcK p c hp;generalize yW c (told 0 p)=vs at hlen hvis ⊢;refine zt func198 ntmps198 results198 λS nx hd=>?_
 refine DQ ?_;intro v0;refine DQ ?_;refine za (jg 5 3 1 rfl λv1=>?_);refine DQ ?_;refine zr hvis ?_;refine zj (zD (λs:Nat × List Int × Nat=>s.1<=vs.length/\s.2.1=(vs.take s.1).map (·.d)) (λ(k,out,v1)=>[(5,.sl (nx+1) v1 1 0 out.length),(10,L vs),(11,I vs.length),(12,I k)]) (λ(k,out,v1)=>[.cells v0 30 [L p],.cells v1 3 (out.flatMap Enc.enc)]) (λs=>vs.length-s.1) (0,[],v1) [] DI DI DI ?_);rintro⟨k,out,v1⟩ ⟨hk,ho⟩;simp only at hk ho ⊢;have hol:out.length=k:=by rw[ho];simp;omega
 refine DQ ?_;refine za (zv rfl (λhc=>?_) (λhc=>?_))
 ·simp at hc;obtain⟨s,tl,a1,a2,a3,_,e0⟩:=el 2 rfl vs k hc;refine zh (za (zj (za (ze [] (zo e0 hc) ?_))));intro v2;refine zb ?_;refine⟨by omega,?_⟩;refine zb ?_;exact zq (k+1,out++[s.d],v1+1) [_] ⟨hc,by rw[a3,ho];simp⟩ DL (by simp[zu k (by omega)]) rfl DJ
 ·simp at hc;have:k=vs.length:=DH
  subst this;rw[Ak]at ho;refine zx (DQ ?_);refine yb 1 rfl ?_;exact zg (zi hd DJ (by simp[ho,zp]))
def qK(n:Nat)(d:Int):Nat:=if 0<=d/\d<64 then n ||| 2 ^ d.toNat else n
theorem Zan(n:Nat)(d:Int)(hn:n<2 ^ 64):qK n d<2 ^ 64:=by
 unfold qK;split
 ·exact Nat.or_lt_two_pow hn (Cr DN DH)
 ·exact hn
def QC(l:List Int):Nat:=l.foldl qK 0
theorem ZpM(l:List Int):QC l<2 ^ 64:=by
 have:∀(l:List Int) (n:Nat),n<2 ^ 64->l.foldl qK n<2 ^ 64:=by
  intro l;induction l with
  | nil=>intro n h;exact h
  | cons d l ih=>intro n h;exact ih _ (Zan n d h)
 exact this l 0 DN
theorem ZcL(d:Int):Pure prog 260 [I d] (B (decide (0<=d/\d<64))):=by
 refine zt func260 ntmps260 results260 λS nx hd=>?_
 refine DQ ?_
 by_cases h1:0<=d
 ·refine za (ze [(2,5)] h1 ?_);exact zg (zi hd DJ (by simp[h1,zp]))
 ·refine za (ze [(2,5)] (zo h1 zN) ?_);exact zg (zi hd DJ (by simp[h1,zp]))
theorem Zg3(d:Nat)(h:d<64):IntKind.u64.wrap (2 ^ d)=((2 ^ d:Nat):Int):=by
 have h2:(2:Nat) ^ d<2 ^ 64:=Cr DN h;have h3:((2 ^ d:Nat):Int)<2 ^ 64:=by exact_mod_cast h2
 have h4:(2:Int) ^ d=((2 ^ d:Nat):Int):=DI
 rw[h4];generalize (2 ^ d:Nat)=m at h3 ⊢;simp only[IntKind.wrap,IntKind.bits,IntKind.signed];simp;omega
theorem Zg4(n:Nat)(d:Int)(hn:n<2 ^ 64):Pure prog 226 [U n,I d] (U (qK n d)):=by
 refine zt func226 ntmps226 results226 λS nx hd=>?_
 refine DQ ?_
 repeat apply za
 refine zb ?_;refine zr (ZcL d) ?_
 by_cases h:0<=d/\d<64
 ·repeat apply za
  refine zm (by simp[h]) ?_;refine zh ?_;have h1:¬d<0:=DH
  have h2:min d.toNat 64=d.toNat:=DH
  have h3:=Zg3 d.toNat DH;have h4:bits BinOp.or IntKind.u64 (n:Int) (2 ^ d.toNat)=((n ||| 2 ^ d.toNat:Nat):Int):=by
   have:=bits_or_u64_nat n (2 ^ d.toNat) DH (by have:(2:Nat) ^ d.toNat<2 ^ 64:=Cr (by decide) (by omega);omega);simpa using this
  refine za (jP [] DM DM λK Gc Gh hK hGc hGh X hX0 hX=>?_);simp -implicitDefEqProofs [hX0,hX,h1,h2,IntKind.bits,h3,h4]
  try clear hX0 hX X
  refine hK _ _ _ ?_;clear hK hGc hGh;clear K Gc Gh;exact zg (zi hd DJ (by simp[qK,h,zp]))
 ·repeat apply za
  refine zn DL ?_;refine DQ ?_;exact zg (zi hd DJ (by simp[qK,h,zp]))
theorem ZpN(l:List Int)(hl:l.length<=1048576):Pure prog 197 [L l] (U (QC l)):=by
 refine zt func197 ntmps197 results197 λS nx hd=>?_
 refine DQ ?_;refine DQ ?_
 repeat apply za
 refine zb ?_;refine zj (zD (λs:Nat × Nat=>s.1<=l.length/\s.2=QC (l.take s.1)) (λ(k,n)=>[(3,U n),(6,L l),(7,I l.length),(8,I k)]) (λ_=>[]) (λs=>l.length-s.1) (0,0) [] (by simp[QC]) DI DI ?_);rintro⟨k,n⟩ ⟨hk,ho⟩;simp only at hk ho ⊢;refine DQ ?_;refine za (zv rfl (λhc=>?_) (λhc=>?_))
 ·simp at hc;obtain⟨d,tl,a1,a2,a3,e0⟩:=zJ rfl l k hc;refine zh (za (zj (za (ze [] (zo e0 hc) ?_))));refine zb ?_;refine zr (Zg4 n d (by rw[ho];exact ZpM _)) ?_;refine zb ?_;exact zq (k+1,qK n d) [] ⟨hc,by rw[a3,ho];simp[QC,Bw]⟩ DL (by simp[zu k (by omega)]) rfl DI
 ·simp at hc;have:k=l.length:=DH
  subst this;rw[Ak]at ho;refine zx (DQ ?_);exact zg (zi hd DJ (by simp[ho,zp]))
def WH(l:List Nat)(v:Nat):Int:=if v∈l then (l.findIdx (·=v):Nat) else -1
theorem ZpO(l:List Nat)(v:Nat)(hl:l.length<=1048576):Pure prog 242 [L l,U v] (I (WH l v)):=by
 refine zt func242 ntmps242 results242 λS nx hd=>?_
 refine DQ ?_
 repeat apply za
 refine zb ?_;refine zj (zD (λs:Nat=>s<=l.length/\v ∉ l.take s) (λk=>[(0,L l),(1,U v),(6,L l),(7,I l.length),(8,I k)]) (λ_=>[]) (λs=>l.length-s) 0 [] DI DI DI ?_);rintro k ⟨hk,ho⟩;refine DQ ?_;refine za (zv rfl (λhc=>?_) (λhc=>?_))
 ·simp at hc;obtain⟨d,tl,a1,a2,a3,e0⟩:=zJ rfl l k hc;refine zh (za (zj (DQ ?_)));refine za (ze [] (zo hc e0) ?_);refine zv rfl (λh=>?_) (λh=>?_)
  ·obtain rfl:v=d:=by simp at h;omega
   have hres:WH l v=k:=by
    have hm:=Ab a1;have:l.findIdx (·=v)=k:=by
     rw[List.findIdx_eq DH];obtain⟨q1,q2⟩:=Ac.1 a1;refine⟨by simp[q2],λj hj=>?_⟩;simp only[decide_eq_false_iff_not];intro e;apply ho;rw[List.mem_take_iff_getElem];exact⟨j,by omega,e⟩
    simp[WH,hm,this]
   refine DQ ?_;exact zg (zi hd DJ (by simp[hres,zp]))
  ·simp at h;refine zh (zb ?_);exact zq (k+1) [] ⟨hc,by rw[a3];simp;exact⟨ho,λe=>h DH⟩⟩ DH (by simp[zu k (by omega)]) rfl DI
 ·simp at hc;have:k=l.length:=DH
  subst this;rw[Ak]at ho;refine zx (DQ ?_);exact zg (zi hd DJ (by simp[WH,ho,zp]))
theorem ZpP(l:List Nat)(v:Nat)(hl:l.length<=1048576):Pure prog 199 [L l,U v] (B (decide (v∈l))):=by
 refine zt func199 ntmps199 results199 λS nx hd=>?_
 refine DQ ?_;refine DQ ?_;refine zr (ZpO l v hl) ?_;exact zg (zi hd DJ (by by_cases h:v∈l<;>simp[WH,h,zp]))
open Go
structure CustFits (c:Cust):Prop where
 rate:0<=c.rate/\c.rate<=2147483648
 size:0<=c.size/\c.size<=2147483648
 start:0<=c.start/\c.start<=2147483648
def Z7(q:Int):Bool:=decide (q<0\/2147483648<q)
def jU(size rate:Int):Int->List Int->Option (List Int)
 | _,[]=>some []
 | there,q :: l=>if size<there+q\/there+q<rate then none else (jU size rate (there+q-rate) l).map ((there+q-rate) :: ·)
def q9(c:Cust)(q:List Int):List Int × Int :=
 if q.any Z7 then ([],1) else match jU c.size c.rate c.start q with
 | none=>([],8)
 | some l=>(l,0)
theorem Zg5(c:Cust){S:Store}{nx:Nat}(hd:zW nx S):Spec prog 156 [.agg (yh c)] S (λp S'=>∃v,p=.fn (.func 201) [] [.ptr (nx+1) v 0,.ip (yh c)]/\S'=S.set (nx+1) (.cells v 3 [I c.start])):=by
 refine ut hd func156 ntmps156 results156 ?_;refine DQ ?_;intro v0;refine DQ ?_;intro v1;refine DQ ?_;refine xR 0 rfl ?_;refine zg ⟨_,_,rfl,⟨v1,by simp[zp],rfl⟩,Qj (j:=1) hd DI⟩
theorem Zg6(c:Cust)(q there:Int){S:Store}{id v:Nat}(hid:S id=.cells v 3 [I there])(h1:-4611686018427387904<=there+q/\there+q<=4611686018427387904)(h2:-4611686018427387904<=there+q-c.rate/\there+q-c.rate<=4611686018427387904):
  Spec prog 201 [I q,.ptr id v 0,.ip (yh c)] S (λp S'=>p=.tup [I (there+q),I (there+q-c.rate)]/\S'=S.set id (.cells v 3 [I (there+q-c.rate)])):=by
 refine yi func201 ntmps201 results201 λnx hd=>?_
 have hlt:id<nx:=by
  rcases Bh id nx with h | h
  ·exact h
  ·rw[hd id h]at hid;cases hid
 have hge:¬nx<=id:=DH
 have hE:∀obs,ext S nx obs id=.cells v 3 [I there]:=λobs=>(zB hlt).trans hid
 have hE2:∀obs x,ext (S.set id x) nx obs id=x:=λobs x=>(zB hlt).trans (q11 _ _ _)
 have hd2:∀x,zW nx (S.set id x):=λx i hi=>by rw[q10 _ _ _ _ DH];exact hd i hi
 have w1:IntKind.i64.wrap (there+q)=there+q:=wr _ DH DH;have w2:IntKind.i64.wrap (there+q-c.rate)=there+q-c.rate:=wr _ DH DH;refine DQ ?_;refine za (ze [] (zo hE w1) ?_);refine za (ze [] (zF hE hge w2) ?_);refine za (zz none (Row.pures [0,1,2,3] .done) mixed hE2 ?_);refine zg ⟨_,_,rfl,⟨rfl,rfl⟩,zR (hd2 _)⟩
theorem ZpQ{size rate there q:Int}{l:List Int}{out:List Int}{r:Option (List Int)}(h:r=(jU size rate there (q :: l)).map (out++·))(hs:¬size<there+q)(hr:¬there+q<rate):
  r=(jU size rate (there+q-rate) l).map ((out++[there+q-rate])++·):=by
 rw[h];simp only[jU,hs,hr,or_self,if_false,Option.map_map];congr 1;funext x;simp
theorem ZcM(c:Cust)(q:List Int)(hc:CustFits c)(hq:q.length<=1048576):Pure prog 113 [.agg (yh c),L q] (.tup [L (q9 c q).1,I (q9 c q).2]):=by
 obtain⟨hr,hsz,hst⟩:=hc;refine zt func113 ntmps113 results113 λS nx hd=>?_
 refine DQ ?_;intro v0
 repeat apply za
 refine zb ?_;refine qS (nx:=nx) (σ:=Nat) (λv0=>q.any Z7=false) (λv0=>[(1,L q),(2,.ptr nx v0 0)]) (λ_=>S) (λv0=>[.cells v0 87 (yh c)]) ?_ ?_
 ·refine zj (zD (λs:Nat=>s<=q.length/\(q.take s).any Z7=false) (λk=>[(1,L q),(2,.ptr nx v0 0),(14,L q),(15,I q.length),(16,I k)]) (λ_=>[.cells v0 87 (yh c)]) (λs=>q.length-s) 0 [] DI DI DI ?_);rintro k ⟨hk,ho⟩;refine DQ ?_;refine za (zv rfl (λhc=>?_) (λhc=>?_))
  ·simp at hc;obtain⟨z,tl,a1,a2,a3,e0⟩:=zJ rfl q k hc;have bad:Z7 z=true->q9 c q=([],1):=λh=>by
    have:q.any Z7=true:=by rw[B4];exact⟨z,Ab a1,h⟩
    simp[q9,this]
   refine zh (za (zj (za (ze [] (zo e0 hc) ?_))))
   by_cases h1:z<0
   ·refine za (ze [(2,22)] (zo h1 zN) ?_);refine zn rfl (DQ ?_);refine ZS 4 rfl ?_;exact zg (zi hd DJ (by rw[bad (by simp[Z7,h1])];rfl))
   by_cases h2:(2147483648:Int)<z
   ·refine za (ze [(2,22)] (zo h1 h2) ?_);refine zn rfl (DQ ?_);refine ZS 4 rfl ?_;exact zg (zi hd DJ (by rw[bad (by simp[Z7,h2])];rfl))
   refine za (ze [(2,22)] (zo h1 h2) ?_);refine zm rfl (zh (zb ?_));exact zq (k+1) [] ⟨hc,by rw[a3,List.any_append,ho];simp[Z7];omega⟩ DH (by simp[zu k (by omega)]) rfl DI
  ·simp at hc;obtain rfl:k=q.length:=DH
   rw[Ak]at ho;exact zx (z8 v0 [] ho DI rfl DI)
 ·intro v0 hb;have hq0:∀z∈q,0<=z/\z<=2147483648:=by
   intro z hz;rw[CG]at hb;have:=hb z hz;simp[Z7]at this;omega
  have hres:q9 c q=match jU c.size c.rate c.start q with | none=>([],8) | some l=>(l,0):=by simp[q9,hb]
  refine DQ ?_;refine λhsuf=>((Zg5 c jF).mono ?_).v
  rintro p T ⟨v1,rfl,rfl⟩;refine⟨_,_,J8 _,zG hsuf ?_⟩;refine DQ ?_;refine⟨by omega,λv2=>?_⟩;refine ZkW 3 0 rfl ?_;simp only[C8,AV,A4,List.append_eq,List.cons_append,AT,Ad,Ah]
  repeat apply za
  refine zb ?_;refine zj (zD (λs:Nat × Int × List Int × Nat=>s.1<=q.length/\s.2.2.1.length=s.1/\(0<=s.2.1/\s.2.1<=2147483648)/\jU c.size c.rate c.start q=(jU c.size c.rate s.2.1 (q.drop s.1)).map (s.2.2.1++·))
   (λ(k,there,out,v2)=>[(2,.ptr nx v0 0),(8,.fn (.func 201) [] [.ptr (nx+2) v1 0,.ip (yh c)]),(9,.sl (nx+3) v2 1 0 out.length),(32,L q),(33,I q.length),(34,I k)])
   (λ(k,there,out,v2)=>[.cells v0 87 (yh c),.dead,.cells v1 3 [I there],.cells v2 3 (out.flatMap Enc.enc)]) (λs=>q.length-s.1) (0,c.start,[],v2) [] ?_ DI DI ?_)
  ·refine⟨by simp,by simp,hst,?_⟩;simp
  rintro⟨k,there,out,v2⟩ ⟨hk,hol,hth,ho⟩;simp only at hk hol hth ho ⊢;refine DQ ?_;refine za (zv rfl (λhc=>?_) (λhc=>?_))
  ·simp at hc;obtain⟨z,tl,a1,a2,a3,e0⟩:=zJ rfl q k hc;have hz:=hq0 z (Ab a1);rw[a2]at ho;refine zh (za (zj (za (ze [] (zo e0 hc) ?_))));refine DQ ?_;refine λhsuf=>((Zg6 c z there (id:=nx+2) (v:=v1) DI DH DH).mono ?_).v
   rintro p T ⟨rfl,rfl⟩;refine⟨_,_,yc _ DH DI,zG hsuf ?_⟩;have bad:(c.size<there+z\/there+z<c.rate)->q9 c q=([],8):=λh=>by
    rw[hres,ho];simp only[jU,if_pos h,Option.map_none]
   by_cases h1:c.size<there+z
   ·repeat apply za
    refine ze [(4,48)] (zo h1 zN) ?_;refine zn rfl (DQ ?_);refine ZS 4 rfl ?_;exact zg (zi hd DJ (by rw[bad (.inl h1)];rfl))
   by_cases h2:there+z<c.rate
   ·repeat apply za
    refine ze [(4,48)] (zo h1 h2) ?_;refine zn rfl (DQ ?_);refine ZS 4 rfl ?_;exact zg (zi hd DJ (by rw[bad (.inr h2)];rfl))
   repeat apply za
   refine ze [(4,48)] (zo h1 h2) ?_;refine zm rfl (zh (zb ?_));refine⟨by omega,?_⟩;refine zb ?_;exact zq (k+1,there+z-c.rate,out++[there+z-c.rate],v2+1) [] ⟨hc,by simp[hol],by dsimp only;omega,ZpQ ho h1 h2⟩ DL (by simp[zu k (by omega)]) rfl DI
  ·simp at hc;obtain rfl:k=q.length:=DH
   rw[B5]at ho;simp only[jU,A9,AH]at ho;refine zx (DQ ?_);refine yb 3 rfl ?_;exact zg (zi hd DJ (by rw[hres,ho];simp[zp]))
open Go
def Ju(rate size:Int):List Int->List Int->Bool
 | z :: q,n :: l=>decide (0<z/\n+rate≠size) || Ju rate size q l
 | _,_=>false
def Zu(c:Cust)(q:List Int):Int :=
 if (q9 c q).2≠0 then (q9 c q).2 else if c.rule≠1 then 0 else if Ju c.rate c.size q (q9 c q).1 then 9 else 0
def u6(c:Cust)(ns:List Int):Int:=W (c.hold*W ns.sum)
theorem Zg7(l:List Int)(x:Int):(l++[x]).sum=l.sum+x:=DI
theorem ZcN(c:Cust)(ns:List Int)(hn:ns.length<=1048576):Pure prog 115 [.agg (yh c),L ns] (I (u6 c ns)):=by
 refine zt func115 ntmps115 results115 λS nx hd=>?_
 refine DQ ?_;intro v0;refine DQ ?_
 repeat apply za
 refine zb ?_;refine zj (zD (λs:Nat=>s<=ns.length) (λk=>[(2,.ptr nx v0 0),(5,I (W (ns.take k).sum)),(8,L ns),(9,I ns.length),(10,I k)]) (λ_=>[.cells v0 87 (yh c)]) (λs=>ns.length-s) 0 [] DI DI DI ?_);rintro k hk;refine DQ ?_;refine za (zv rfl (λhc=>?_) (λhc=>?_))
 ·simp at hc;obtain⟨z,tl,a1,a2,a3,e0⟩:=zJ rfl ns k hc;refine zh (za (zj (za (ze [] (zo e0 hc) ?_))));refine zb ?_;refine zb ?_;have hw:W (W (ns.take k).sum+z)=W (ns.take (k+1)).sum:=by rw[a3,Zg7,ZT]
  exact zq (k+1) [] hc DH (by simp[zu k (by omega)];exact hw) rfl DI
 ·simp at hc;obtain rfl:k=ns.length:=DH
  rw[Ak];refine zx (DQ ?_);exact DR hd
theorem Zg8(c:Cust)(q:List Int)(hc:CustFits c)(hq:q.length<=1048576):Pure prog 200 [.agg (yh c),L q] (I (Zu c q)):=by
 have hni:=ZcM c q hc hq;obtain⟨hr,hsz,hst⟩:=hc;refine zt func200 ntmps200 results200 λS nx hd=>?_
 refine DQ ?_;intro v0
 repeat apply za
 refine zb ?_;refine zr hni ?_
 by_cases he:(q9 c q).2=0
 case neg =>
  refine za (ze [] he ?_);refine zn (by simp[he]) ?_;refine DQ ?_;exact zg (zi hd DJ (by simp[Zu,he,zp]))
 refine za (ze [] he ?_);refine zm (by simp[he]) ?_;refine zh ?_
 by_cases hru:c.rule=1
 case neg =>
  repeat apply za
  refine ze [] hru ?_;refine zn (by simp[hru]) ?_;refine DQ ?_;exact zg (zi hd DJ (by simp[Zu,he,hru,zp]))
 repeat apply za
 refine ze [] hru ?_;refine zm (by simp[hru]) ?_;refine zh ?_;have hres:Zu c q=if Ju c.rate c.size q (q9 c q).1 then 9 else 0:=by simp[Zu,he,hru]
 obtain⟨l,hl,hq0⟩:∃l,jU c.size c.rate c.start q=some l/\(q9 c q).1=l/\∀z∈q,0<=z/\z<=2147483648:=by
  unfold q9 at he ⊢;split at he
  ·simp at he
  ·rename_i hb;cases hrn:jU c.size c.rate c.start q with
   | none=>simp[hrn]at he
   | some l =>
    refine⟨l,rfl,by simp[hb],λz hz=>?_⟩;simp only[Bool.not_eq_true,CG]at hb;have:=hb z hz;simp[Z7]at this;omega
 obtain⟨hl1,hq0⟩:=hq0;rw[hl1]at hres;refine DQ ?_;refine λhsuf=>((Zg5 c jF).mono ?_).v
 rintro p T ⟨v1,rfl,rfl⟩;refine⟨_,_,J8 _,zG hsuf ?_⟩
 repeat apply za
 refine zb ?_;refine zj (zD (λs:Nat × Int=>s.1<=q.length/\(0<=s.2/\s.2<=2147483648)/\jU c.size c.rate s.2 (q.drop s.1)=some (l.drop s.1)/\Ju c.rate c.size q l=Ju c.rate c.size (q.drop s.1) (l.drop s.1))
  (λ(k,there)=>[(2,.ptr nx v0 0),(7,.fn (.func 201) [] [.ptr (nx+2) v1 0,.ip (yh c)]),(26,L q),(27,I q.length),(28,I k)])
  (λ(k,there)=>[.cells v0 87 (yh c),.dead,.cells v1 3 [I there]]) (λs=>q.length-s.1) (0,c.start) [] ⟨by simp,hst,by simpa using hl,by simp⟩ DI DI ?_)
 rintro⟨k,there⟩ ⟨hk,hth,hrn,ho⟩;simp only at hk hth hrn ho ⊢;refine DQ ?_;refine za (zv rfl (λhc=>?_) (λhc=>?_))
 ·simp at hc;obtain⟨z,tl,a1,a2,a3,e0⟩:=zJ rfl q k hc;have hz:=hq0 z (Ab a1);rw[a2]at hrn ho;simp only[jU]at hrn;split at hrn
  ·cases hrn
  rename_i hno;obtain⟨l2,hl2,hl3⟩:=Ao.1 hrn;rw[<-hl3]at ho;simp only[Ju]at ho;have hl4:l.drop (k+1)=l2:=by rw[<-List.drop_drop,<-hl3];rfl
  have hs1:there+z-c.rate+c.rate=there+z:=DH
  rw[hs1]at ho;refine zh (za (zj (za (ze [] (zo e0 hc) ?_))));refine DQ ?_;refine λhsuf=>((Zg6 c z there (id:=nx+2) (v:=v1) DI DH DH).mono ?_).v
  rintro p T ⟨rfl,rfl⟩;refine⟨_,_,yc _ DH DI,zG hsuf ?_⟩
  by_cases h1:0<z
  ·by_cases h2:there+z=c.size
   ·refine za (ze [(2,40)] (zo h1 h2) ?_);refine zm (by simp[h2]) ?_;refine zh (zb ?_);exact zq (k+1,there+z-c.rate) [] ⟨hc,by dsimp only;omega,by rw[hl4];exact hl2,by rw[ho,hl4,decide_eq_false DH,Bool.false_or]⟩ DL (by simp[zu k (by omega)]) rfl (by simp[h2])
   ·refine za (ze [(2,40)] (zo h1 h2) ?_);refine zn (by simp[h2]) ?_;refine DQ ?_;exact zg (zi hd DJ (by rw[hres,ho];simp[h1,h2,zp]))
  ·refine za (ze [(2,40)] (zo h1 zN) ?_);refine zm rfl (zh (zb ?_));exact zq (k+1,there+z-c.rate) [] ⟨hc,by dsimp only;omega,by rw[hl4];exact hl2,by rw[ho,hl4,decide_eq_false DH,Bool.false_or]⟩ DL (by simp[zu k (by omega)]) rfl DI
 ·simp at hc;obtain rfl:k=q.length:=DH
  rw[B5]at ho;simp only[Ju]at ho;refine zx (DQ ?_);exact zg (zi hd DJ (by rw[hres,ho];rfl))
def wE(a b:Int):Int:=if a+b < -9223372036854775808 then -9223372036854775808 else if 9223372036854775807<a+b then 9223372036854775807 else a+b
theorem ZpR(a b:Int)(ha:zP a)(hb:zP b):Pure prog 167 [I a,I b] (if -9223372036854775808<=a+b/\a+b<=9223372036854775807 then .tup [I (a+b),B true] else .tup [I 0,B false]):=by
 unfold zP at ha hb;refine zt func167 ntmps167 results167 λS nx hd=>?_
 refine DQ ?_
 by_cases h:-9223372036854775808<=a+b/\a+b<=9223372036854775807
 ·have w1:IntKind.i64.wrap (a+b)=a+b:=wr _ h.1 h.2;refine za (ze [] w1 ?_)
  by_cases h1:b<0
  ·have h2:a+b<a:=DH
   repeat apply za
   refine ze [] (zo h1 h2) ?_;refine zm DI ?_;refine zh (DQ ?_);exact zg (zi hd DJ (by simp[h,zp]))
  ·have h2:¬a+b<a:=DH
   repeat apply za
   refine ze [] (zo h1 h2) ?_;refine zm DI ?_;refine zh (DQ ?_);exact zg (zi hd DJ (by simp[h,zp]))
 ·by_cases h0:a+b < -9223372036854775808
  ·have w1:IntKind.i64.wrap (a+b)=a+b+18446744073709551616:=by rw[AC];omega
   have h1:b<0:=DH
   have h2:¬a+b+18446744073709551616<a:=DH
   refine za (ze [] w1 ?_)
   repeat apply za
   refine ze [] (zo h1 h2) ?_;refine zn DI ?_;refine DQ ?_;exact zg (zi hd DJ (by simp only[h,if_false];rfl))
  ·have w1:IntKind.i64.wrap (a+b)=a+b-18446744073709551616:=by rw[AC];omega
   have h1:¬b<0:=DH
   have h2:a+b-18446744073709551616<a:=DH
   refine za (ze [] w1 ?_)
   repeat apply za
   refine ze [] (zo h1 h2) ?_;refine zn DI ?_;refine DQ ?_;exact zg (zi hd DJ (by simp only[h,if_false];rfl))
theorem Zao(a b:Int)(ha:zP a)(hb:zP b):Pure prog 123 [I a,I b] (I (wE a b)):=by
 have hadd:=ZpR a b ha hb;unfold zP at ha hb;refine zt func123 ntmps123 results123 λS nx hd=>?_
 refine DQ ?_
 by_cases h:-9223372036854775808<=a+b/\a+b<=9223372036854775807
 ·rw[if_pos h]at hadd;refine DQ ?_;refine zr hadd ?_;refine za (zj (DQ ?_));refine zn rfl (DQ ?_);exact zg (zi hd DJ (by simp only[wE,zp];rw[if_neg (by omega),if_neg (by omega)]))
 ·rw[if_neg h]at hadd;refine DQ ?_;refine zr hadd ?_;refine za (zj (DQ ?_));refine zm rfl (DQ ?_);refine zv rfl (λh1=>?_) (λh1=>?_)
  ·simp at h1;refine DQ ?_;exact zg (zi hd DJ (by simp only[wE,zp];rw[if_pos (by omega)]))
  ·simp at h1;refine zh (DQ ?_);exact zg (zi hd DJ (by simp only[wE,zp];rw[if_neg (by omega),if_pos (by omega)]))
theorem Xy(a lo hi:Int):Pure prog 80 [I a,I lo,I hi] (I (min (max a lo) hi)):=by
 have h1:je (qP a lo) hi=min (max a lo) hi:=by unfold je qP;split<;>split<;>omega
 refine zt func80 ntmps80 results80 λS nx hd=>?_
 refine DQ ?_;refine za (ze [] h1 ?_);exact DR hd
def yI(v:List Visit)(n:Int):List Int:=(List.range (min (max n 0) 64).toNat).map λ(d:Nat)=>((v.filter λs=>decide (s.d=(d:Int))).map (·.q)).sum
theorem Zap(v:List Visit)(n:Int):(yI v n).length=(min (max n 0) 64).toNat:=by simp[yI]
theorem ZpS(n:Int):yI [] n=List.replicate (min (max n 0) 64).toNat 0:=by
 apply A6
 ·simp[yI]
 ·intro i h1 h2;simp[yI]
theorem ZpT(v:List Visit)(n:Int)(s:Visit)(h:¬(0<=s.d/\s.d<((min (max n 0) 64).toNat:Int))):yI (v++[s]) n=yI v n:=by
 unfold yI;apply AO;intro d hd;have hdl:=AP.1 hd;have:¬s.d=(d:Int):=DH
 simp[this]
theorem ZpU(v:List Visit)(n:Int)(s:Visit)(d:Nat)(hs:s.d=(d:Int))(b:Int)(hb:(yI v n)[d]?=some b):yI (v++[s]) n=(yI v n).set d (b+s.q):=by
 obtain⟨hdl,hbe⟩:=Ac.1 hb;apply A6
 ·simp[yI]
 ·intro i h1 h2;rw[CR];have hil:i<(yI v n).length:=by simpa using h2
  by_cases q:d=i
  ·subst q;rw[if_pos rfl,<-hbe];simp[yI,hs]
  ·rw[if_neg q];have:¬s.d=(i:Int):=DH
   simp[yI,this]
structure VisOk (v:List Visit):Prop where
 n:v.length<=1048576
 q:∀s∈v,0<=s.q/\s.q<=2147483648
 d:∀s∈v,zP s.d
theorem ZpV(v:List Visit)(p:Visit->Bool)(h:∀s∈v,0<=s.q/\s.q<=2147483648):0<=((v.filter p).map (·.q)).sum/\((v.filter p).map (·.q)).sum<=2147483648*v.length:=by
 induction v with
 | nil=>simp
 | cons s v ih =>
  have h1:=ih λx hx=>h x (by simp[hx])
  have h2:=h s DI;rw[Ca];split
  ·simp only[AA,BM,Ad];omega
  ·simp only[Ad];omega
theorem ZpW{v:List Visit}(hv:∀s∈v,0<=s.q/\s.q<=2147483648)(n:Int):∀b∈yI v n,0<=b/\b<=2147483648*v.length:=by
 intro b hb;simp only[yI,Al]at hb;obtain⟨d,_,rfl⟩:=hb;exact ZpV v _ hv
theorem Zg9(v:List Visit)(n:Int)(hv:VisOk v):Pure prog 157 [L v,I n] (L (yI v n)):=by
 have hvn:=hv.n;have hm:min (max n 0) 64=(((min (max n 0) 64).toNat:Nat):Int):=DH
 have hm64:(min (max n 0) 64).toNat<=64:=DH
 refine zt func157 ntmps157 results157 λS nx hd=>?_
 refine DQ ?_;refine DQ ?_;refine zr (Xy n 0 64) ?_;refine⟨by omega,λv1=>?_⟩;generalize hmm:(min (max n 0) 64).toNat=m at hm hm64;have hz:=ZpS n;rw[hmm]at hz
 repeat apply za
 refine zb ?_;refine zj (zD (λs:Nat=>s<=v.length) (λk=>[(5,.sl nx v1 1 0 m),(11,L v),(12,I v.length),(13,I k)]) (λk=>[.cells v1 3 ((yI (v.take k) n).flatMap Enc.enc)]) (λs=>v.length-s) 0 [] DI (by simp[hmm]) (by simp[hz,hmm,ZbJ]) ?_);rintro k hk;have hbl:=Zap (v.take k) n;rw[hmm]at hbl;refine DQ ?_;refine za (zv rfl (λhc=>?_) (λhc=>?_))
 ·simp at hc;obtain⟨s,tl,a1,a2,a3,_,e0⟩:=el 2 rfl v k hc;have hsm:=Ab a1;have hsq:=hv.q s hsm;have hout:=ZpT (v.take k) n s;rw[hmm]at hout;refine zh (za (zj (za (ze [] (zo e0 hc) ?_))));intro v2
  by_cases h1:0<=s.d
  ·by_cases h2:s.d<(m:Int)
   ·obtain⟨d,hd⟩:=Av h1;have hdm:d<m:=DH
    obtain⟨b,tl2,b1,b2,b3,e2⟩:=zJ rfl (yI (v.take k) n) d DH;have hbm:=ZpW (λx hx=>hv.q x (BD hx)) n b (Ab b1);have htl:(v.take k).length<=1048576:=DL
    have hin:=ZpU (v.take k) n s d hd b b1;have hsp:=VT (yI (v.take k) n) d (b+s.q) DH;have hsat:wE b s.q=b+s.q:=by unfold wE;rw[if_neg DH,if_neg DH]
    have hflen:((yI (v.take k) n).flatMap Enc.enc).length=m:=by rw[jG,hbl]
    refine za (ze [(3,20)] (zo h1 h2) ?_);refine zn rfl (zz (some [nx+1]) (Row.pures [0,1,2,3,4,5,6,8,9] (.alt 7 (Row.pures [10,11] (.alt 12 (.done) .stop)) .stop)) mixed (zV hd hdm e2 hbl) ?_);refine zK (Zao b s.q (by unfold zP;omega) (by unfold zP;omega)) (yE hsat hsp hbl hdm hd) ?_;refine⟨by omega,?_⟩;refine zb ?_;exact zq (k+1) [_] hc DH (by simp[zu k (by omega)]) rfl (by rw[a3,hin];rfl)
   ·refine za (ze [(3,20)] (zo h1 h2) ?_);refine zm rfl (zh (zb ?_));exact zq (k+1) [_] hc DH (by simp[zu k (by omega)]) rfl (by rw[a3,hout (by omega)];rfl)
  ·refine za (ze [(3,20)] (zo h1 zN) ?_);refine zm rfl (zh (zb ?_));exact zq (k+1) [_] hc DH (by simp[zu k (by omega)]) rfl (by rw[a3,hout (by omega)];rfl)
 ·simp at hc;obtain rfl:k=v.length:=DH
  rw[Ak]at hbl ⊢;refine zx (DQ ?_);refine yb 0 rfl ?_;exact zg (zi hd DJ (by simp[hbl,zp]))
open Go
theorem ZpX{size rate:Int}:∀{q:List Int} {there:Int} {l:List Int},jU size rate there q=some l->l.length=q.length:=by
 intro q
 induction q with
 | nil=>intro there l h;simp only[jU,Option.some.injEq]at h;subst h;rfl
 | cons z q ih =>
  intro there l h;simp only[jU]at h;split at h
  ·cases h
  ·obtain⟨l2,h2,rfl⟩:=Ao.1 h;simp[ih h2]
open Go
theorem ZpY(n d:Nat):((n:Int).fdiv (2 ^ d))=((n / 2 ^ d:Nat):Int):=by
 have h:(2:Int) ^ d=((2 ^ d:Nat):Int):=DI
 rw[h,Int.fdiv_eq_ediv_of_nonneg _ (Int.natCast_nonneg _)];rfl
theorem ZpZ(n:Nat)(d:Int)(hn:n<2 ^ 64):Pure prog 297 [U n,I d] (B (decide (0<=d/\d<64/\yC n d.toNat=1))):=by
 by_cases h:0<=d/\d<64
 ·have h1:¬d<0:=DH
  have h2:min d.toNat 64=d.toNat:=DH
  have hlt:n / 2 ^ d.toNat<=n:=Nat.div_le_self _ _;have h3:=ZpY n d.toNat;have hb:yC n d.toNat=n / 2 ^ d.toNat % 2:=rfl;generalize n / 2 ^ d.toNat=m at hlt h3 hb;have h4:=and_one_u64 (m:Int) DH DH;have h5:IntKind.u64.wrap (m:Int)=(m:Int):=by
   simp only[IntKind.wrap,IntKind.bits,IntKind.signed];simp;omega
  have h6:((m:Int) % 2=1)=(yC n d.toNat=1):=by rw[hb];exact propext ⟨λq=>by omega,λq=>by omega⟩
  refine zt func297 ntmps297 results297 λS nx hd=>?_
  refine DQ ?_;refine za (jP [(2,7)] DM DM λK Gc Gh hK hGc hGh X hX0 hX=>?_);simp -implicitDefEqProofs [hX0,hX]
  try clear hX0 hX X
  refine hGc _ _ _ _ _ _ _ λhsuf=>((ZcL d _).mono ?_).v
  rintro _ _ ⟨rfl,rfl⟩;refine⟨_,_,rfl,?_⟩;clear hGc hGh;clear Gc Gh;refine jZ hsuf (D:=[(2,7)]) DM λGc Gh hGc hGh X hX0 hX=>?_
  simp -implicitDefEqProofs [hX0,hX,h,h1,h2,h3,h5,h4,IntKind.bits]
  try clear hX0 hX X
  refine hK _ _ _ ?_;clear hK hGc hGh;clear K Gc Gh;exact zg (zi hd DJ (by simp[h,zp,h6]))
 ·refine zt func297 ntmps297 results297 λS nx hd=>?_
  refine DQ ?_;refine za (ze [(2,7)] trivial ?_);refine qm [(2,7)] (ZcL d) (zo h zN) ?_;have h7:¬(0<=d/\d<64/\yC n d.toNat=1):=λq=>h ⟨q.1,q.2.1⟩
  exact zg (zi hd DJ (by simp only[h7,zp,decide_false]))
def yA(n a k:Nat):List Int:=((List.range k).filter λi=>decide (a<=i) && decide (yC n i=1)).map λ(i:Nat)=>(i:Int)
theorem Xz(n a k:Nat):(yA n a k).length<=k:=by
 simp only[yA,List.length_map];exact AD (BC _ _) DI
theorem Zp0(n a k:Nat)(h:a<=k):yA n a (k+1)=yA n a k++(if yC n k=1 then [(k:Int)] else []):=by
 simp only[yA,AL,B3,List.map_append]
 by_cases q:yC n k=1<;>simp[q,h]
theorem ZcO(n a k:Nat)(h:k<=a):yA n a k=[]:=by
 simp only[yA,List.map_eq_nil_iff,CD,AP];intro i hi;simp;omega
theorem Zha(n:Nat)(d:Int)(hn:n<2 ^ 64)(hdl:d<=1000):Pure prog 296 [.fn (.func 297) [U n] [],I d] (L (yA n d.toNat 64)):=by
 have hmax:qP d 0=((d.toNat:Nat):Int):=by unfold qP;split<;>omega
 have h64:yA n d.toNat (max d.toNat 64)=yA n d.toNat 64:=by
  by_cases q:d.toNat<=64
  ·rw[Nat.max_eq_right q]
  ·rw[Nat.max_eq_left DH,ZcO _ _ _ (Ag _),ZcO _ _ _ DH]
 have ha:d.toNat<=1000:=DH
 have main:∀a:Nat,a<=1000->yA n a (max a 64)=yA n d.toNat 64->qP d 0=(a:Int)->Pure prog 296 [.fn (.func 297) [U n] [],I d] (L (yA n d.toNat 64)):=by
  intro a ha h64 hmax;refine zt func296 ntmps296 results296 λS nx hd=>?_
  refine DQ ?_;refine DQ ?_;refine za (jg 5 3 1 rfl λv1=>?_);refine za (ze [] hmax ?_);refine zj (zD (λs:Nat × List Int × Nat=>a<=s.1/\s.1<=max a 64/\s.2.1=yA n a s.1) (λ(k,out,v1)=>[(0,.fn (.func 297) [U n] []),(5,.sl nx v1 1 0 out.length),(6,I k)]) (λ(k,out,v1)=>[.cells v1 3 (out.flatMap Enc.enc)]) (λs=>max a 64-s.1) (a,[],v1) [] (by simp[ZcO];omega) DI DI ?_);rintro⟨k,out,v1⟩ ⟨hk0,hk,ho⟩;simp only at hk0 hk ho ⊢;have hol:out.length<=k:=by rw[ho];exact Xz _ _ _
  repeat apply za
  refine zb ?_;refine zv rfl (λhc=>?_) (λhc=>?_)
  ·simp at hc;have hc':k<64:=DH
   refine zh (za (zj (DQ ?_)));refine zr (ZpZ n k hn) ?_;have hs:=Zp0 n a k hk0;refine zv rfl (λhb=>?_) (λhb=>?_)
   ·simp at hb;refine zb ?_;refine⟨by omega,?_⟩;refine zb ?_;exact zq (k+1,out++[(k:Int)],v1+1) [] ⟨by omega,by omega,by rw[hs,if_pos hb.2,ho]⟩ DL (by simp[zu k (by omega)]) rfl DI
   ·have hb':¬yC n k=1:=by simp at hb;exact hb DH
    refine zh (zb ?_);exact zq (k+1,out,v1) [] ⟨by omega,by omega,by rw[hs,if_neg hb',ho];simp⟩ DL (by simp[zu k (by omega)]) rfl DI
  ·simp at hc;obtain rfl:k=max a 64:=DH
   refine zx (DQ ?_);refine yb 0 rfl ?_;exact zg (zi hd DJ (by simp[ho,h64,zp]))
 exact main d.toNat ha h64 hmax
def Z8(n:Nat)(d:Int):Int:=(yA n d.toNat 64).headD (-1)
theorem Zp1(n:Nat)(d:Int)(hn:n<2 ^ 64)(hdl:d<=1000):Pure prog 261 [U n,I d] (I (Z8 n d)):=by
 have hlen:=Xz n d.toNat 64;refine zt func261 ntmps261 results261 λS nx hd=>?_
 refine DQ ?_;refine DQ ?_;refine zr (Zha n d hn hdl) ?_;unfold Z8;generalize yA n d.toNat 64=l at hlen ⊢;cases l with
 | nil =>
  repeat apply za
  refine zb ?_;refine zn rfl (DQ ?_);exact DR hd
 | cons a l =>
  have h1:¬((l.length:Int)+1=0):=DH
  repeat apply za
  refine ze [] h1 ?_;refine zm rfl (zh ?_);have h2:(0:Int)<(l.length:Int)+1:=DH
  refine za (ze [] h2 ?_);exact DR hd
open Go
def yu(n lo hi:Int):Bool:=decide (lo<=n/\n<=hi)
theorem uG(n lo hi:Int):Pure prog 145 [I n,I lo,I hi] (B (yu n lo hi)):=by
 refine zt func145 ntmps145 results145 λS nx hd=>?_
 refine DQ ?_
 by_cases h:lo<=n
 ·refine za (ze [(3,10)] h ?_);exact zg (zi hd DJ (by simp[yu,h,zp]))
 ·refine za (ze [(3,10)] (zo h zN) ?_);exact zg (zi hd DJ (by simp[yu,h,zp]))
abbrev uH(c:Cust)(days:Int):List PV:=[I c.kind,I c.demand,L c.pats,I c.rate,I c.size,I c.start,I c.rule,I c.hold,I days]
def Zv(c:Cust)(days:Int):Bool:=(c.pats.all λp=>decide (Z8 p days<0)) && yu c.pats.length 1 64
def u7(c:Cust):Bool:=decide (c.rate=0/\c.size=0/\c.start=0/\c.rule=0/\c.hold=0)
def QD(c:Cust):Bool:=decide (c.rule=1\/c.rule=2)
def YL(c:Cust):Bool:=decide (c.pats.length=0/\c.demand=0)
theorem Zp2(c:Cust)(d:Int):Pure prog 227 [.agg (uH c d)] (B (yu c.demand 1 2147483648)):=by
 refine zt func227 ntmps227 results227 λS nx hd=>?_
 refine DQ ?_;intro v0;refine DQ ?_;refine zr (uG _ _ _) ?_;exact DR hd
theorem Zp3(c:Cust)(d:Int):Pure prog 230 [.agg (uH c d)] (B (yu c.rate 0 2147483648)):=by
 refine zt func230 ntmps230 results230 λS nx hd=>?_
 refine DQ ?_;intro v0;refine DQ ?_;refine zr (uG _ _ _) ?_;exact DR hd
theorem Zp4(c:Cust)(d:Int):Pure prog 231 [.agg (uH c d)] (B (yu c.size 1 2147483648)):=by
 refine zt func231 ntmps231 results231 λS nx hd=>?_
 refine DQ ?_;intro v0;refine DQ ?_;refine zr (uG _ _ _) ?_;exact DR hd
theorem Zp5(c:Cust)(d:Int):Pure prog 232 [.agg (uH c d)] (B (yu c.start 0 c.size)):=by
 refine zt func232 ntmps232 results232 λS nx hd=>?_
 refine DQ ?_;intro v0;refine DQ ?_;refine zr (uG _ _ _) ?_;exact DR hd
theorem Zp6(c:Cust)(d:Int):Pure prog 234 [.agg (uH c d)] (B (yu c.hold 0 1024)):=by
 refine zt func234 ntmps234 results234 λS nx hd=>?_
 refine DQ ?_;intro v0;refine DQ ?_;refine zr (uG _ _ _) ?_;exact DR hd
theorem Zp7(c:Cust)(d:Int):Pure prog 233 [.agg (uH c d)] (B (QD c)):=by
 refine zt func233 ntmps233 results233 λS nx hd=>?_
 refine DQ ?_;intro v0
 by_cases h:c.rule=1
 ·refine za (ze [(4,7)] (zo h zN) ?_);exact zg (zi hd DJ (by simp[QD,h,zp]))
 ·refine za (ze [(4,7)] h ?_);exact zg (zi hd DJ (by simp[QD,h,zp]))
theorem Zp8(c:Cust)(d:Int):Pure prog 235 [.agg (uH c d)] (B (YL c)):=by
 refine zt func235 ntmps235 results235 λS nx hd=>?_
 refine DQ ?_;intro v0
 by_cases h:c.pats=[]
 ·refine za (ze [(5,8)] h ?_);exact zg (zi hd DJ (by simp[YL,h,zp]))
 ·refine za (ze [(5,8)] (zo h zN) ?_);exact zg (zi hd DJ (by simp[YL,h,zp]))
theorem Zp9(c:Cust)(d:Int):Pure prog 229 [.agg (uH c d)] (B (u7 c)):=by
 refine zt func229 ntmps229 results229 λS nx hd=>?_
 refine DQ ?_;intro v0
 by_cases h1:c.rate=0
 ·by_cases h2:c.size=0
  ·by_cases h3:c.start=0
   ·by_cases h4:c.rule=0
    ·refine za (ze [(4,7),(10,13),(16,19),(22,25)] (zV h1 h2 h3 h4) ?_);exact zg (zi hd DJ (by simp[u7,h1,h2,h3,h4,zp]))
    ·refine za (ze [(4,7),(10,13),(16,19),(22,25)] (yE h1 h2 h3 h4 zN) ?_);exact zg (zi hd DJ (by simp[u7,h4,zp]))
   ·refine za (ze [(4,7),(10,13),(16,19),(22,25)] (zV h1 h2 h3 zN) ?_);exact zg (zi hd DJ (by simp[u7,h3,zp]))
  ·refine za (ze [(4,7),(10,13),(16,19),(22,25)] (zF h1 h2 zN) ?_);exact zg (zi hd DJ (by simp[u7,h2,zp]))
 ·refine za (ze [(4,7),(10,13),(16,19),(22,25)] (zo h1 zN) ?_);exact zg (zi hd DJ (by simp[u7,h1,zp]))
theorem Zqa(c:Cust)(d:Int)(hp:∀p∈c.pats,p<2 ^ 64)(hl:c.pats.length<=9223372036854775807)(hdl:d<=1000):Pure prog 228 [.agg (uH c d)] (B (Zv c d)):=by
 refine zt func228 ntmps228 results228 λS nx hd=>?_
 refine DQ ?_;intro v0
 repeat apply za
 refine zb ?_;refine zj (zD (λs:Nat=>s<=c.pats.length/\∀p∈c.pats.take s,Z8 p d<0) (λk=>[(1,.ptr nx v0 0),(7,L c.pats),(8,I c.pats.length),(9,I k)]) (λk=>[.cells v0 207 (uH c d)]) (λs=>c.pats.length-s) 0 [] DI DI DI ?_);rintro k ⟨hk,ho⟩;simp only at hk ho ⊢;refine DQ ?_;refine za (zv rfl (λhc=>?_) (λhc=>?_))
 ·simp at hc;obtain⟨p,tl,a1,a2,a3,e0⟩:=zJ rfl c.pats k hc;have hpm:=Ab a1;refine zh (za (zj (za (ze [] (zo e0 hc) ?_))));refine DQ ?_;refine zr (Zp1 p d (hp p hpm) hdl) ?_;refine zv rfl (λh=>?_) (λh=>?_)
  ·simp at h;have hres:Zv c d=false:=by
    have:(c.pats.all λp=>decide (Z8 p d<0))=false:=by
     rw[BT];exact⟨p,hpm,by simp;omega⟩
    simp[Zv,this]
   refine DQ ?_;exact zg (zi hd DJ (by simp[hres,zp]))
  ·simp at h;refine zh (zb ?_);exact zq (k+1) [] ⟨hc,by rw[a3];intro q hq;rcases AB.1 hq with hq | hq;exact ho q hq;rw[A3.1 hq];exact h⟩ DH (by simp[zu k (by omega)]) rfl DI
 ·simp at hc;obtain rfl:k=c.pats.length:=DH
  rw[Ak]at ho;have hres:Zv c d=yu c.pats.length 1 64:=by
   have:(c.pats.all λp=>decide (Z8 p d<0))=true:=by
    rw[Ay];intro p hp;simpa using ho p hp
   simp[Zv,this]
  refine zx (DQ ?_);refine zr (uG _ _ _) ?_;exact zg (zi hd DJ (by simp[hres,zp]))
structure Must where
 f:FuncId
 b:Bool
instance:Enc Must:=⟨λm=>[.fn (.func m.f) [] []],1,λ_=>rfl,λ_=>rfl⟩
@[simp] theorem ZyM(m:Must):Enc.enc m=[.fn (.func m.f) [] []]:=rfl
@[simp high] theorem ZyN(l:List Must):(l.flatMap Enc.enc).length=l.length:=(j4 l).trans (BS _)
def Z9(c:Cust)(d:Int)(k:Int):List Must :=
 if k=1 then [⟨227,yu c.demand 1 2147483648⟩,⟨228,Zv c d⟩,⟨229,u7 c⟩]
 else if k=2 then [⟨230,yu c.rate 0 2147483648⟩,⟨231,yu c.size 1 2147483648⟩,⟨232,yu c.start 0 c.size⟩,
  ⟨233,QD c⟩,⟨234,yu c.hold 0 1024⟩,⟨235,YL c⟩]
 else []
theorem Zqb(c:Cust)(d k:Int):Pure prog 193 [I k] (L (Z9 c d k)):=by
 refine zt func193 ntmps193 results193 λS nx hd=>?_
 refine DQ ?_
 repeat apply za
 refine zb ?_;refine zj (DQ ?_);refine zv rfl (λh=>?_) (λh=>?_)
 ·simp at h;subst h;refine DQ ?_;exact DR hd
 ·simp at h;refine DQ ?_;refine zv rfl (λh2=>?_) (λh2=>?_)
  ·simp at h2;subst h2;refine DQ ?_;exact DR hd
  ·simp at h2;refine zh (DQ ?_);refine ZS 2 rfl ?_;exact zg (zi hd DJ (by simp[Z9,h,h2,zp]))
theorem Zqc(c:Cust)(d:Int)(hp:∀p∈c.pats,p<2 ^ 64)(hl:c.pats.length<=9223372036854775807)(hdl:d<=1000):∀m∈Z9 c d c.kind,Pure prog m.f [.agg (uH c d)] (B m.b):=by
 intro m hm;unfold Z9 at hm;split at hm
 ·simp only[As,A7,or_false]at hm;rcases hm with rfl | rfl | rfl
  ·exact Zp2 c d
  ·exact Zqa c d hp hl hdl
  ·exact Zp9 c d
 ·split at hm
  ·simp only[As,A7,or_false]at hm;rcases hm with rfl | rfl | rfl | rfl | rfl | rfl
   ·exact Zp3 c d
   ·exact Zp4 c d
   ·exact Zp5 c d
   ·exact Zp7 c d
   ·exact Zp6 c d
   ·exact Zp8 c d
  ·cases hm
def xJ(c:Cust)(d:Int):Bool :=
 if c.kind=1 then (yu c.demand 1 2147483648 && Zv c d && u7 c)
 else if c.kind=2 then (yu c.rate 0 2147483648 && yu c.size 1 2147483648 && yu c.start 0 c.size && QD c && yu c.hold 0 1024 && YL c) else false
theorem Zqd(c:Cust)(d:Int):xJ c d=((Z9 c d c.kind).all (·.b) && decide (0<(Z9 c d c.kind).length)):=by
 unfold xJ Z9;split
 ·simp[Bool.and_assoc]
 ·split
  ·simp[Bool.and_assoc]
  ·simp
theorem Zqe(c:Cust)(d:Int)(hp:∀p∈c.pats,p<2 ^ 64)(hl:c.pats.length<=9223372036854775807)(hdl:d<=1000):Pure prog 146 [.agg (uH c d)] (B (xJ c d)):=by
 have hall:=Zqc c d hp hl hdl;have hmu:=Zqb c d c.kind;have hln:(Z9 c d c.kind).length<=6:=by unfold Z9;split;simp;split<;>simp
 rw[Zqd];generalize Z9 c d c.kind=ms at hall hmu hln ⊢;refine zt func146 ntmps146 results146 λS nx hd=>?_
 refine DQ ?_;intro v0;refine DQ ?_;refine zr hmu ?_
 repeat apply za
 refine zb ?_;refine zj (zD (λs:Nat=>s<=ms.length/\(ms.take s).all (·.b)=true) (λk=>[(1,.ptr nx v0 0),(3,L ms),(10,L ms),(11,I ms.length),(12,I k)]) (λk=>[.cells v0 207 (uH c d)]) (λs=>ms.length-s) 0 [] DI DI DI ?_);rintro k ⟨hk,ho⟩;simp only at hk ho ⊢;refine DQ ?_;refine za (zv rfl (λhc=>?_) (λhc=>?_))
 ·simp at hc;obtain⟨m,tl,a1,a2,a3,e0⟩:=zJ rfl ms k hc;have hm:=Ab a1;refine zh (za (zj (za (ze [] (zo e0 hc) ?_))));refine DQ ?_;refine zr (hall m hm) ?_;cases hb:m.b with
  | false =>
   have hres:ms.all (·.b)=false:=by rw[BT];exact⟨m,hm,by simp[hb]⟩
   refine zn rfl (DQ ?_);exact zg (zi hd DJ (by simp only[hres,zp,Db]))
  | true =>
   refine zm rfl (zh (zb ?_));exact zq (k+1) [] ⟨hc,by rw[a3,Cx,ho];simp[hb]⟩ DH (by simp[zu k (by omega)]) rfl DI
 ·simp at hc;obtain rfl:k=ms.length:=DH
  rw[Ak]at ho;refine zx (DQ ?_);exact zg (zi hd DJ (by simp[ho,zp]))
open Go
def Zw(n:Nat):Nat->List (List Int)->Bool
 | _,[]=>true
 | a,row :: l=>(decide (row.length=n) && decide (row.getD a 0=0) && row.all (yu · 0 2147483648)) && Zw n (a+1) l
def Zx(l:List (List Int))(n:Nat):Bool:=decide (l.length=n) && Zw n 0 l
def jo(x:Inst):Bool :=
 yu x.days 1 64 && decide (x.cust.length<=2000) && yu x.veh 0 2147483648 && yu x.cap 0 2147483648 && yu x.len 0 2147483648 && x.cust.all (xJ · x.days) && Zx x.dist (x.cust.length+1)
theorem Zqf(l:List (List Int))(n:Nat)(hn:n<=1048576)(hl:l.length<=9223372036854775807)(hr:∀r∈l,r.length<=9223372036854775807):Pure prog 147 [L l,I n] (B (Zx l n)):=by
 refine zt func147 ntmps147 results147 λS nx hd=>?_
 refine DQ ?_
 by_cases hln:l.length=n
 ·have h1:((l.length:Int)=n):=DH
  repeat apply za
  refine ze [] h1 ?_;refine zm DI ?_;refine zh ?_
  repeat apply za
  refine zb ?_;refine zj (zD (λs:Nat=>s<=l.length/\Zw n 0 l=Zw n s (l.drop s)) (λk=>[(0,L l),(1,I n),(13,L l),(14,I l.length),(15,I k)]) (λk=>[]) (λs=>l.length-s) 0 [] DI (by simp[h1]) DI ?_);rintro k ⟨hk,ho⟩;simp only at hk ho ⊢;refine DQ ?_;refine za (zv rfl (λhc=>?_) (λhc=>?_))
  ·simp at hc;obtain⟨row,tl,a1,a2,a3,e0⟩:=zJ rfl l k hc;have hrm:=hr row (Ab a1);rw[a2]at ho;simp only[Zw]at ho;refine zh (za (zj (za (ze [] (zo e0 hc) ?_))));have bad:(row.length=n/\row.getD k 0=0->row.all (yu · 0 2147483648)=false)->Zx l n=false:=by
    intro q;simp only[Zx,ho]
    by_cases q1:row.length=n
    ·by_cases q2:row.getD k 0=0
     ·rw[q ⟨q1,q2⟩];simp
     ·simp only[q2,decide_false,Dc,Db]
    ·simp only[q1,decide_false,Dc,Db]
   by_cases h2:row.length=n
   ·have h2':((row.length:Int)=n):=DH
    have h3:k<n:=DH
    obtain⟨d,tl2,b1,b2,b3,e2⟩:=zJ rfl row k DH;have hd0:row.getD k 0=d:=by rw[Aa,b1];rfl
    by_cases h4:d=0
    ·repeat apply za
     refine ze [(4,24)] (zV h2' h3 e2 h4) ?_;refine zm DI ?_;refine zh (DQ ?_);refine zj (zD (λs:Nat=>s<=row.length/\(row.take s).all (yu · 0 2147483648)=true) (λj=>[(0,L l),(1,I n),(13,L l),(14,I l.length),(15,I k),(31,L row),(32,I row.length),(33,I j)]) (λk=>[]) (λs=>row.length-s) 0 [] DI (by simp[h1,h2']) DI ?_);rintro j ⟨hj,hoj⟩
     try simp only at hj hoj ⊢
     refine DQ ?_;refine za (zv rfl (λhc2=>?_) (λhc2=>?_))
     ·simp at hc2;obtain⟨e,tl3,c1,c2,c3,e3⟩:=zJ rfl row j hc2;refine zh (za (zj (za (ze [] (zo e3 hc2) ?_))));refine DQ ?_;refine zr (uG _ _ _) ?_;cases hb:yu e 0 2147483648 with
      | false =>
       have hres:=bad (λ_=>by rw[BT];exact⟨e,Ab c1,by simp[hb]⟩);refine zn rfl (DQ ?_);exact zg (zi hd DJ (by simp only[hres,zp]))
      | true =>
       refine zm rfl (zh (zb ?_));exact zq (j+1) [] ⟨hc2,by rw[c3,Cx,hoj];simp[hb]⟩ DH (by simp[zu j (by omega)]) rfl DI
     ·simp at hc2;obtain rfl:j=row.length:=DH
      rw[Ak]at hoj;refine zx (zb ?_);exact zq (k+1) [] ⟨hc,by rw[ho,hoj,hd0];simp[h2,h4]⟩ DH (by simp[zu k (by omega)]) rfl DI
    ·have hres:=bad (λq=>absurd (hd0.symm.trans q.2) h4)
     repeat apply za
     refine ze [(4,24)] (zV h2' h3 e2 h4) ?_;refine zn (by simp[h4]) ?_;refine DQ ?_;exact zg (zi hd DJ (by simp only[hres,zp]))
   ·have hres:=bad (λq=>absurd q.1 h2);have h2':((row.length:Int) != (n:Int))=true:=DL
    repeat apply za
    refine ze [(4,24)] (zo h2' zN) ?_;refine zn DI ?_;refine DQ ?_;exact zg (zi hd DJ (by simp only[hres,zp]))
  ·simp at hc;obtain rfl:k=l.length:=DH
   simp only[B5,Zw]at ho;refine zx (DQ ?_);exact zg (zi hd DJ (by simp[Zx,hln,ho,zp]))
 ·have h1:¬((l.length:Int)=n):=DH
  repeat apply za
  refine ze [] h1 ?_;refine zn (by simp[h1]) ?_;refine DQ ?_;exact zg (zi hd DJ (by simp[Zx,hln,zp]))
theorem Zhb(x:Inst)(hx:InstOk x):Pure prog 108 [.agg (zy x)] (I (if jo x=true then 0 else 3)):=by
 have hnc:=hx.ncust;refine zt func108 ntmps108 results108 λS nx hd=>?_
 refine DQ ?_;intro v0
 by_cases hd1:yu x.days 1 64=true
 ·have hdr:1<=x.days/\x.days<=64:=by simpa[yu] using hd1
  by_cases hc2:(2000:Int)<x.cust.length
  ·repeat apply za
   refine ze [(4,11)] trivial ?_;refine qm [(4,11)] (uG _ _ _) (zo hd1 hc2) ?_;refine zn DI ?_;refine DQ ?_;exact zg (zi hd DJ (by simp[jo,show ¬x.cust.length<=2000 by omega,zp]))
  ·repeat apply za
   refine ze [(4,11)] trivial ?_;refine qm [(4,11)] (uG _ _ _) (zo hd1 hc2) ?_;refine zm DI ?_;refine zh ?_
   repeat apply za
   refine zb ?_;refine zj (zD (λs:Nat=>s<=3/\(1<=s->yu x.veh 0 2147483648=true)/\(2<=s->yu x.cap 0 2147483648=true)/\(3<=s->yu x.len 0 2147483648=true)) (λk=>[(1,.ptr nx v0 0),(23,.lst 3 [I x.veh,I x.cap,I x.len]),(24,I 3),(25,I k)]) (λk=>[.cells v0 25 (zy x)]) (λs=>3-s) 0 [] DI DI DI ?_);rintro k ⟨hk,i1,i2,i3⟩;simp only at hk i1 i2 i3 ⊢
   match k,hk with
   | 0,_ =>
    refine DQ ?_;refine za (zn rfl (zh (za (zj (DQ ?_)))));refine DQ ?_;refine zr (uG _ _ _) ?_;cases hb:yu x.veh 0 2147483648 with
    | false =>
     refine zn rfl (DQ ?_);exact zg (zi hd DJ (by simp[jo,hb,zp]))
    | true =>
     refine zm rfl (zh (zb ?_));exact zq 1 [] (by simp[hb]) DI DJ rfl DI
   | 1,_ =>
    refine DQ ?_;refine za (zn rfl (zh (za (zj (DQ ?_)))));refine DQ ?_;refine zr (uG _ _ _) ?_;cases hb:yu x.cap 0 2147483648 with
    | false =>
     refine zn rfl (DQ ?_);exact zg (zi hd DJ (by simp[jo,hb,zp]))
    | true =>
     refine zm rfl (zh (zb ?_));exact zq 2 [] (by simp[hb,i1 (by omega)]) DI DJ rfl DI
   | 2,_ =>
    refine DQ ?_;refine za (zn rfl (zh (za (zj (DQ ?_)))));refine DQ ?_;refine zr (uG _ _ _) ?_;cases hb:yu x.len 0 2147483648 with
    | false =>
     refine zn rfl (DQ ?_);exact zg (zi hd DJ (by simp[jo,hb,zp]))
    | true =>
     refine zm rfl (zh (zb ?_));exact zq 3 [] (by simp[hb,i1 (by omega),i2 (by omega)]) DI DJ rfl DI
   | 3,_ =>
    have q1:=i1 DH;have q2:=i2 DH;have q3:=i3 DH;refine DQ ?_;refine za (zm rfl (zx ?_))
    repeat apply za
    refine zb ?_;refine zj (zD (λs:Nat=>s<=x.cust.length/\(x.cust.take s).all (xJ · x.days)=true) (λk=>[(1,.ptr nx v0 0),(34,L x.cust),(35,I x.cust.length),(36,I k)]) (λk=>[.cells v0 25 (zy x)]) (λs=>x.cust.length-s) 0 [] DI DI DI ?_);rintro k ⟨hk,ho⟩
    try simp only at hk ho ⊢
    refine DQ ?_;refine za (zv rfl (λhc=>?_) (λhc=>?_))
    ·simp at hc;obtain⟨c,tl,a1,a2,a3,_,e0⟩:=el 8 rfl x.cust k hc;have hcm:=Ab a1;have hco:=hx.cust c hcm;refine zh (za (zj (za (ze [] (zo e0 hc) ?_))));intro v1;refine DQ ?_;refine zr (Zqe c x.days hco.pats hco.npats DH) ?_;cases hb:xJ c x.days with
     | false =>
      have hres:x.cust.all (xJ · x.days)=false:=by rw[BT];exact⟨c,hcm,by simp[hb]⟩
      refine zn rfl (DQ ?_);exact zg (zi hd DJ (by simp[jo,hres,zp]))
     | true =>
      refine zm rfl (zh (zb ?_));exact zq (k+1) [_] ⟨hc,by rw[a3,Cx,ho];simp[hb]⟩ DH (by simp[zu k (by omega)]) rfl rfl
    ·simp at hc;obtain rfl:k=x.cust.length:=DH
     rw[Ak]at ho;have w1:=zu x.cust.length DH;refine zx ?_
     repeat apply za
     refine ze [] w1 ?_;refine zr (Zqf x.dist (x.cust.length+1) DH hx.ndist (λr hr=>(hx.dist r hr).1)) ?_;cases hb:Zx x.dist (x.cust.length+1) with
     | false =>
      refine zn rfl (DQ ?_);exact zg (zi hd DJ (by simp[jo,hb,zp]))
     | true =>
      refine zm rfl (zh (DQ ?_));exact zg (zi hd DJ (by simp[jo,hb,hd1,q1,q2,q3,ho,show x.cust.length<=2000 by omega,zp]))
 ·repeat apply za
  refine ze [(4,11)] trivial ?_;refine qm [(4,11)] (uG _ _ _) (zo hd1 zN) ?_;refine zn DI ?_;refine DQ ?_;exact zg (zi hd DJ (by simp[jo,hd1,zp]))
open Go
theorem Zhc(n:Nat)(d:Int):yA n d.toNat 64=(yA n 0 64).filter λx=>decide (d<=x):=by
 simp only[yA,List.filter_map,List.filter_filter,Cj,decide_true,Dl];congr 1;apply List.filter_congr;intro i _;have:(d.toNat<=i)=(d<=(i:Int)):=propext ⟨λh=>by omega,λh=>by omega⟩;simp only[Function.comp,this]
theorem Zhd(c:Cust)(d:Int)(h:c.kind=1):xJ c d=(yu c.demand 1 2147483648 && Zv c d && u7 c):=by simp[xJ,h]
theorem Zhe(c:Cust)(d:Int)(h:c.kind=2):xJ c d=(yu c.rate 0 2147483648 && yu c.size 1 2147483648 && yu c.start 0 c.size && QD c && yu c.hold 0 1024 && YL c):=by simp[xJ,h]
theorem Zqg(c:Cust)(d:Int)(h:¬c.kind=1)(h2:¬c.kind=2):xJ c d=false:=by simp[xJ,h,h2]
open Go
abbrev Zaq(x:Inst)(p:zA)(i:Int):List PV:=[I x.days,I x.veh,I x.cap,I x.len,L x.cust,L x.dist,L p,I i]
def Zar(c:Cust)(v:List Visit):Int:=if (v.any λs=>decide (s.q≠c.demand))=true then 9 else if QC (v.map (·.d))∈c.pats then 0 else 10
def YM(x:Inst)(p:zA)(i:Nat):Int :=
 match x.cust[i]? with
 | none=>5
 | some c=>if c.kind=2 then Zu c (yI (yW i (told 0 p)) x.days) else Zar c (yW i (told 0 p))
structure Serves (x:Inst) (p:zA):Prop where
 sz:PlanOk p
 q:∀s∈told 0 p,0<=s.1.q/\s.1.q<=2147483648
 days:p.length<=64
theorem Zhf:∀(p:zA) (i:Nat) (x:Stop × Nat),x∈told i p->i<=x.2/\x.2<i+p.length
 | [],_,_,h=>by cases h
 | d :: p,i,x,h=>by
  simp only[told,AB,Al]at h;simp only[Ad];rcases h with ⟨s,_,rfl⟩ | h
  ·simp only;omega
  ·have:=Zhf p (i+1) x h;omega
theorem Zhg{x:Inst}{p:zA}(h:Serves x p)(c:Int):VisOk (yW c (told 0 p))/\∀s∈yW c (told 0 p),0<=s.d/\s.d<=63:=by
 have hd:∀s∈yW c (told 0 p),(0<=s.q/\s.q<=2147483648)/\0<=s.d/\s.d<=63:=by
  intro s hs;simp only[yW,Al,Bl]at hs;obtain⟨y,⟨hy,_⟩,rfl⟩:=hs;have h1:=h.q y hy;have h2:=Zhf p 0 y hy;have h3:=h.days;simp only;omega
 exact⟨⟨AD (Zg2 _ _) h.sz.told,λs hs=>(hd s hs).1,λs hs=>by have:=(hd s hs).2;unfold zP;omega⟩,λs hs=>(hd s hs).2⟩
theorem Zhh(x:Inst)(p:zA)(i:Nat)(h:Serves x p):Pure prog 114 [.agg (Zaq x p i)] (L (yI (yW i (told 0 p)) x.days)):=by
 have h1:=ZcK p i h.sz;have h2:=Zg9 _ x.days (Zhg h i).1;generalize yI (yW i (told 0 p)) x.days=q at h2 ⊢;generalize yW i (told 0 p)=v at h1 h2;refine zt func114 ntmps114 results114 λS nx hd=>?_
 refine DQ ?_;intro v0;refine za (zz (some [nx]) (Row.pures [0,1,2,3,4,5,6,7,8,9] .done) mixed trivial ?_);refine zK (h1) trivial ?_;refine zK (h2) trivial ?_;exact DR hd
theorem Zqh(x:Inst)(p:zA)(i:Nat)(c:Cust)(h:Serves x p)(hc:x.cust[i]?=some c)(hf:CustFits c):Pure prog 155 [.agg (Zaq x p i)] (I (Zu c (yI (yW i (told 0 p)) x.days))):=by
 have h1:=Zhh x p i h;have hil:i<x.cust.length:=(Ac.1 hc).1;obtain⟨c',tl,a1,a2,a3,_,e0⟩:=el 8 rfl x.cust i hil;obtain rfl:c'=c:=by rw[a1]at hc;exact Option.some.inj hc
 have h2:=Zg8 c' (yI (yW i (told 0 p)) x.days) hf (by rw[Zap];omega);generalize yI (yW i (told 0 p)) x.days=q at h1 h2 ⊢;refine zt func155 ntmps155 results155 λS nx hd=>?_
 refine DQ ?_;intro v0;refine za (zz (some [nx]) (Row.pures [0,1,2,3,4,5,6,7,8,9,10] .done) mixed (zo hil e0) ?_);refine zK (h1) trivial ?_;refine zK (h2) trivial ?_;exact DR hd
theorem Zqi(x:Inst)(p:zA)(i:Nat)(c:Cust)(h:Serves x p)(hc:x.cust[i]?=some c)(hpl:c.pats.length<=1048576):Pure prog 154 [.agg (Zaq x p i)] (I (Zar c (yW i (told 0 p)))):=by
 have h1:=ZcK p i h.sz;have h2:=ZpL p i h.sz;have hvl:=(Zhg h i).1.n;have hil:i<x.cust.length:=(Ac.1 hc).1;obtain⟨c',tl,a1,a2,a3,_,e0⟩:=el 8 rfl x.cust i hil;obtain rfl:c'=c:=by rw[a1]at hc;exact Option.some.inj hc
 generalize yW i (told 0 p)=v at h1 h2 hvl ⊢;have h3:=ZpN (v.map (·.d)) (by simpa using hvl);have h4:=ZpP c'.pats (QC (v.map (·.d))) hpl;unfold Zar;generalize QC (v.map (·.d))=set at h3 h4 ⊢;refine zt func154 ntmps154 results154 λS nx hd=>?_
 refine DQ ?_;intro v0;refine za (ze [] (zo hil e0) ?_);intro v1
 repeat apply za
 refine zb ?_;refine zr h1 ?_;refine zj (zD (λs:Nat=>s<=v.length/\((v.take s).any λs=>decide (s.q≠c'.demand))=false) (λk=>[(1,.ptr nx v0 0),(3,.ptr (nx+1) v1 0),(18,L v),(19,I v.length),(20,I k)]) (λ_=>[.cells v0 171 (Zaq x p i),.cells v1 87 (yh c')]) (λs=>v.length-s) 0 [] DI DI DI ?_);rintro k ⟨hk,ho⟩;refine DQ ?_;refine za (zv rfl (λhc1=>?_) (λhc1=>?_))
 ·simp at hc1;obtain⟨s,tl2,b1,b2,b3,e1,e2⟩:=el 2 rfl v k hc1;refine zh (za (zj (za (ze [] (zo hc1 e2) ?_))));intro v2
  by_cases hq:s.q=c'.demand
  ·refine za (ze [] hq ?_);refine zm DI ?_;refine zh (zb ?_);exact zq (k+1) [_] ⟨hc1,by rw[b3,List.any_append,ho];simp[hq]⟩ DH (by simp[zu k (by omega)]) rfl rfl
  ·have hany:(v.any λs=>decide (s.q≠c'.demand))=true:=by rw[B4];exact⟨s,Ab b1,by simpa using hq⟩
   refine za (ze [] hq ?_);refine zn DI ?_;refine DQ ?_;exact zg (zi hd DJ (by rw[if_pos hany];rfl))
 ·simp at hc1;obtain rfl:k=v.length:=DH
  rw[Ak]at ho;refine zx (DQ ?_);refine zr h2 ?_;refine zr h3 ?_
  repeat apply za
  refine zb ?_;refine zr h4 ?_
  by_cases hm:set∈c'.pats
  ·repeat apply za
   refine zm (by simp[hm]) ?_;refine zh (DQ ?_);exact zg (zi hd DJ (by rw[ho];simp[hm,zp]))
  ·repeat apply za
   refine zn (by simp[hm]) ?_;refine DQ ?_;exact zg (zi hd DJ (by rw[ho];simp[hm,zp]))
structure CustsOk (x:Inst):Prop where
 n:x.cust.length<=1048576
 kind:∀c∈x.cust,c.kind=1\/c.kind=2
 fits:∀c∈x.cust,CustFits c
 pats:∀c∈x.cust,c.pats.length<=1048576
 wB:∀c∈x.cust,∀p∈c.pats,p<2 ^ 64
theorem Zqj(x:Inst)(p:zA)(i:Nat)(h:Serves x p)(hx:CustsOk x)(hi:i<x.cust.length):Pure prog 112 [.agg (zy x),.agg [L p],I i] (I (YM x p i)):=by
 obtain⟨c,tl,a1,a2,a3,_,e0⟩:=el 8 rfl x.cust i hi;have hcm:=Ab a1;have hres:YM x p i=if c.kind=2 then Zu c (yI (yW i (told 0 p)) x.days) else Zar c (yW i (told 0 p)):=by simp only[YM,a1]
 rw[hres];have g0:¬(i:Int)<0:=DH
 have g1:¬(x.cust.length:Int)<=(i:Int):=DH
 refine zt func112 ntmps112 results112 λS nx hd=>?_
 refine DQ ?_;intro v0 v1
 repeat apply za
 refine ze [(2,12)] (zF g0 g1 hi) ?_;refine zm DI ?_;refine zh (za (jP [] DM DM λK Gc Gh hK hGc hGh X hX0 hX=>?_));simp -implicitDefEqProofs [hX0,hX]
 try clear hX0 hX X
 intro v2;refine hGh _ _ _ _ _ λhsuf=>Yy (.inr rfl) underlying215 underlying3 rfl (by simp;exact⟨rfl,rfl⟩) DJ DJ (by simp[qX];rfl) ?_
 refine⟨_,_,yc _ DH DI,?_⟩;clear hGc hGh;clear Gc Gh;refine jZ hsuf (D:=[]) DM λGc Gh hGc hGh X hX0 hX=>?_
 simp -implicitDefEqProofs [hX0,hX];clear hX0 hX X;refine hGh _ _ _ _ _ λhsuf=>Yy (.inr rfl) underlying215 underlying3 rfl (by simp;exact⟨rfl,rfl⟩) DJ DJ (by simp[qX,qM];rfl) ?_
 refine⟨_,_,yc _ DH DI,?_⟩;clear hGc hGh;clear Gc Gh;refine jZ hsuf (D:=[]) DM λGc Gh hGc hGh X hX0 hX=>?_
 simp -implicitDefEqProofs [hX0,hX,qM];clear hX0 hX X;refine hK _ _ _ ?_;clear hK hGc hGh;clear K Gc Gh;rcases hx.kind c hcm with hk | hk
 ·refine za (jP [] DM DM λK Gc Gh hK hGc hGh X hX0 hX=>?_);simp -implicitDefEqProofs [hX0,hX,hi,e0,hk]
  try clear hX0 hX X
  refine hGh _ _ _ _ _ λhsuf=>Zj rfl underlying215 underlying3 rfl (by simp;exact⟨rfl,rfl⟩) DJ DJ (by simp[qX,qM];rfl) DJ ?_
  refine⟨_,_,rfl,?_⟩;clear hGc hGh;clear Gc Gh;refine jZ hsuf (D:=[]) DM λGc Gh hGc hGh X hX0 hX=>?_
  simp -implicitDefEqProofs [hX0,hX,ZQ];clear hX0 hX X;refine hK _ _ _ ?_;clear hK hGc hGh;clear K Gc Gh
  repeat apply za
  refine zb ?_;refine zm DI ?_;refine zh (DQ ?_);refine zr (Zqi x p i c h a1 (hx.pats c hcm)) ?_;exact zg (zi hd DJ (by simp[hk,zp]))
 ·refine za (jP [] DM DM λK Gc Gh hK hGc hGh X hX0 hX=>?_);simp -implicitDefEqProofs [hX0,hX,hi,e0,hk]
  try clear hX0 hX X
  refine hGh _ _ _ _ _ λhsuf=>Zj rfl underlying215 underlying3 rfl (by simp;exact⟨rfl,rfl⟩) DJ DJ (by simp[qX,qM];rfl) DJ ?_
  refine⟨_,_,rfl,?_⟩;clear hGc hGh;clear Gc Gh;refine jZ hsuf (D:=[]) DM λGc Gh hGc hGh X hX0 hX=>?_
  simp -implicitDefEqProofs [hX0,hX,ZQ];clear hX0 hX X;refine hK _ _ _ ?_;clear hK hGc hGh;clear K Gc Gh
  repeat apply za
  refine zb ?_;refine zm DI ?_;refine zh (DQ ?_);refine zr (Zqh x p i c h a1 (hx.fits c hcm)) ?_;exact zg (zi hd DJ (by simp[hk,zp]))
open Go
theorem Zhi:∀(l:List Int),(∀b∈l,b=0\/b=1)->∀i:Nat,(xp l).toNat.testBit i=decide (l[i]?=some 1)
 | [],_,i=>by simp[xp]
 | b :: l,h,i=>by
  have hl:∀b∈l,b=0\/b=1:=λx hx=>h x (by simp[hx])
  have h0:=(ZbI l hl).1;have hb:=h b DI;have hn:xp (b :: l)=2*xp l+b:=rfl;cases i with
  | zero =>
   rw[Nat.testBit_zero,hn];simp only[Bb,Option.some.injEq];apply decide_eq_decide.2;omega
  | succ i =>
   rw[Nat.testBit_succ,hn];have:(2*xp l+b).toNat / 2=(xp l).toNat:=DH
   rw[this,Zhi l hl i];simp
theorem Zas(n i:Nat):n.testBit i=decide (yC n i=1):=by rw[CB];rfl
theorem Zqk(n d:Nat)(hn:n<2 ^ 64)(hd:d<64):Xd n d=qK n d:=by
 have h01:∀b∈(qY n).set d 1,b=0\/b=1:=λb hb=>by
  rcases ZbK hb with h | h
  ·exact ZbH n b h
  ·exact .inr h
 apply Nat.eq_of_testBit_eq;intro i;unfold Xd Wp qK;rw[Zhi _ h01,if_pos DH,Dd,AN,Ct,Bt];have hl:=Xc n
 by_cases h:d=i
 ·subst h;simp[hl,hd]
 ·rw[if_neg h]
  by_cases hi:i<64
  ·rw[ZeS n i hi,Zas];simp[h];omega
  ·rw[An DH];have:n.testBit i=false:=CE (Bc hn (Cg DN DH));simp[this,h]
end Go.Proofs.YtcocagkbfpgmiaaGreatDoor.Pv
