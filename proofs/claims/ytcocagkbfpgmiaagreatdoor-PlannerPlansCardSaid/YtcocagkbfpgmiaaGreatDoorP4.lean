/- Part of a proof, packed. -/
import Derived.Test.YtcocagkbfpgmiaaGreatDoorP3
open Go.Proofs.Tryz
set_option maxRecDepth 100000
set_option maxHeartbeats 3200000
namespace Go.Proofs.YtcocagkbfpgmiaaGreatDoor.Pv
open Go Go.Proofs
theorem Sim.drewN{C:Ctx}{S:Store}{w:World}(h:Sim C S w):∀q:Nat,Sim C S (w.drewN q)/\Step C S w C S (w.drewN q)
 | 0=>by
  have e:w.drewN 0=w:=rfl;rw[e];exact⟨h,.refl _ _ _⟩
 | q+1=>by
  obtain⟨a,b⟩:=Sim.drewN h q;obtain⟨c,d⟩:=a.drew;have e:w.drewN (q+1)=(w.drewN q).drew:=by unfold World.drewN World.drew;simp[Nat.add_assoc]
  rw[e];exact⟨c,b.trans d⟩
theorem ZoV(zs:List Int)(c:Int)(hn:zs.length<=1048576)(hs:zs.Pairwise (·<=·)):Pure prog 353 [L zs,I c] (.tup [I (zs.countP (·<c):Nat),B (zs.contains c)]):=by
 intro S;refine⟨qm func353 D3 rfl,?_⟩;intro C w vs hS hl hr;obtain⟨u,v,rfl⟩:∃u v,vs=#[u,v]:=ZfK hl;obtain rfl:=Jb (hr 1 _ v rfl rfl);have h0:Rel C S w (.lst zs.length (zs.flatMap Enc.enc)) u:=hr 0 _ u rfl rfl;have hret:∀(k:Int) (b:Bool),Rel C S w (.tup [I k,B b]) (.tuple #[.int .i64 k,.bool b]):=by
  intro k b;refine .tup rfl ?_;intro i p v hc hv
  match i with
  | 0=>have hc:some (I k)=some p:=hc;have hv:some (Value.int .i64 k)=some v:=hv;cases hc;cases hv;exact .sc _
  | 1=>have hc:some (B b)=some p:=hc;have hv:some (Value.bool b)=some v:=hv;cases hc;cases hv;exact .sc _
  | i+2=>simp at hc
 rw[VX]at h0;generalize hcs:zs.map I=cs at h0;generalize hzl:zs.length=n at h0 hn;cases h0 with
 | lst0 =>
  obtain rfl:zs=[]:=Av hzl;refine(slices_BinarySearch_int_empty _ _ c w).mono ?_;rintro e w' ⟨rfl,rfl⟩;exact⟨_,_,_,_,rfl,⟨rfl,rfl⟩,hret 0 false,hS,.refl _ _ _⟩
 | lst1 g1 g2 g3 g4 g5 g6 g7 =>
  rename_i cap b o ca e fz
  by_cases hz:zs=[]
  ·subst hz;simp at hzl;subst hzl;refine(slices_BinarySearch_int_empty _ _ c w).mono ?_;rintro e w' ⟨rfl,rfl⟩;exact⟨_,_,_,_,rfl,⟨rfl,rfl⟩,hret 0 false,hS,.refl _ _ _⟩
  ·subst hcs;have g5':=g5 (by simpa using hz);rw[List.length_map]at g5';have hcell:∀j,j<zs.length->w.cell? ⟨b,o+j,none⟩=some (.int .i64 (zs.getD j 0)):=by
    intro j hj;have e2:ca[o+j]?=some ca[o+j]:=by rw[A5]
    have e3:=Jb (g7 j (I (zs.getD j 0)) _ (by simp[hj]) e2);rw[e3]at e2;simp[World.cell?,g3,e2]
   refine(slices_BinarySearch_int b o n cap zs c w DY DY hcell (hs.sublist (List.take_sublist _ _))).mono ?_;rintro e w' ⟨rfl,q,rfl⟩;obtain⟨s1,s2⟩:=hS.drewN q;rw[Af DY];exact⟨_,_,_,_,rfl,⟨rfl,rfl⟩,(hret _ _).mono s2,s1,s2⟩
theorem ZoW{n k:Nat}(hk:k<n)(W:Nat->List Spot)(E:List Spot)(i:Nat)(x:List PV)(h:((W k).map Zw)[i]?=some x):(((List.range n).flatMap W++E).map Zw)[((List.range k).flatMap W).length+i]?=some x:=by
 obtain⟨m,rfl⟩:∃m,n=k+(m+1):=⟨n-k-1,by omega⟩;rw[Aj]at h ⊢;rw[Dk,Ap,List.append_assoc,Al (C6 _ _),AI,Cv];have hi:i<(W k).length:=by
  rcases Bi i (W k).length with e | e
  ·exact e
  ·rw[Ak e]at h;cases h
 rw[Aq D2];simp only[Az,Ax,BF];rw[Aq DY];exact h
theorem ZoX(W:Nat->List Spot)(k:Nat):((List.range (k+1)).flatMap W).length=((List.range k).flatMap W).length+(W k).length:=by
 rw[AH,Ap,Ar];simp
theorem ZoY(l:List Int)(c:Int):(yU l).contains c=l.contains c:=by
 rw[DI,Cy,Cy];exact(Ch l _).mem_iff
theorem Zgs{x:Inst}{s:Stop}(hx:x.cust.length<=1048576)(h:zQ x [s]≠1):qe s.c:=by
 have:=Zgb h;unfold jF at this;simp only[Aw,decide_eq_true_eq]at this;unfold qe;omega
theorem Zgt(x:Inst)(d:zn)(s:Stop)(hx:x.cust.length<=1048576)(hdo:DayOk d)(hf:d.flatten.length<=1048576):Qi prog 352 [.ip [I s.c,I s.q],.ip (Zv x d)] ((qn x d s).map Zw):=by
 have hmay:=Wp x [s] hx DZ;have hse:=ZoV (yU (d.flatten.map (·.c))) s.c (by rw[Qk,List.length_map];exact hf) (Wn _);rw[ZoY]at hse;generalize ((yU (d.flatten.map (·.c))).countP (·<s.c):Nat)=cnt at hse;obtain⟨tw,htw⟩:∃tw,tw=decide (¬(yU (d.flatten.map (·.c))).Nodup):=⟨_,rfl⟩;have htw':tw=decide (¬(d.flatten.map (·.c)).Nodup):=by rw[htw];exact decide_eq_decide.2 (not_congr (Ch _ _).nodup_iff)
 obtain⟨th,hth⟩:∃th,th=(d.flatten.map (·.c)).contains s.c:=⟨_,rfl⟩;rw[<-hth]at hse;have hlk:Zv x d=uM x d (yU (d.flatten.map (·.c))) tw (d.map (zQ x)) (yY x d) (d.map jp) (d.map (jG x)):=by rw[htw]
 rw[hlk];obtain⟨on,hon⟩:∃on,on=yU (d.flatten.map (·.c)):=⟨_,rfl⟩;rw[<-hon]at hse ⊢;obtain⟨fa,hfa⟩:∃fa,fa=zQ x [s]:=⟨_,rfl⟩;rw[<-hfa]at hmay;have hdn:=hdo.n;refine Wf func352 D3 rfl ntmps352 (congrArg Array.toList results352) DZ λl V keep nx J hJd hY A0 hA0=>?_
 refine za (zz (some []) (Row.pures [0,1,2,3,4,5] (.alt 6 (.alt 7 (Row.pures [8] .done) .stop) .stop)) mixed trivial ?_);refine zG (ZbY s) trivial ?_;intro v0;refine D7 ?_;refine zt hmay ?_;refine D7 ?_;refine zt hse ?_
 by_cases hout:zQ x [s]=1\/s.c∈d.flatten.map (·.c)\/¬(d.flatten.map (·.c)).Nodup\/x.veh<d.length
 ·have hz:qn x d s=[]:=by unfold qn;rw[if_pos hout]
  rw[hz]at hY ⊢
  by_cases h1:fa=1
  ·repeat apply za
   refine ze [(2,30),(5,33),(9,37)] (zo h1 zH) ?_;exact zm rfl (zg (u5 (hJd _ _ hA0) rfl (by simpa using hA0)))
  cases h2:th with
  | true =>
   repeat apply za
   refine ze [(2,30),(5,33),(9,37)] (zo h1 zH) ?_;exact zm rfl (zg (u5 (hJd _ _ hA0) rfl (by simpa using hA0)))
  | false =>
   cases h3:tw with
   | true =>
    repeat apply za
    refine ze [(2,30),(5,33),(9,37)] (zo h1 zH) ?_;exact zm rfl (zg (u5 (hJd _ _ hA0) rfl (by simpa using hA0)))
   | false =>
    have h4:x.veh<d.length:=by
     rcases hout with e | e | e | e
     ·exact absurd (hfa.trans e) h1
     ·have:th=true:=by rw[hth,Cy];exact e
      rw[h2]at this;cases this
     ·have:tw=true:=by rw[htw'];exact decide_eq_true e
      rw[h3]at this;cases this
     ·exact e
    repeat apply za
    refine ze [(2,30),(5,33),(9,37)] (zD h1 h4 zH) ?_;exact zm rfl (zg (u5 (hJd _ _ hA0) rfl (by simpa using hA0)))
 have h1:¬fa=1:=λe=>hout (.inl (hfa ▸ e))
 have h2:th=false:=by
  cases e:th with
  | false=>rfl
  | true=>rw[hth,Cy]at e;exact absurd (.inr (.inl e)) hout
 have h3:tw=false:=by
  cases e:tw with
  | false=>rfl
  | true=>rw[htw']at e;exact absurd (.inr (.inr (.inl (of_decide_eq_true e)))) hout
 have h4:¬x.veh<d.length:=λe=>hout (.inr (.inr (.inr e)))
 have hsm:=Zgs hx (s:=s) (λe=>hout (.inl e));obtain⟨WW,hWW⟩:∃WW:Nat->List Spot,WW=λt=>Zb x t (d.getD t []) (zQ x (d.getD t [])) (yY x d) (jp (d.getD t [])) (jG x (d.getD t [])) s:=⟨_,rfl⟩
 obtain⟨EE,hEE⟩:∃EE:List Spot,EE=if yY x d=0/\zQ x [s]=0/\(d.length:Int)<x.veh then [⟨d.length,0,W (yE x [s.c])⟩] else []:=⟨_,rfl⟩
 have hz:qn x d s=(List.range d.length).flatMap WW++EE:=by unfold qn;rw[if_neg hout,hWW,hEE]
 rw[hz]at hY ⊢;subst h2 h3
 repeat apply za
 refine ze [(2,30),(5,33),(9,37)] (zD h1 h4 zH) ?_;refine zk rfl (zh ?_)
 repeat apply za
 refine zb ?_;refine zj (jC (σ:=Nat × Store) (λs'=>s'.1<=d.length/\J ((List.range s'.1).flatMap WW).length s'.2) (λs'=>[(0,jV l),(1,.ip [I s.c,I s.q]),(2,.ip (uM x d on false (d.map (zQ x)) (yY x d) (d.map jp) (d.map (jG x)))),(4,.ptr nx v0 0),(5,I d.length),(6,I fa),(44,I d.length),(45,I s'.1)]) (λs'=>s'.2)
  (λ_=>[.cells v0 42 [L [s]]]) (λs'=>d.length-s'.1) (zT (0,A0) [] (by simpa using hA0) DZ rfl DZ) ?_)
 rintro⟨k,A⟩ ⟨hk,hJ⟩;simp only at hk hJ ⊢;refine D7 ?_;refine za (zv rfl (λhc=>?_) (λhc=>?_))
 ·simp at hc;have hdk:d[k]?=some d[k]:=Ae hc;have hg:d.getD k []=d[k]:=by rw[Aa,hdk];rfl
  have hb:zQ x d[k]=13->0<yY x d:=by
   intro e;rcases B1 (yY x d) with q | q
   ·rw[Qq.1 q _ (A6 hc)]at e;cases e
   ·exact q
  have hw:=ZoD x d on false (d.map (zQ x)) (yY x d) (d.map jp) (d.map (jG x)) k d[k] s (zQ x d[k]) (jp d[k]) (jG x d[k]) (AD (ZfY x d) hdn) hdn hdk (by rw[Aj,hdk];rfl) (by rw[Aj,hdk];rfl) (by rw[Aj,hdk];rfl) DZ DZ DZ hb (hdo.t _ (A6 hc)) (hdo.s _ (A6 hc)) hsm;have hWk:WW k=Zb x k d[k] (zQ x d[k]) (yY x d) (jp d[k]) (jG x d[k]) s:=by rw[hWW];simp only[hg]
  rw[<-hWk]at hw;have hlen:=ZoX WW k;refine zh (za (zj (D7 ?_)));refine D7 ?_;refine λhsuf=>((Zf1 hw keep hY _ (ZoW hc WW EE) hJ _).mono ?_)
  rintro _ _ ⟨A',rfl,hJ',rfl⟩;rw[List.length_map,<-hlen]at hJ';refine⟨_,_,rfl,zL hsuf ?_⟩;refine zk rfl (zh (zb ?_));exact zq (k+1,A') [] ⟨hc,hJ'⟩ D2 (by simp[zu k (by omega)]) rfl DZ
 ·simp at hc;obtain rfl:k=d.length:=DY
  refine zx ?_
  by_cases he:yY x d=0/\zQ x [s]=0/\(d.length:Int)<x.veh
  ·have hE:EE=[⟨d.length,0,W (yE x [s.c])⟩]:=by rw[hEE,if_pos he]
   obtain⟨e1,e2,e3⟩:=he;have hlw:=Wm x [s] DZ (by simpa using hsm);have h5:fa=0:=hfa.trans e2;have hy:(((List.range d.length).flatMap WW++EE).map Zw)[((List.range d.length).flatMap WW).length]?=some (Zw ⟨d.length,0,W (yE x [s.c])⟩):=by
    rw[Aj,Al (Ag _),Bv,hE];rfl
   simp only[Az,Bo]at hlw;refine za (ze [(3,58),(7,62)] (zN e1 h5 e3 zH) ?_);refine zm rfl (zb ?_);refine zt hlw ?_;refine λhsuf=>JZ rfl rfl rfl (hY _ _ _ _ hy hJ) ?_
   rintro _ ⟨A',hJ',rfl⟩;refine⟨_,_,rfl,zL hsuf ?_⟩;exact u5 (hJd _ _ hJ') rfl (by rw[List.length_map,Ar,hE];exact hJ')
  ·have hE:EE=[]:=by rw[hEE,if_neg he]
   have hfin:J (((List.range d.length).flatMap WW++EE).map Zw).length A:=by rw[hE,AC,List.length_map];exact hJ
   by_cases e1:yY x d=0
   ·by_cases e2:fa=0
    ·have e3:¬(d.length:Int)<x.veh:=λe=>he ⟨e1,hfa ▸ e2,e⟩
     refine za (ze [(3,58),(7,62)] (zN e1 e2 e3 zH) ?_);exact zk rfl (zh (u5 (hJd _ _ hJ) rfl hfin))
    ·refine za (ze [(3,58),(7,62)] (zD e1 e2 zH) ?_);exact zk rfl (zh (u5 (hJd _ _ hJ) rfl hfin))
   ·refine za (ze [(3,58),(7,62)] (zo e1 zH) ?_);exact zk rfl (zh (u5 (hJd _ _ hJ) rfl hfin))
open Go Go.Proofs
theorem ZoZ(id v:Nat)(cs:List PV)(d:zn):(d.flatMap Enc.enc).map (qy id v cs)=(d.flatMap Enc.enc:List PV):=DZ
theorem Zo0(id v:Nat)(cs:List PV)(d:zn)(t:Nat)(p:PV):((d.flatMap Enc.enc).set t p).map (qy id v cs)=(d.flatMap Enc.enc:List PV).set t (qy id v cs p):=DZ
theorem Zgu:∀(d:zn) (t:Nat) (l:zK),(d.flatMap Enc.enc:List PV).set t (L l)=(d.set t l).flatMap Enc.enc
 | [],t,l=>rfl
 | m :: d,0,l=>rfl
 | m :: d,t+1,l=>by
  rw[AX,Ax,Ax,<-Zgu d t l];rfl
theorem Zo1{S:Store}{nx m:Nat}{obs:List Ob}(x y:Ob)(hm:m=nx+obs.length):((ext S nx obs).set (m+3) x).set (m+4) y=ext S nx (obs++[.dead,.dead,.dead,x,y]):=by
 subst hm;rw[Wh 3];have:=qV (S:=S) (nx:=nx) (obs:=obs++List.replicate 3 .dead++[x]) y
 grind
theorem Zo2(d:zn)(hd0:d.length<=1048576)(hd1:∀l∈d,l.length<=1048576)(S:Store)(nx:Nat)(hd:zS nx S):
  Spec prog 337 [.agg [L d]] S (λp S'=>∃v,p=.agg [.sl (nx+3) v 1 0 d.length]/\S'=S.set (nx+3) (.cells v 42 (d.flatMap Enc.enc))):=by
 refine(Zck d d.length hd0 hd1 DZ S nx hd).mono ?_;rintro _ _ ⟨v,ts,ob,⟨h1,h2,-⟩,rfl,rfl⟩;obtain⟨rfl,rfl⟩:=h2 (Ag _);rw[Ai];refine⟨v,rfl,?_⟩;funext o
 by_cases h4:o=nx+4
 ·subst h4;rw[q11,q10 _ _ _ _ DY,hd _ DY]
 simp_all[q10]
theorem Zo3(cs:List PV)(i:Nat)(p q:PV)(h:i<cs.length):yg (cs.set i p) i [q]=cs.set i q:=by
 unfold yg;rw[AF,if_pos h,AF,if_pos h];have hl:(cs.take i).length=i:=by rw[Ay];omega
 simp_all[CD]
theorem Zgv(id v sz k:Nat)(cs:List PV)(h:k*sz=cs.length):qy id v cs (.sl id v sz 0 k)=.lst k cs:=by simp[qy,h]
theorem Zcu{α β:Type}{f:β->α->β}{b:β}{l:List α}{i:Nat}{a:α}(h:l[i]?=some a):(l.take (i+1)).foldl f b=f ((l.take i).foldl f b) a:=by grind[List.take_succ_eq_append_getElem]
theorem Zo4{x:Inst}{d:zn}{s:Stop}{b:Spot}(h:b∈qn x d s)(hb:b.t≠d.length):∃l,d[b.t]?=some l/\0<l.length/\b.p<=l.length:=by
 obtain⟨-,-,-,-,h⟩:=Ww h;rcases h with ⟨l,hl,hi,ho,-⟩ | ⟨rfl,-⟩
 ·refine⟨l,hl,?_,hi⟩;have hself:zQ x l=0\/zQ x l=13:=by
   by_cases hf:zQ x l=13
   ·exact .inr hf
   ·rw[if_neg hf]at ho;exact .inl (Qq.1 DY l (Ab hl))
  have hst:jh x l=true:=by
   cases e:jh x l with
   | true=>rfl
   | false=>rw[Zcp e]at hself;rcases hself with h | h<;>cases h
  exact Cg.2 (Zaf hst)
 ·exact absurd rfl hb
theorem Zo5{x:Inst}{d:zn}{s:Stop}{b:Spot}(h:b∈qn x d s):b.t<=d.length:=by
 obtain⟨-,-,-,-,h⟩:=Ww h;rcases h with ⟨l,hl,-⟩ | ⟨rfl,-⟩
 ·exact DX (Ac.1 hl).1
 ·exact Ag _
theorem Zcv(x:Inst)(d:zn)(s:Stop)(hx:x.cust.length<=1048576)(hdo:DayOk d)(hf:d.flatten.length<=1000000):Pure prog 323 [.agg (zy x),.agg [L d],.agg [I s.c,I s.q]] (.tup [.agg [L (yL x d s).1],B (yL x d s).2]):=by
 have hit:=Zgt x d s hx hdo DY;have hsee:=ZfZ x d hx hdo DY;have hmem:=λh=>Zac (l:=qn x d s) h
 have hle:∀b∈qn x d s,b.t<=d.length:=λb hb=>Zo5 hb
 have htour:∀b∈qn x d s,b.t≠d.length->∃l,d[b.t]?=some l/\0<l.length/\b.p<=l.length:=λb hb=>Zo4 hb
 have hins:yL x d s=bif (Zx (qn x d s)).2 then (jO d (Zx (qn x d s)).1 s,true) else (d,false):=rfl
 have hsF:=ZfW (Zv x d) s rfl;rw[hins];clear hins;generalize qn x d s=xs at *;generalize hlk:Zv x d=lk at *;have hdn:=hdo.n;have hd1:∀l∈d,l.length<=1000000:=λl hl=>AD (YH hl).length_le hf
 refine zr func323 ntmps323 results323 λS nx hd=>?_
 refine D7 ?_;intro v0 v1 v2 v3;refine D7 ?_;intro v4 v5
 repeat apply za
 refine zz none (Row.pures [0,1,2,3,4] .done) mixed trivial ?_;refine zG (hsee) trivial ?_;refine zG (hsF) trivial ?_;refine zj (J1 (xs:=xs.map Zw) (σ:=Spot × Bool) (λi st=>st=(xs.take i).foldl YI (⟨0,0,0⟩,false)) [(3,.ptr nx v0 0),(4,.ptr (nx+1) v1 0),(5,.ptr (nx+2) v2 0),(6,.ptr (nx+3) v3 0),(8,.ptr (nx+4) v4 0),(9,.ptr (nx+5) v5 0)] (λ_=>S)
  (λ(b,found)=>[.cells v0 25 (zy x),.cells v1 39 [L d],.cells v2 100 [I s.c,I s.q],.cells v3 39 [yu],.cells v4 400 [I b.t,I b.p,I b.m],.cells v5 4 [B found]]) (⟨0,0,0⟩,false)
  hit rfl (by intro x hx;obtain⟨y,_,rfl⟩:=Am.1 hx;rfl) D4 DZ DZ rfl DZ DZ ?_ ?_)
 ·rintro l i ⟨b,found⟩ more y hst hy;simp only at hst ⊢;rw[Aj]at hy;obtain⟨p,hp,rfl⟩:=Ao.1 hy;have hsucc:=Zcu (f:=YI) (b:=(⟨0,0,0⟩,false)) hp;rw[<-hst]at hsucc;unfold YI at hsucc;simp only at hsucc;refine zb ?_;intro v6;refine zj ?_;cases found with
  | false =>
   rw[if_pos (.inl rfl)]at hsucc;refine za (ze [(2,21)] zH ?_);refine zm rfl (zb ?_);simp only[jL];exact wZ (p,true) [_] hsucc.symm rfl D0
  | true =>
   by_cases hm:p.m<b.m
   ·rw[if_pos (.inr hm)]at hsucc;refine za (ze [(2,21)] (zo hm zH) ?_);refine zm rfl (zb ?_);simp only[jL];exact wZ (p,true) [_] hsucc.symm rfl D0
   ·rw[if_neg (by simp[hm])]at hsucc;refine za (ze [(2,21)] (zo hm zH) ?_);refine zk rfl (zh ?_);simp only[jL];exact wZ (b,true) [_] hsucc.symm rfl D0
 ·rintro⟨b,found⟩ hst;simp only[List.length_map,Ai]at hst ⊢;have hbz:Zx xs=(b,found):=hst.symm;rw[hbz]at hmem ⊢;simp only at hmem ⊢;cases found with
  | false =>
   simp only[cond_false];refine D7 ?_;refine zt (Zoz d hdn (λl hl=>AD (hd1 l hl) D4)) ?_;refine za (zj (D7 ?_));refine zm rfl (D7 ?_);exact zg (zi hd D0 (by simp[zp]))
  | true =>
   have hb:=hmem rfl;have hbl:=hle b hb;simp only[cond_true]
   by_cases hbt:b.t=d.length
   ·have hpd:jO d b s=d++[[s]]:=by unfold jO;rw[if_pos hbt]
    rw[hpd];have hfl:(d.flatMap Enc.enc:List PV).length=d.length:=jW d;have htk:(d.flatMap Enc.enc:List PV).take d.length=d.flatMap Enc.enc:=Af DY;have hsn:((d++[[s]]).flatMap Enc.enc:List PV)=d.flatMap Enc.enc++[L [s]]:=by rw[Ap];rfl
    refine D7 ?_;refine λhsuf=>((Zo2 d hdn (λl hl=>AD (hd1 l hl) D4) _ _ jU).mono ?_).v
    rintro _ _ ⟨v7,rfl,rfl⟩;refine⟨_,_,Wh 3 _,jM [] Nat.add_assoc hsuf ?_⟩;generalize hds:(d.flatMap Enc.enc:List PV)=ds at *;refine za (zj (D7 ?_));refine zk rfl (D7 ?_);refine zm D2 ?_;refine zz (some [nx+2]) (Row.pures [0,2,3,4] (.alt 1 (.alt 5 (Row.pures [6] (.alt 7 (.done) .stop)) .stop) .stop)) mixed (zo hfl htk) ?_;refine zG (ZbY s) (zo hfl htk) ?_;refine⟨by omega,?_⟩;refine zX 9 rfl ?_;refine D7 ?_;exact zg (zi hd D0 (by simp[zp,hfl,hds]))
   ·obtain⟨l,hl,hl0,hp⟩:=htour b hb hbt;have hblt:b.t<d.length:=DY
    have hpd:jO d b s=d.set b.t (xh l b.p s):=by unfold jO;rw[if_neg hbt,Aa,hl];rfl
    have hl1:=hd1 l (Ab hl);rw[hpd];refine D7 ?_;refine λhsuf=>((ZoA d b.t l hdn (λl hl=>AD (hd1 l hl) D4) hl hl0 _ _ jU).mono ?_).v
    rintro _ _ ⟨v7,w7,rfl,rfl⟩;refine⟨_,_,Zo1 _ _ rfl,jM [] Nat.add_assoc hsuf ?_⟩;refine za (zj (D7 ?_));refine zk rfl (D7 ?_);refine zk D2 ?_;refine za (ze [] hblt ?_);refine zz (some [nx+4,nx+2]) (Row.pures [0,1,2,3,5,6,7,8] (.alt 4 (.alt 9 (Row.pures [10,11] (.alt 12 (.done) .stop)) .stop) .stop)) mixed hblt ?_
    skip
    refine((Zow l b.p s hp hl1 DZ).mono ?_).v;rintro _ _ ⟨rfl,rfl⟩;have hcl:((xh l b.p s).flatMap Enc.enc:List PV).length=(l.length+1)*2:=by
     have e:=(Wx l s b.p).length_eq;rw[Qj,e];simp
    have hLi:L (xh l b.p s)=.lst (l.length+1) ((xh l b.p s).flatMap Enc.enc):=by
     have e:=(Wx l s b.p).length_eq
     show PV.lst _ _=_
     rw[e];rfl
    rw[show l.take b.p++s :: l.drop b.p=xh l b.p s from rfl];generalize hcs:((xh l b.p s).flatMap Enc.enc:List PV)=cs at *;rw[yl _ DY DZ,AI];refine⟨by simp[yM],jD hblt ?_⟩;refine⟨by omega,?_⟩;rw[Zo3 _ _ _ _ (by rw[jW];exact hblt)];have e10:qy (nx+10) (w7+1) cs (.sl (nx+10) (w7+1) 2 0 (l.length+1))=L (xh l b.p s):=by
     rw[Zgv _ _ _ _ _ hcl.symm,hLi]
    have e9:qy (nx+9) v7 ((d.set b.t (xh l b.p s)).flatMap Enc.enc) (.sl (nx+9) v7 1 0 d.length)=L (d.set b.t (xh l b.p s)):=by
     rw[Zgv _ _ _ _ _ (by rw[jW];simp)]
     show _=PV.lst _ _
     rw[Bt]
    have n9:qy (nx+10) (w7+1) cs (.sl (nx+9) v7 1 0 d.length)=.sl (nx+9) v7 1 0 d.length:=by
     simp only[qy];rw[if_neg DY]
    refine zX 10 rfl ?_;simp only[Az,Bo,AX,Bc,xN,Zo0,e10,Zgu,n9];refine zX 9 rfl ?_;simp only[Az,Bo,AX,Bc,xN,e9];refine za (ze [] (zo e9 n9) ?_);exact zg (zi hd D0 (by simp[zp]))
open Go Go.Proofs
theorem Zgw{α:Type}(f:Nat->List α)(m:Nat):∀n,(∀t,t<n->(f t).length<=m)->((List.range n).flatMap f).length<=n*m
 | 0,_=>by simp
 | n+1,h=>by
  rw[AH,Ap,Ar];have h1:=Zgw f m n λt ht=>h t DY
  have h2:=h n DY;simp only[Ax,B9,AC];rw[Nat.add_mul,DP];omega
theorem Zo6{d:zn}(h1:d.length<=1000000)(h2:d.flatten.length<=1000000):(Qr d).length<=1000001*1000001:=by
 unfold Qr;refine AD (Zgw _ 1000001 _ λt _=>?_) (Cn _ DY);rw[List.length_map,List.length_range,Aa];cases hq:d[t]? with
 | none=>simp
 | some l =>
  have:=(YH (Ab hq)).length_le;simp only[Option.getD_some];omega
theorem Zo7{x:Inst}{d:zn}{s:Stop}(hd:yr x d=0)(h1:d.length<=1000000)(h2:d.flatten.length<=1000000):(qn x d s).length<=1000001*1000001:=by
 rw[ZoO hd];exact AD (CG _ _) (Zo6 h1 h2)
theorem Zo8(cs:List PV)(v:PV)(h:0<cs.length):yg cs (cs.length-1) [v]=cs.set (cs.length-1) v:=by
 unfold yg;rw[AF,if_pos DY];simp
theorem Zgx:∀(l:List Int) (k:Nat) (v:Int),(l.flatMap Enc.enc:List PV).set k (I v)=(l.set k v).flatMap Enc.enc
 | [],k,v=>rfl
 | a :: l,0,v=>rfl
 | a :: l,k+1,v=>by
  rw[AX,Ax,Ax,<-Zgx l k v];rfl
theorem Zo9(st:List Int × Int)(p:Spot):(vp st p).1.length<=st.1.length+1:=by
 unfold vp;split<;>simp
def Zcw(st:List Int × Int):Prop:=st.2=-1\/0<st.1.length
theorem Zpa{st:List Int × Int}(h:Zcw st)(p:Spot):Zcw (vp st p):=by
 unfold vp;split
 ·exact .inr DZ
 ·rename_i e;rcases h with h | h
  ·exfalso;simp only[ne_eq]at e;omega
  ·exact .inr (by simpa using h)
theorem Zpb(x:Inst)(d:zn)(s:Stop)(hx:x.cust.length<=1048576)(hdo:DayOk d)(h0:yr x d=0)(h1:d.length<=1000000)(h2:d.flatten.length<=1000000):Pure prog 351 [.agg (Zv x d),.agg [I s.c,I s.q]] (L (Xe x d s)):=by
 have hit:=Zgt x d s hx hdo DY;have hfold:=ZoT (s:=s) h0;have hlen:=Zo7 (s:=s) h0 h1 h2;have hml:=ZoU x d s (d.length+1);have hsF:=ZfW (Zv x d) s rfl;unfold Xe;rw[<-hfold]at hml ⊢;clear hfold;generalize qn x d s=xs at *;obtain⟨on,tw,fs,bd,ls,ws,hlk⟩:∃on tw fs bd ls ws,Zv x d=uM x d on tw fs bd ls ws:=⟨_,_,_,_,_,_,rfl⟩;rw[hlk]at hit hsF ⊢;clear hlk;refine zr func351 ntmps351 results351 λS nx hd=>?_
 refine D7 ?_;intro v0 v1;refine D7 ?_;intro v2;refine D7 ?_;intro v3
 repeat apply za
 refine zb ?_;refine zt hsF ?_;refine je 2 0 3 1 rfl rfl λv4=>?_
 refine zj (J1 (xs:=xs.map Zw) (σ:=(List Int × Int) × Nat) (λi st=>st.1=(xs.take i).foldl vp ([],-1)/\Zcw st.1/\st.1.1.length<=i/\i<=xs.length) [(2,.ptr nx v0 0),(3,.ptr (nx+1) v1 0),(5,.ptr (nx+2) v2 0),(6,.ptr (nx+3) v3 0)] (λ_=>S)
  (λ((l,last),v4)=>[.cells v0 395 (uM x d on tw fs bd ls ws),.cells v1 100 [I s.c,I s.q],.cells v2 26 [.sl (nx+4) v4 1 0 l.length],.cells v3 3 [I last],.cells v4 3 (l.flatMap Enc.enc)]) (([],-1),v4)
  hit rfl (by intro x hx;obtain⟨y,_,rfl⟩:=Am.1 hx;rfl) D4 DZ ⟨rfl,.inl rfl,by simp,by simp⟩ rfl DZ DZ ?_ ?_)
 ·rintro lp i ⟨⟨l,last⟩,v4⟩ more y ⟨hst,hok,hli,hi⟩ hy;simp only at hst hok hli hi ⊢;rw[Aj]at hy;obtain⟨p,hp,rfl⟩:=Ao.1 hy;have hsucc:=Zcu (f:=vp) (b:=([],-1)) hp;rw[<-hst]at hsucc;have hok2:=Zpa hok p;have hln2:=Zo9 (l,last) p;simp only at hln2;have hil:=(Ac.1 hp).1;have hdef:vp (l,last) p=vp (l,last) p:=rfl
  conv at hdef=>rhs;unfold vp
  simp only at hdef;have hlf:(l.flatMap Enc.enc:List PV).length=l.length:=jf l;have hlt:(l.flatMap Enc.enc:List PV).take l.length=l.flatMap Enc.enc:=Af DY;refine zb ?_;intro v5;refine zj ?_
  repeat apply za
  refine zb ?_
  by_cases hpl:(p.t:Int)=last
  ·have hl0:0<l.length:=by
    rcases hok with e | e
    ·simp only at e;omega
    ·exact e
   obtain⟨m,hm⟩:∃m,l.length=m+1:=⟨l.length-1,by omega⟩;obtain⟨z,tz,z1,z2,z3,z0⟩:=zF rfl l m DY;rw[if_neg (by simp[hpl])]at hdef;have hgz:l.getD (l.length-1) 0=z:=by rw[hm,B5,Aa,z1];rfl
   rw[hgz]at hdef;have wm:IntKind.i64.wrap ((l.length:Int)-1)=(m:Int):=by rw[wr _ DY DY];omega
   have hml1:m<l.length:=DY
   have hml2:1<=l.length-m:=DY
   have hsp:=Zo8 (l.flatMap Enc.enc) (I (if p.m<z then p.m else z)) DY;rw[hlf,Zgx]at hsp;have hmin:xv z p.m=if p.m<z then p.m else z:=rfl
   refine zk (by simp[hpl]) ?_;refine zh ?_;rw[show l.length-1=m by omega]at hsp;refine zz (some [nx+2,nx+(more.length+5)]) (Row.pures [0,1,2,3,4,5,6,7,8,10,11] (.alt 9 (Row.pures [12,13] (.alt 14 (.done) .stop)) .stop)) mixed (yd wm hml1 hml2 z0 hmin hlf) ?_;refine⟨by omega,?_⟩;simp only[jL];rw[hm,B5]at hdef;rw[hdef]at hsucc hok2;refine wZ ((l.set m (if p.m<z then p.m else z),last),v4) [_] ⟨hsucc.symm,hok2,by simp;omega,by omega⟩ rfl (by simp[hsp];rfl)
  ·rw[if_pos hpl]at hdef;rw[hdef]at hsucc hok2 hln2;have w0:IntKind.i64.wrap (l.length:Int)=(l.length:Int):=wr _ DY DY;have w2:(l.length:Int)<(l.length:Int)+1:=DY
   have hmin:xv p.m p.m=p.m:=by unfold xv;split<;>rfl
   have hat:(l.flatMap Enc.enc++[I p.m]:List PV)[l.length]?=some (I p.m):=by rw[Al DY,hlf,Bv];rfl
   have hdl:(l.flatMap Enc.enc++[I p.m]:List PV).drop l.length=[I p.m]:=by rw[<-hlf,List.drop_left]
   have hspl:yg (l.flatMap Enc.enc++[I p.m]:List PV) l.length [I p.m]=l.flatMap Enc.enc++[I p.m]:=by
    unfold yg;rw[<-hlf,List.take_left,AZ DZ];simp
   refine zm (by simp[hpl]) ?_;refine zz (some [nx+(more.length+5)]) (Row.pures [1,2,3,5,6] (.alt 0 (.alt 4 (.alt 7 (.alt 8 (.done) .stop) .stop) .stop) .stop)) mixed (zo hlf hlt) ?_;refine⟨by omega,?_⟩;refine zz (some [nx+2,nx+(more.length+5)]) (Row.pures [0,1,2,3,4,5,6,7,8,10,11] (.alt 9 (Row.pures [12,13] (.alt 14 (.done) .stop)) .stop)) mixed (yF w0 w2 hmin hat hlf) ?_;simp only[jL];refine wZ ((l++[p.m],(p.t:Int)),v4+1) [_] ⟨hsucc.symm,hok2,by simp;omega,by omega⟩ rfl (by simp[hspl];rfl)
 ·rintro⟨⟨l,last⟩,v4⟩ ⟨hst,-⟩;simp only[List.length_map,Ai]at hst ⊢;rw[<-hst]at hml ⊢;simp only at hml ⊢;have hz4:=Qk l;refine D7 ?_;refine λhsuf=>((VY l DZ DY).mono ?_).v
  rintro _ _ rfl;refine⟨_,_,yl _ DY DZ,jM [] (show nx+4-nx=4 by omega) hsuf ?_⟩;generalize yU l=c at *;rw[<-hz4];refine zX 4 rfl ?_;refine D7 ?_;exact D8 hd
open Go Go.Proofs Go.Shelf Go.RowKit Go.Lib
theorem Zpc{P:Program}(b o:Nat)(vs:List Value)(w:World)(cur:Array Value)(t:TypeId)(hw:w.heap[b]?=some (.cells cur t (0,0)))(hl:o+vs.length<=cur.size)(h1:∀v∈vs,v.oneCell'=true):
  w.setCells b o vs=w.setRow b (cur.toList.take o++vs++cur.toList.drop (o+vs.length)).toArray:=by
 have a:=run_storeCells_cells (P:=P) b o vs 0 w (λj hj=>by simp[World.cell?,hw];omega) (λj _=>by simp[World.frozen?,hw]) h1;have c:=run_storeCells_at (P:=P) b o t vs 0 cur w hw (by simpa using hl) h1;rw[a]at c;simpa using c
theorem Zpd(zc:Array Value):(Builtin.zeroCells zc 1).toList=zc.toList:=by
 apply Bd
 ·simp[Builtin.zeroCells]
 ·intro i h1 h2;simp[Builtin.zeroCells,Dx (show i<zc.size by simpa using h2)];exact getElem!_pos zc i (by simpa using h2)
theorem Zpe{P:Program}(w:World)(t e ty:TypeId)(zc:Array Value)(ht:P.underlying t=some (.slice e))(hv:∀w,(zeroValue e).run P w=.ok (.agg zc) w)(h1:∀v∈zc.toList,v.oneCell'=true)(b o c:Nat)(cur:Array Value)(t':TypeId)(hw:w.heap[b]?=some (.cells cur t' (0,0)))(hl:o+zc.size<=cur.size):
  (Builtin.clear_ #[t] ty #[.slice (some ⟨b,o,none⟩) 1 c]).run P w=.ok (.tuple #[]) (w.setRow b (cur.toList.take o++zc.toList++cur.toList.drop (o+zc.size)).toArray):=by
 have c:=run_storeCells_at (P:=P) b o t' zc.toList 0 cur w hw (by simpa using hl) h1;simp only[BF,Array.length_toList]at c;simp[Builtin.clear_,run_underlying ht,hv,Zpd,c]
theorem Zpf(b n c i:Nat)(V:List Value)(w:World)(i0:TypeInfo)(hi0:prog.info? 100=some i0)(hzs:i0.size=2)(cur:Array Value)(hcur:w.heap[b]?=some (.cells cur 100 (0,0)))(hcc:cur.size=c*2)
  (hi:i<n) (hnc:n<=c) (hc63:c<=9223372036854775807) (hn:n<=1048576) (hV:V.length=n*2) (hcV:cur.toList.take (n*2)=V) (h1:∀v∈V,v.oneCell'=true) (R1 R2:Array Value)
  (hR1:R1=(cur.toList.take (i*2)++V.drop ((i+1)*2)++cur.toList.drop (i*2+(V.drop ((i+1)*2)).length)).toArray) (hR2:R2=(R1.toList.take ((i+(n-(i+1)))*2)++([.int .i64 0,.int .i64 0]:List Value)++R1.toList.drop ((i+(n-(i+1)))*2+2)).toArray) :
  Calls prog 335 #[.slice (some ⟨b,0,none⟩) n c,.int .i64 i,.int .i64 ((i:Int)+1)] w λe w' =>
   e=.returned (.slice (some ⟨b,0,none⟩) (i+(n-(i+1))) c)/\w'=(w.drew.setRow b R1).setRow b R2:=by
 obtain⟨news,hnews⟩:∃news,news=V.drop ((i+1)*2):=⟨_,rfl⟩;have hlen:news.length=(n-(i+1))*2:=by rw[hnews,Bs,hV];omega
 have hget:∀t u,news[t]?=some u->w.drew.cell? ⟨b,(i+1)*2+t,none⟩=some u:=by
  intro t u hu;rw[hnews,AR,<-hcV,BK]at hu;split at hu
  ·rw[Array.getElem?_toList]at hu
   show w.cell? _=_
   simp[World.cell?,hcur,hu]
  ·cases hu
 obtain⟨A,hA,hsrc⟩:∃A:Addr,(if c=i+1 then some (⟨b,0,none⟩:Addr) else some ⟨b,(i+1)*2,none⟩)=some A/\Hid (∀t u,news[t]?=some u->w.drew.cell? (A.add t)=some u):=by
  by_cases h:c=i+1
  ·refine⟨⟨b,0,none⟩,by simp[h],λt u hu=>?_⟩;have h0:news.length=0:=by rw[hlen];omega
   rw[Ct.1 h0]at hu;simp at hu
  ·refine⟨⟨b,(i+1)*2,none⟩,by simp[h],λt u hu=>?_⟩;rw[Addr.add_lit];exact hget t u hu
 have s1:Hid (news.length=(n-(i+1))*2):=hlen;have s2:Hid (∀u∈news,u.oneCell'=true):=λu hu=>h1 u (by rw[hnews]at hu;exact Ca hu)
 have s3:Hid (∀t,t<news.length->(w.drew.cell? ⟨b,0+i*2+t,none⟩).isSome=true/\w.drew.frozen? ⟨b,0+i*2+t,none⟩=false):=by
  intro t ht;rw[hlen]at ht;refine⟨?_,?_⟩
  ·show (w.cell? _).isSome=true
   simp[World.cell?,hcur];omega
  ·show w.frozen? _=false
   simp[World.frozen?,hcur]
 obtain⟨W1,hW1⟩:∃W1,W1=w.drew.setCells b (0+i*2) news:=⟨_,rfl⟩;have hW1':W1=w.drew.setRow b R1:=by
  rw[hW1,Zpc (P:=prog) b (0+i*2) news w.drew cur 100 hcur (by rw[hlen,hcc];omega) s2,hR1,hnews,AQ]
 have hW1h:W1.heap[b]?=some (.cells R1 100 (0,0)):=by rw[hW1'];exact setRow_heap _ _ _ _ _ _ hcur
 have hR1s:R1.size=c*2:=by rw[hR1,<-hnews];simp[hlen];omega
 have hcl:∀ty,(Builtin.clear_ #[40] ty #[.slice (some ⟨b,(i+(n-(i+1)))*2,none⟩) (n-(i+(n-(i+1)))) (c-(i+(n-(i+1))))]).run prog W1=.ok (.tuple #[]) (W1.setRow b R2):=λty=>by
  have:=Zpe (P:=prog) W1 40 100 ty #[.int .i64 0,.int .i64 0] underlying40 zeroValue100 (by intro v hv;simp at hv;rcases hv with rfl | rfl<;>rfl) b ((i+(n-(i+1)))*2) (c-(i+(n-(i+1)))) R1 100 hW1h D2;rw[show n-(i+(n-(i+1)))=1 by omega,this,hR2];simp
 have hW:Hid (W1=w.drew.setCells b (0+i*2) news):=hW1;have hX:Hid (W1=w.drew.setRow b R1):=hW1';clear hW1 hW1' hW1h hR1 hR2 hR1s hcur hcV hget hnews hlen h1 hV hcc;have hic:i<=c:=DY
 have hjc:i+1<=c:=DY
 have hin:i<=n:=DY
 have hjn:i+1<=n:=DY
 have hne:¬(i:Int)=(i:Int)+1:=DY
 have hb1:(0:Int)<=(i:Int)+1:=DY
 have htn:((i:Int)+1).toNat=i+1:=DY
 have hb2:(i:Int)+1<=(n:Int):=DY
 have hb3:(i:Int)<=(i:Int)+1:=DY
 have hcn:¬c=i+(n-(i+1)):=DY
 have hnn:i+(n-(i+1))<=n:=DY
 have mixed:prog.follows .mixedOrders=true:=D1
 go_enter func335,ntmps335
 go_wp2_with fail
 go_region_law_o (refine step_append_room rfl (.tmp 22) (.tmp 25) 40 rfl 100 i0 2 underlying40 hi0 hzs b 0 i c (by simp[Act.eval,Act.put]) A (n-(i+1)) (c-(i+1)) news (by simp[Act.eval,Act.put]) s1.out hsrc.out s2.out DY s3.out ?_;rw[<-hW.out])
 go_wp2
 go_ret
 exact⟨rfl,by rw[hX.out]⟩
theorem Zpg(l:List Stop)(i:Nat)(h:i<l.length):yq (l.eraseIdx i)=(yq l).take (i*2)++(yq l).drop ((i+1)*2):=by
 rw[CR,ZbU,Zfg l i DY,Zfh l (i+1) DY]
theorem Zph{S:Store}{id ver:Nat}(cs:List Stop)(i:Nat)(hi:i<cs.length)(hn:cs.length<=1000000)(hid:S id=.cells ver 100 (cs.flatMap Enc.enc)):
  Spec prog 335 [.sl id ver 2 0 cs.length,I i,I ((i:Int)+1)] S (λp S'=>p=.sl id (ver+1) 2 0 (cs.eraseIdx i).length/\S'=S.set id (.cells (ver+1) 100 ((cs.eraseIdx i).flatMap Enc.enc))):=by
 refine⟨qm func335 D3 rfl,?_⟩;intro C w vs hS hl hr;obtain⟨u,v,x,rfl⟩:=Zfi hl;obtain rfl:=Jb (hr 1 _ v rfl rfl);obtain rfl:=Jb (hr 2 _ x rfl rfl);have hu:=hr 0 _ u rfl rfl;have hvl:(yq cs).length=cs.length*2:=J6 cs;have hel:(cs.eraseIdx i).length=i+(cs.length-(i+1)):=by rw[BU hi];omega
 have hnew:=Zpg cs i hi;have hnl:(yq (cs.eraseIdx i)).length=(i+(cs.length-(i+1)))*2:=by rw[J6,hel]
 rw[Zff]at hid ⊢;rw[hel];generalize cs.eraseIdx i=es at *;obtain⟨i0,hi0⟩:=B4.1 ZbM;have hc:=ZbL;simp only[Program.cellsOf,hi0,A3,Option.getD_some]at hc;cases hu with
 | sl h1 h2 h3 =>
  obtain⟨ad,cap,rfl,q1,q2,q3,q4⟩:=h1;have hloc:=(h3 ver (by rw[hid];rfl)).2 rfl;rcases hS.cells id ver _ _ hid with ⟨hno,hnil⟩ | ⟨b,k,c,g1,g2,g3,g4,g5,g6⟩
  ·have:=congrArg List.length hnil;simp[hvl]at this;exfalso;omega
  rcases hloc with ⟨z1,_⟩ | ⟨b',k',ad',cap',z1,z2,z3,z4⟩
  ·rw[g1]at z1;cases z1
  rw[g1]at z1;cases z1;cases z2;obtain⟨rfl,hcap⟩:=z3 rfl;rw[List.length_map,hvl]at g4;have hcells:∀(j:Nat) v,(yq cs)[j]?=some v->c[j]?=some v:=by
   intro j v hj;have hjl:=(Ac.1 hj).1;have e2:c[j]?=some c[j]:=A5 DY;have:=g6 j (.sc v) _ (by rw[Aj,hj];rfl) e2;rw[e2];generalize c[j]=y at this;cases this;rfl
  have hcur:c.toList.take (cs.length*2)=yq cs:=by
   apply AY;intro j
   by_cases hj:j<cs.length*2
   ·rw[AM hj,Array.getElem?_toList];have e:(yq cs)[j]?=some (yq cs)[j]:=Ae DY;rw[e,hcells j _ e]
   ·rw[Ak D2,Ak DY]
  have hcsz:c.size=cap*2:=g3.trans hcap.symm;have hdl:((yq cs).drop ((i+1)*2)).length=(cs.length-(i+1))*2:=by rw[Bs,hvl];omega
  obtain⟨R1,hR1⟩:∃R1:Array Value,R1=(c.toList.take (i*2)++(yq cs).drop ((i+1)*2)++c.toList.drop (i*2+((yq cs).drop ((i+1)*2)).length)).toArray:=⟨_,rfl⟩;obtain⟨R2,hR2⟩:∃R2:Array Value,R2=(R1.toList.take ((i+(cs.length-(i+1)))*2)++([.int .i64 0,.int .i64 0]:List Value)++R1.toList.drop ((i+(cs.length-(i+1)))*2+2)).toArray:=⟨_,rfl⟩;have htk:c.toList.take (i*2)=(yq cs).take (i*2):=by rw[<-hcur,Dl,Bk DY]
  have hR1l:R1.toList.take ((i+(cs.length-(i+1)))*2)=yq es:=by
   rw[hR1];simp only[];rw[htk,<-hnew,<-hnl,List.take_left]
  have hR1s:R1.size=cap*2:=by rw[hR1];simp[hdl];omega
  have hR2l:R2.toList=yq es++(([.int .i64 0,.int .i64 0]:List Value)++R1.toList.drop ((i+(cs.length-(i+1)))*2+2)):=by
   rw[hR2,hR1l];simp
  have hR2s:R2.size=cap*2:=by
   rw[<-Array.length_toList,hR2l];simp[hnl,hR1s];omega
  refine(Zpf b cs.length cap i (yq cs) w i0 hi0 hc c g2 hcsz hi q1 (by unfold maxLen at q3;omega) DY hvl hcur (J7 cs) R1 R2 hR1 hR2).mono ?_;rintro e w' ⟨rfl,rfl⟩;obtain⟨r1,r2⟩:=ZbV (C:=C) (S:=S) (w:=w) hR2l (J7 _);have hb1:=setRow_heap w.drew b c R1 _ _ g2;obtain⟨t1,t2⟩:=hS.turn (l:=some (b,cap*2)) (ver':=ver+1) (cs':=(yq es).map .sc) hid DY (λh=>absurd h DY) (w':=(w.drew.setRow b R1).setRow b R2)
   (by
    rw[g1];refine⟨⟨rfl,rfl,rfl,by simp[World.setRow],λj hj hne=>?_⟩,CN _⟩;have hjb:j≠b:=λe=>hne (by rw[e];rfl)
    rw[setRow_other _ _ _ _ hjb,setRow_other _ _ _ _ hjb];rfl)
   (.inr ⟨b,cap*2,R2,rfl,.inr (by rw[g1];rfl),setRow_heap _ _ _ _ _ _ hb1,hR2s,by rw[List.length_map,hnl];omega,r1,r2⟩)
  refine⟨_,_,_,_,rfl,⟨rfl,rfl⟩,?_,t1,t2⟩;refine .sl ⟨_,_,rfl,by omega,by unfold j8;omega,q3,λ_=>⟨_,_,rfl⟩⟩ ⟨h2.1,by simp only[Ctx.at];omega⟩ λv0 hv0=>?_
  rw[q11]at hv0;cases hv0;exact⟨Ag _,λ_=>.inr ⟨b,_,_,_,by simp[Ctx.at],rfl,λ_=>⟨rfl,rfl⟩,λ_=>rfl⟩⟩
open Go Go.Proofs
def Jm(c:Int)(l:List Stop):Int:=((l.filter λs=>decide (s.c=c)).map (·.q)).sum
theorem Zpi(c:Int)(d:zn):Zgc c d=W (Jm c d.flatten):=rfl
theorem Zpj(c:Int)(l:List Stop)(s:Stop):Jm c (l++[s])=Jm c l+if s.c=c then s.q else 0:=by
 unfold Jm;rw[Bu,List.map_append,Dc]
 by_cases h:s.c=c<;>simp[h]
theorem Zpk(c:Int)(l:List Stop)(s:Stop):x9 c (l++[s])=x9 c l++if s.c=c then [] else [s]:=by
 unfold x9;rw[Bu]
 by_cases h:s.c=c<;>simp[h]
theorem Zpl(c:Int)(d:zn)(t:zK):jP c (d++[t])=jP c d++if (x9 c t).length=0 then [] else [x9 c t]:=by
 rw[ZoK];congr 1;unfold jP;rw[Az,Bo];generalize x9 c t=u;cases u<;>simp
theorem Zcx(c:Int)(t:zK):(x9 c t).length<=t.length:=BI _ _
theorem Zgy(c:Int)(d:zn):(jP c d).length<=d.length:=by
 unfold jP;exact AD (BI _ _) DZ
theorem Zpm(d:zn)(c:Int)(hdn:d.length<=1048576)(hdt:∀t∈d,t.length<=1048576):Pure prog 321 [.agg [L d],I c] (.tup [.agg [L (jP c d)],I (Zgc c d)]):=by
 rw[Zpi];refine zr func321 ntmps321 results321 λS nx hd=>?_
 refine D7 ?_;intro v0 v1;refine D7 ?_;intro v2;refine je 2 0 42 1 rfl rfl λv3=>?_
 refine D7 ?_
 repeat apply za
 refine zb ?_;refine zj (zC (λ(s:Nat × Nat)=>s.1<=d.length) (λ(k,v3)=>[(1,I c),(4,.ptr (nx+1) v1 0),(6,.ptr (nx+2) v2 0),(7,I (W (Jm c (d.take k).flatten))),(14,L d),(15,I d.length),(16,I k)]) (λ(k,v3)=>[.cells v0 39 [L d],.cells v1 39 [yu],.cells v2 39 [.sl (nx+3) v3 1 0 (jP c (d.take k)).length],.cells v3 42 ((jP c (d.take k)).flatMap Enc.enc)]) (λs=>d.length-s.1) (0,v3) [] DZ (by simp[Jm]) (by simp[jP]) ?_);rintro⟨k,v3⟩ hk;simp only at hk ⊢;refine D7 ?_;refine za (zv rfl (λhc=>?_) (λhc=>?_))
 ·simp at hc;obtain⟨t,tl,a1,a2,a3,e0⟩:=zF rfl d k hc;have hk1:1<=d.length-k:=DY
  have htm:=Ab a1;have htn:=hdt t htm;have hrd:=Zpl c (d.take k) t;rw[<-a3]at hrd;have hfl:(d.take (k+1)).flatten=(d.take k).flatten++t:=by rw[a3,List.flatten_append];simp
  generalize (d.take k).flatten=pre at *;have hrl:(jP c (d.take k)).length<=1048576:=AD (Zgy _ _) (by rw[Ay];omega);refine zh (za (zj ?_));generalize hrk:jP c (d.take k)=rk at *;have hfz:∀id v cs,(rk.flatMap Enc.enc).map (qy id v cs)=(rk.flatMap Enc.enc:List PV):=λid v cs=>ZoZ id v cs rk
  have hrf:(rk.flatMap Enc.enc:List PV).length=rk.length:=jW rk;have hrt:(rk.flatMap Enc.enc:List PV).take rk.length=rk.flatMap Enc.enc:=Af DY;refine za (ze [] (zD hc e0 hk1) ?_);intro v4;refine D7 ?_;refine qx 10 100 2 rfl λv5=>?_
  repeat apply za
  refine zb ?_;refine zj (zC (λ(s:Nat × Nat)=>s.1<=t.length) (λ(j,v5)=>[(1,I c),(4,.ptr (nx+1) v1 0),(6,.ptr (nx+2) v2 0),(7,I (W (Jm c (pre++t.take j)))),(10,.sl (nx+5) v5 2 0 (x9 c (t.take j)).length),(14,L d),(15,I d.length),(16,I k),(21,L t),(22,I t.length),(23,I j)]) (λ(j,v5)=>[.cells v0 39 [L d],.cells v1 39 [yu],.cells v2 39 [.sl (nx+3) v3 1 0 rk.length],.cells v3 42 (rk.flatMap Enc.enc),.cells v4 42 [L t],.cells v5 100 ((x9 c (t.take j)).flatMap Enc.enc)]) (λs=>t.length-s.1) (0,v5) [] DZ (by simp[x9]) (by simp[x9]) ?_);rintro⟨j,v5⟩ hj;simp only at hj ⊢;refine D7 ?_;refine za (zv rfl (λhcj=>?_) (λhcj=>?_))
  ·simp at hcj;obtain⟨s,ts,b1,b2,b3,b4,b5⟩:=el 2 rfl t j hcj;have hj2:2<=t.length*2-j*2:=DY
   have hsum:=Zpj c (pre++t.take j) s;rw[List.append_assoc,<-b3]at hsum;have hrs:=Zpk c (t.take j) s;rw[<-b3]at hrs;have hul:(x9 c (t.take j)).length<=1048576:=AD (Zcx _ _) (by rw[Ay];omega);generalize x9 c (t.take j)=u at *;have huf:(u.flatMap Enc.enc:List PV).length=u.length*2:=Qj u;have hut:(u.flatMap Enc.enc:List PV).take (u.length*2)=u.flatMap Enc.enc:=Af DY;refine zh (za (zj (za (ze [] (zD hcj b5 hj2) ?_))));intro v6;refine D7 ?_;refine zv rfl (λhq=>?_) (λhq=>?_)
   ·simp at hq;rw[if_pos hq]at hsum hrs;rw[AC]at hrs;refine zb ?_;refine zb ?_;exact zq (j+1,v5) [_] D2 D2 (by simp[zu j (by omega),hsum,vK,hrs]) rfl (by simp[hrs];rfl)
   ·simp at hq;rw[if_neg hq]at hsum hrs;rw[CZ]at hsum;have hul':((x9 c (t.take (j+1))).flatMap Enc.enc:List PV)=u.flatMap Enc.enc++[I s.c,I s.q]:=by rw[hrs,Ap];rfl
    refine ze [] (zo huf hut) ?_;refine⟨by omega,?_⟩;refine zb ?_;exact zq (j+1,v5+1) [_] D2 D2 (by simp[zu j (by omega),hsum,hrs]) rfl (by simp[hul'];rfl)
  ·simp at hcj;obtain rfl:j=t.length:=DY
   refine zx ?_;rw[Ai];have hul:(x9 c t).length<=1048576:=AD (Zcx _ _) htn;generalize x9 c t=u at *;have huf:(u.flatMap Enc.enc:List PV).length=u.length*2:=Qj u;refine zX 5 rfl ?_;simp only[Az,Bo,AX,Bc,xN,hfz];refine D7 ?_;refine zv rfl (λhq=>?_) (λhq=>?_)
   ·simp at hq;rw[if_neg DY]at hrd;have hrl':((rk++[u]).flatMap Enc.enc:List PV)=rk.flatMap Enc.enc++[L u]:=by rw[Ap];rfl
    refine ze [] (zo hrf hrt) ?_;refine⟨by omega,?_⟩;refine zb ?_;exact zq (k+1,v3+1) [_,_] D2 D2 (by simp[zu k (by omega),hfl]) rfl (by simp[hrd,hrl'];exact⟨rfl,rfl⟩)
   ·simp at hq;rw[if_pos (by rw[hq];rfl),AC]at hrd;refine zh (zb ?_);exact zq (k+1,v3) [_,_] D2 D2 (by simp[zu k (by omega),hfl]) rfl (by simp[hrd];exact⟨rfl,rfl⟩)
 ·simp at hc;obtain rfl:k=d.length:=DY
  refine zx (zX 3 rfl ?_);have g1:d.take d.length=d:=Ai;refine D7 ?_;exact zg (zi hd D0 (by simp[zp,g1]))
open Go Hp
theorem Zpn{x:Inst}(h:∀row∈x.dist,∀d∈row,0<=d/\d<=2147483648):qX x:=by
 intro a b;unfold arc;split
 ·omega
 ·rw[Aa,Aa];cases hr:x.dist[a.toNat]? with
  | none=>simp
  | some row =>
   simp only[Option.getD_some];cases hd:row[b.toNat]? with
   | none=>simp
   | some d=>exact h row (Ab hr) d (Ab hd)
open Go Go.Proofs
theorem Xf{α:Type}{a b:List α}{k:Nat}{x y:α}(hx:a[k]?=some x)(hy:b[k]?=some y)(h:x≠y):a≠b:=by
 rintro rfl;rw[hx]at hy;cases hy;exact h rfl
theorem Zgz{x:Inst}{d:zn}{s:Stop}(hx:x.cust.length<=1048576)(hdo:DayOk d)(hd1:d.length<=1000000)(hf:d.flatten.length<=1000000):DayOk (yL x d s).1:=by
 unfold yL;cases hb:(Zx (qn x d s)).2 with
 | false=>exact hdo
 | true =>
  have hm:=Zac hb;have hp:=Zco hm;have hs:=Zgs hx (Ww hm).1;simp only[cond_true];have hfl:(jO d (Zx (qn x d s)).1 s).flatten.length<=1000001:=by rw[hp.length_eq,Ad];omega
  refine⟨?_,λt ht=>?_,λt ht a ha=>?_⟩
  ·unfold jO;split
   ·simp;omega
   ·simp;omega
  ·have:=(YH ht).length_le;omega
  ·have:=hp.subset ((YH ht).subset ha);rw[As]at this;rcases this with rfl | h
   ·exact hs
   ·obtain⟨u,hu,hau⟩:=BO.1 h;exact hdo.s u hu a hau
open Go Go.Proofs
def Zy(l:List Int):Int:=if 1<l.length then W (l.getD 1 0-l.getD 0 0) else 1099511627776
def um(c:Stop->List Int):List Stop->Nat->Int->Int->Int
 | [],_,place,_=>place
 | s :: l,i,place,most=>if (c s).length=0 then (i:Int) else if place<0\/most<Zy (c s) then um c l (i+1) (i:Int) (Zy (c s)) else um c l (i+1) place most
def Z5(x:Inst)(d:zn)(l:List Stop):Int:=um (Xe x d) l 0 (-1) 0
theorem Zcy(c:Stop->List Int):∀(l:List Stop) (i:Nat) (place most:Int),(l≠[]\/0<=place)->place<i->0<=um c l i place most/\um c l i place most<(i+l.length:Nat)
 | [],i,place,most,h,hp=>by
  rcases h with h | h
  ·exact absurd rfl h
  ·simp only[um,Ah];omega
 | s :: l,i,place,most,_,hp=>by
  unfold um;split
  ·simp only[Ad];omega
  ·split
   ·have:=Zcy c l (i+1) i (Zy (c s)) (.inr DY) DY;simp only[Ad];omega
   ·rename_i hc;have:=Zcy c l (i+1) place most (.inr DY) DY;simp only[Ad];omega
theorem ZgA{x:Inst}{d:zn}{l:List Stop}(h:l≠[]):∃k:Nat,Z5 x d l=k/\k<l.length:=by
 have:=Zcy (Xe x d) l 0 (-1) 0 (.inl h) DY;exact⟨(Z5 x d l).toNat,by unfold Z5;omega,by unfold Z5;omega⟩
def un(x:Inst):Nat->zn->List Stop->zn × Bool
 | 0,d,_=>(d,true)
 | n+1,d,l=>bif (yL x d (l.getD (Z5 x d l).toNat default)).2 then un x n (yL x d (l.getD (Z5 x d l).toNat default)).1 (l.eraseIdx (Z5 x d l).toNat) else (d,false)
def jq(x:Inst)(l:List Stop):zn × Bool:=un x l.length [] l
structure RgOk (x:Inst) (d:zn) (l:List Stop):Prop where
 ok:DayOk d
 may:yr x d=0
 len:d.flatten.length+l.length<=1000
theorem RgOk.dl{x:Inst}{d:zn}{l:List Stop}(h:RgOk x d l):d.length<=1000:=by
 have h1:=Zab d (Zgo h.may);have h2:=h.len;omega
theorem RgOk.step{x:Inst}{d:zn}{l:List Stop}(hx:x.cust.length<=1048576)(h:RgOk x d l){i:Nat}(hi:i<l.length){s:Stop}(hs:(yL x d s).2=true):RgOk x (yL x d s).1 (l.eraseIdx i):=by
 have hf:=h.len;have hl:=h.dl;refine⟨Zgz hx h.ok DY DY,?_,?_⟩
 ·unfold yL at hs ⊢;cases hb:(Zx (qn x d s)).2 with
  | false=>rw[hb]at hs;cases hs
  | true=>exact Zcq (Zac hb)
 ·rw[(Zae hs).length_eq,Ad,BU hi];omega
theorem ZgB{x:Inst}(hv:0<=x.veh){l:List Stop}(hl:l.length<=1000):RgOk x [] l :=
 ⟨⟨by simp,by simp,by simp⟩,(vn x []).2 ⟨by simp,by simp,by simpa using hv⟩,by simpa using hl⟩
theorem Zpo{c:Stop->List Int}{l:List Stop}{k:Nat}{s:Stop}{place most:Int}(hd:l.drop k=s :: l.drop (k+1)):
  um c (l.drop k) k place most=if (c s).length=0 then (k:Int) else if place<0\/most<Zy (c s) then um c (l.drop (k+1)) (k+1) (k:Int) (Zy (c s)) else um c (l.drop (k+1)) (k+1) place most:=by
 rw[hd];rfl
theorem Zpp(x:Inst)(d:zn)(l:List Stop)(hx:x.cust.length<=1048576)(h:RgOk x d l){S:Store}{id ver:Nat}(hid:S id=.cells ver 100 (l.flatMap Enc.enc)):
  Spec prog 334 [.agg (Zv x d),.sl id ver 2 0 l.length] S (λp S'=>p=I (Z5 x d l)/\S'=S):=by
 have hf:=h.len;have hl:=h.dl;have hco:=λs=>Zpb x d s hx h.ok h.may DY DY
 have hu:Z5 x d l=um (Xe x d) (l.drop 0) 0 (-1) 0:=rfl;rw[hu];clear hu;obtain⟨on,tw,fs,bd,ls,ws,hlk⟩:∃on tw fs bd ls ws,Zv x d=uM x d on tw fs bd ls ws:=⟨_,_,_,_,_,_,rfl⟩;rw[hlk]at hco ⊢;clear hlk;generalize hcz:Xe x d=cz at *;refine yn func334 ntmps334 results334 λnx hd=>?_
 have hlt:id<nx:=yX hd hid DZ;have xid:=λobs=>zB (S:=S) (obs:=obs) hlt
 refine D7 ?_;intro v0;refine D7 ?_
 repeat apply za
 refine zb ?_;refine zj (zC (λs':Nat × Int × Int=>s'.1<=l.length/\um cz (l.drop s'.1) s'.1 s'.2.1 s'.2.2=um cz (l.drop 0) 0 (-1) 0) (λ(k,place,most)=>[(2,.ptr nx v0 0),(5,I place),(6,I most),(11,.sl id ver 2 0 l.length),(12,I l.length),(13,I k)]) (λ_=>[.cells v0 395 (uM x d on tw fs bd ls ws)]) (λs'=>l.length-s'.1) (0,-1,0) [] ⟨by simp,rfl⟩ DZ DZ ?_);rintro⟨k,place,most⟩ ⟨hk,hg⟩;simp only at hk hg ⊢;rw[<-hg];refine D7 ?_;refine za (zv rfl (λhc=>?_) (λhc=>?_))
 ·simp at hc;obtain⟨s,tl,a1,a2,a3,e1,e0⟩:=el 2 rfl l k hc;have hk2:2<=l.length*2-k*2:=DY
  have hun:=Zpo (c:=cz) (place:=place) (most:=most) a2;have hcs:=hco s;generalize hc0:cz s=c at *;have wk:=zu k DY;refine zh (za (zj (za (ze [] (yF xid hid e0 hc hk2) ?_))));intro v1;refine D7 ?_;refine zt hcs ?_
  by_cases h0:c.length=0
  ·rw[if_pos h0]at hun
   repeat apply za
   refine ze [] h0 ?_;refine zm rfl (D7 ?_);exact zg ⟨_,S,D0,⟨by simp[zp,hun],rfl⟩,zO hd⟩
  rw[if_neg h0]at hun
  repeat apply za
  refine zb ?_;refine zk (by simp;exact λe=>h0 (by rw[e];rfl)) ?_;refine zh ?_
  repeat apply za
  refine zb ?_;refine qz (nx:=nx) (λ_:Unit=>True) (λ_=>[(2,.ptr nx v0 0),(5,I place),(6,I most),(7,I k),(10,I (Zy c)),(11,.sl id ver 2 0 l.length),(12,I l.length),(13,I k)]) (λ_=>S) (λ_=>[.cells v0 395 (uM x d on tw fs bd ls ws)]) ?_ ?_
  ·by_cases h1:1<c.length
   ·obtain⟨a,ta,q1,-,-,q0⟩:=zF rfl c 1 h1;obtain⟨b,tb,r1,-,-,r0⟩:=zF rfl c 0 DY;have hab:Zy c=W (a-b):=by unfold Zy;rw[if_pos h1,Aa,Aa,q1,r1];rfl
    have g1:1<=c.length-1:=DY
    have g2:0<c.length:=DY
    have g3:1<=c.length:=DY
    have r0':(c.flatMap Enc.enc:List PV)=Enc.enc b++tb:=by simpa using r0
    have h1':(1:Int)<c.length:=DY
    refine zm D2 ?_;rw[r0']at q0;have htb:tb=I a :: ta:=by simpa using q0
    rw[htb]at r0';refine zz none (Row.pures [0,1,2,3,4,5,6,7] .done) mixed (yd r0' h1 h1' g1 g2 g3) ?_;exact zT () [_] trivial (by simp[hab]) rfl D0
   ·have hab:Zy c=1099511627776:=by unfold Zy;rw[if_neg h1]
    refine zk D2 ?_;exact zh (zT () [_] trivial (by simp[hab]) rfl D0)
  ·rintro⟨⟩ -;generalize Zy c=ab at *
   by_cases hq:place<0
   ·rw[if_pos (.inl hq)]at hun;refine za (ze [(2,37)] (zo hq zH) ?_);refine zm rfl (zb ?_);refine zb ?_;exact zq (k+1,(k:Int),ab) [] ⟨hc,by rw[<-hun,hg]⟩ D2 (by simp[wk]) rfl DZ
   ·by_cases hq2:most<ab
    ·rw[if_pos (.inr hq2)]at hun;refine za (ze [(2,37)] (zo hq hq2) ?_);refine zm rfl (zb ?_);refine zb ?_;exact zq (k+1,(k:Int),ab) [] ⟨hc,by rw[<-hun,hg]⟩ D2 (by simp[wk]) rfl DZ
    ·rw[if_neg (by rintro(q | q);exact hq q;exact hq2 q)]at hun;refine za (ze [(2,37)] (zo hq hq2) ?_);refine zk rfl (zh (zb ?_));exact zq (k+1,place,most) [] ⟨hc,by rw[<-hun,hg]⟩ D2 (by simp[wk]) rfl DZ
 ·simp at hc;obtain rfl:k=l.length:=DY
  refine zx ?_;have hgl:um cz (l.drop l.length) l.length place most=place:=by rw[BA];rfl
  refine D7 ?_;exact zg ⟨_,S,D0,⟨by simp[zp];rfl,rfl⟩,zO hd⟩
open Go Go.Proofs
theorem Zpq{x:Inst}{d:zn}{l:List Stop}{k:Nat}{s:Stop}(hu:Z5 x d l=k)(hk:l[k]?=some s):
  un x l.length d l=bif (yL x d s).2 then un x (l.eraseIdx k).length (yL x d s).1 (l.eraseIdx k) else (d,false):=by
 have hlt:=(Ac.1 hk).1;obtain⟨n,hn⟩:∃n,l.length=n+1:=⟨l.length-1,by omega⟩;have he:(l.eraseIdx k).length=n:=by rw[BU hlt];omega
 have hg:l.getD k default=s:=by rw[Aa,hk];rfl
 rw[hn,he,un,hu,AO,hg]
theorem Zpr{x:Inst}{d:zn}{l:List Stop}(h:RgOk x d l):d.length<=1000/\d.flatten.length<=1000/\l.length<=1000:=by
 have h1:=h.dl;have h2:=h.len;omega
theorem Zps(x:Inst)(l:List Stop)(hx:x.cust.length<=1048576)(hv:0<=x.veh)(hl:l.length<=1000):Pure prog 319 [.agg (zy x),L l] (.tup [.agg [L (jq x l).1],B (jq x l).2]):=by
 have hb:=ZgB hv hl;unfold jq
 by_cases h0:0<l.length
 case neg =>
  obtain rfl:l=[]:=Av DY;have hcl:=V8 [] DZ;refine zr func319 ntmps319 results319 λS nx hd=>?_
  refine D7 ?_;intro v0 v1;refine D7 ?_;intro v2;refine qr 2 0 rfl rfl ?_;refine D7 ?_;refine zt hcl ?_;refine za (zj (zC (λ_:Nat=>True) (λ_=>[(2,.ptr nx v0 0),(4,.ptr (nx+1) v1 0),(6,.ptr (nx+2) v2 0),(7,L ([]:List Stop))]) (λ_=>[.cells v0 25 (zy x),.cells v1 39 [yu],.cells v2 39 [L ([]:zn)]]) (λk=>k) 0 [] trivial DZ DZ ?_));rintro k -
  repeat apply za
  refine zb ?_;refine zk rfl (zx (D7 ?_));exact zg (zi hd D0 (by simp[zp,un]))
 refine zr func319 ntmps319 results319 λS nx hd=>?_
 refine D7 ?_;intro v0 v1;refine D7 ?_;intro v2;refine qr 2 0 rfl rfl ?_;refine D7 ?_;refine λhsuf=>((Zcj l h0 DY _ _ uZ).mono ?_).v
 rintro _ _ ⟨v3,rfl,rfl⟩;refine⟨_,_,qV _,zL hsuf ?_⟩;refine za (zj (zC (λs':zn × List Stop × Nat=>un x s'.2.1.length s'.1 s'.2.1=un x l.length [] l/\RgOk x s'.1 s'.2.1) (λ(d,m,v3)=>[(2,.ptr nx v0 0),(4,.ptr (nx+1) v1 0),(6,.ptr (nx+2) v2 0),(7,.sl (nx+3) v3 2 0 m.length)]) (λ(d,m,v3)=>[.cells v0 25 (zy x),.cells v1 39 [yu],.cells v2 39 [L d],.cells v3 100 (m.flatMap Enc.enc)]) (λs'=>s'.2.1.length) ([],l,v3) [] ⟨rfl,hb⟩ DZ DZ ?_));rintro⟨d,m,v3⟩ ⟨hr,hok⟩;simp only at hr hok ⊢;rw[<-hr]
 by_cases hm:m=[]
 ·subst hm
  repeat apply za
  refine zb ?_;refine zk rfl (zx (D7 ?_));exact zg (zi hd D0 (by simp[zp,un]))
 ·have hm0:0<m.length:=Cg.2 hm;obtain⟨k,hu,hk⟩:=ZgA (x:=x) (d:=d) hm;obtain⟨s,tl,a1,a2,a3,e1,e0⟩:=el 2 rfl m k hk;have hk2:2<=m.length*2-k*2:=DY
  have hst:=Zpq hu a1;obtain⟨b1,b2,b3⟩:=Zpr hok;have hsee:=ZfZ x d hx hok.ok DY;have hins:=Zcv x d s hx hok.ok DY;have hnx:=λh=>hok.step hx hk (s:=s) h
  have hurg:=λ(S:Store) (id ver:Nat) h=>Zpp x d m hx hok (S:=S) (id:=id) (ver:=ver) h
  rw[hu]at hurg;obtain⟨on,tw,fs,bd,ls,ws,hlk⟩:∃on tw fs bd ls ws,Zv x d=uM x d on tw fs bd ls ws:=⟨_,_,_,_,_,_,rfl⟩;rw[hlk]at hsee hurg;clear hlk;have hno:=Zga (x:=x) (d:=d) (s:=s);generalize hi:yL x d s=r at *;obtain⟨d2,ok⟩:=r;simp only at hst hnx hno;have wk:=zu k DY;have hm0':(0:Int)<m.length:=DY
  repeat apply za
  refine ze [] hm0' ?_;refine zm (by simp;exact hm0) ?_;refine zh (zj (D7 ?_));refine λhsuf=>((hsee _).mono ?_).v
  rintro _ _ ⟨rfl,rfl⟩;refine⟨_,_,rfl,zL hsuf ?_⟩;refine λhsuf=>((hurg _ _ _ (by rw[zZ];rfl)).mono ?_).v
  rintro _ _ ⟨rfl,rfl⟩;refine⟨_,_,rfl,zL hsuf ?_⟩;refine za (zz (some [nx,nx+2,nx+3]) (Row.pures [0,1,2,3,4,5,6,7,8,9] (.alt 10 (.alt 11 (Row.pures [12] .done) .stop) .stop)) mixed (zD e0 hk hk2) ?_);refine zG (hins) trivial ?_;intro v4
  repeat apply za
  refine zb ?_;cases ok with
  | false =>
   simp only[cond_false]at hst;refine zm rfl (D7 ?_);exact zg (zi hd D0 (by simp[zp,hst]))
  | true =>
   simp only[cond_true]at hst;refine zk rfl (zh ?_);have hkl:=BU hk;refine zz (some [nx+4]) (Row.pures [0,1,2,3,4] (.alt 5 (.alt 6 (Row.pures [7] .done) .stop) .stop)) mixed wk ?_
   skip
   refine((Zph m k hk DY (by rw[zZ];rfl)).mono ?_).v;rintro _ _ ⟨rfl,rfl⟩;rw[yl _ DY DZ,AI];refine⟨by simp[yM],jD trivial ?_⟩;exact zq (d2,m.eraseIdx k,v3+1) [_] ⟨hst.symm,hnx rfl⟩ (by simp only;omega) DZ rfl D0
open Go Go.Proofs
def vq(step:zn->Option zn):Nat->zn->zn
 | 0,d=>d
 | n+1,d=>match step d with
  | none=>d
  | some e=>vq step n e
def Zz(step:zn->Option zn):Nat->zn->Nat
 | 0,_=>0
 | n+1,d=>match step d with
  | none=>0
  | some e=>Zz step n e+1
def ZgC(x:Inst)(step:zn->Option zn)(G:zn->Prop):Prop:=∀d,G d->∃mk ma mb mi mj least,Pure prog 291 [.agg (zy x),.agg [L d]] (.tup [.agg [I mk,I ma,I mb,I mi,I mj],I least,B (step d).isSome]) /\
 ∀e,step d=some e->Pure prog 292 [.agg (zy x),.agg [L d],.agg [I mk,I ma,I mb,I mi,I mj]] (.tup [.agg [L e],I 0])/\G e
theorem ZgD(x:Inst)(d:zn)(b:Int)(step:zn->Option zn)(G:zn->Prop)(hb:b<=9223372036854775807)(hdn:d.length<=1048576)(hdt:∀t∈d,t.length<=1048576)(hd':0<b->G d)(hs:ZgC x step G):Pure prog 252 [.agg (zy x),.agg [L d],I b] (.tup [.agg [L (vq step b.toNat d)],I (if Zz step b.toNat d<b.toNat then (Zz step b.toNat d:Int) else jm b 0)]):=by
 refine zr func252 ntmps252 results252 λS nx hd=>?_
 refine D7 ?_;intro v0 v1 v2;refine D7 ?_;intro v3;refine je 3 0 42 1 rfl rfl λv4=>?_
 repeat apply za
 refine zb ?_;refine zj (zC (λs':Nat × Nat=>s'.1<=d.length) (λ(k,v4)=>[(2,I b),(3,.ptr nx v0 0),(6,.ptr (nx+2) v2 0),(7,I 0),(8,.ptr (nx+3) v3 0),(16,L d),(17,I d.length),(18,I k)]) (λ(k,v4)=>[.cells v0 25 (zy x),.cells v1 39 [L d],.cells v2 39 [yu],.cells v3 39 [.sl (nx+4) v4 1 0 k],.cells v4 42 ((d.take k).flatMap Enc.enc)]) (λs'=>d.length-s'.1) (0,v4) [] DZ DZ DZ ?_);rintro⟨k,v4⟩ hk;simp only at hk ⊢;refine D7 ?_;refine za (zv rfl (λhc=>?_) (λhc=>?_))
 ·simp at hc;obtain⟨t,tl,a1,a2,a3,e0⟩:=zF rfl d k hc;have hk1:1<=d.length-k:=DY
  have hcl:=V8 t (hdt t (Ab a1));have hcl':((d.take k).flatMap Enc.enc:List PV).length=k:=by rw[jW,Ay];omega
  have hct:((d.take k).flatMap Enc.enc:List PV).take k=(d.take k).flatMap Enc.enc:=Af DY;have hcn:((d.take (k+1)).flatMap Enc.enc:List PV)=(d.take k).flatMap Enc.enc++[L t]:=by rw[a3,Ap];rfl
  generalize ((d.take k).flatMap Enc.enc:List PV)=cs at *;refine zh (za (zj (za (ze [] (zD e0 hc hk1) ?_))));intro v5;refine zz (some [nx+5]) (Row.pures [0,2,3,4,5,6] (.alt 1 (.alt 7 (Row.pures [8] (.alt 9 (.done) .stop)) .stop) .stop)) mixed (zo hcl' hct) ?_;refine zG (hcl) (zo hcl' hct) ?_;refine⟨by omega,?_⟩;refine zb ?_;exact zq (k+1,v4+1) [_] hc D2 (by simp[zu k (by omega)]) rfl (by simp[hcn];rfl)
 ·simp at hc;obtain rfl:k=d.length:=DY
  have g1:d.take d.length=d:=Ai;refine zx ?_;rw[g1];refine zX 4 rfl ?_
  repeat apply za
  refine zb ?_;clear hk hc g1;refine zj (zC (λs':Nat × zn=>s'.1<=b.toNat/\(0<b->G s'.2)/\vq step (b.toNat-s'.1) s'.2=vq step b.toNat d/\s'.1+Zz step (b.toNat-s'.1) s'.2=Zz step b.toNat d) (λ(k,e)=>[(2,I b),(3,.ptr nx v0 0),(6,.ptr (nx+2) v2 0),(8,.ptr (nx+3) v3 0),(11,I k)]) (λ(k,e)=>[.cells v0 25 (zy x),.cells v1 39 [L d],.cells v2 39 [yu],.cells v3 39 [L e]]) (λs'=>b.toNat-s'.1) (0,d) [.dead] ⟨by simp,hd',by simp,by simp⟩ DZ DZ ?_);rintro⟨k,e⟩ ⟨hk,hG,hi,hco⟩;simp only at hk hG hi hco ⊢;rw[<-hi]
  repeat apply za
  refine zb ?_;refine zv rfl (λhc=>?_) (λhc=>?_)
  ·simp at hc;obtain⟨mk,ma,mb,mi,mj,least,hB,hM⟩:=hs e (hG DY);obtain⟨n,hn⟩:∃n,b.toNat-k=n+1:=⟨b.toNat-k-1,by omega⟩;refine zh (za (zj (D7 ?_)));refine zt hB ?_;intro v5
   repeat apply za
   refine zb ?_;cases hst:step e with
   | none =>
    have hr:vq step (b.toNat-k) e=e:=by rw[hn];unfold vq;rw[hst]
    have hr2:Zz step (b.toNat-k) e=0:=by rw[hn];unfold Zz;rw[hst]
    rw[hr2]at hco;rw[hr,<-hco,if_pos DY];refine zm rfl (D7 ?_);exact zg (zi hd D0 (by simp[zp]))
   | some e2 =>
    have hr:vq step (b.toNat-k) e=vq step (b.toNat-(k+1)) e2:=by rw[hn,show b.toNat-(k+1)=n by omega];conv=>lhs;unfold vq;rw[hst]
    have hr2:Zz step (b.toNat-k) e=Zz step (b.toNat-(k+1)) e2+1:=by rw[hn,show b.toNat-(k+1)=n by omega];conv=>lhs;unfold Zz;rw[hst]
    obtain⟨hM1,hG2⟩:=hM e2 hst;refine zk rfl (zh (zb ?_));refine zt hM1 ?_;refine zb ?_;exact zq (k+1,e2) [_] ⟨by simp;omega,λ_=>hG2,hr.symm,by simp only;omega⟩ D2 (by simp[zu k (by omega)]) rfl D0
  ·simp at hc;have hz:b.toNat-k=0:=DY
   rw[hz]at hco ⊢;have hco':Zz step b.toNat d=k:=by rw[<-hco];rfl
   rw[hco',if_neg DY];refine zx (D7 ?_);exact zg (zi hd D0 (by simp[zp,vq]))
open Go Go.Proofs
structure Pc where
 t:Nat
 f:Nat
 o:Nat
 b:Bool
 deriving DecidableEq
def yO:Pc:=⟨0,0,0,false⟩
abbrev pcL(p:Pc):List PV:=[I p.t,I p.f,I p.o,B p.b]
structure Rw5 where
 a:Pc
 b:Pc
 c:Pc
 d:Pc
 e:Pc
abbrev yv(r:Rw5):List PV:=[I r.a.t,I r.a.f,I r.a.o,B r.a.b,I r.b.t,I r.b.f,I r.b.o,B r.b.b,I r.c.t,I r.c.f,I r.c.o,B r.c.b,I r.d.t,I r.d.f,I r.d.o,B r.d.b,I r.e.t,I r.e.f,I r.e.o,B r.e.b]
def Rw5.l(r:Rw5):List Pc:=[r.a,r.b,r.c,r.d,r.e]
def xB:Rw5:=⟨yO,yO,yO,yO,yO⟩
structure Mv where
 k:Nat
 a:Nat
 b:Nat
 i:Nat
 j:Nat
 deriving DecidableEq
abbrev Zc(m:Mv):List PV:=[I m.k,I m.a,I m.b,I m.i,I m.j]
abbrev ZA(m:Mv)(la lb:Nat):List PV:=[I m.k,I m.a,I m.b,I m.i,I m.j,I la,I lb]
def vS(m:Mv)(la lb:Nat):Bool :=
 if m.k=0 then decide (m.b=m.a/\m.i<m.j/\m.j<la)
 else if m.k=1 then decide (m.i<la/\(if m.a=m.b then m.j<lb else m.j<=lb))
 else if m.k=2 then decide (¬(m.b<m.a\/m.a=m.b/\m.j<=m.i)/\m.i<la/\m.j<lb)
 else decide (m.a<m.b/\m.i<=la/\m.j<=lb)
def xC(m:Mv)(la lb:Nat):Rw5 × Rw5 :=
 if m.k=0 then (⟨⟨m.a,0,m.i,false⟩,⟨m.a,m.i,m.j+1,true⟩,⟨m.a,m.j+1,la,false⟩,yO,yO⟩,xB)
 else if m.k=1 then
  (if m.a≠m.b then (⟨⟨m.a,0,m.i,false⟩,⟨m.a,m.i+1,la,false⟩,yO,yO,yO⟩,⟨⟨m.b,0,m.j,false⟩,⟨m.a,m.i,m.i+1,false⟩,⟨m.b,m.j,lb,false⟩,yO,yO⟩)
  else if m.i<m.j then (⟨⟨m.a,0,m.i,false⟩,⟨m.a,m.i+1,m.j+1,false⟩,⟨m.a,m.i,m.i+1,false⟩,⟨m.a,m.j+1,la,false⟩,yO⟩,xB)
  else (⟨⟨m.a,0,m.j,false⟩,⟨m.a,m.i,m.i+1,false⟩,⟨m.a,m.j,m.i,false⟩,⟨m.a,m.i+1,la,false⟩,yO⟩,xB))
 else if m.k=2 then
  (if m.a=m.b then (⟨⟨m.a,0,m.i,false⟩,⟨m.b,m.j,m.j+1,false⟩,⟨m.a,m.i+1,m.j,false⟩,⟨m.a,m.i,m.i+1,false⟩,⟨m.a,m.j+1,la,false⟩⟩,xB)
  else (⟨⟨m.a,0,m.i,false⟩,⟨m.b,m.j,m.j+1,false⟩,⟨m.a,m.i+1,la,false⟩,yO,yO⟩,⟨⟨m.b,0,m.j,false⟩,⟨m.a,m.i,m.i+1,false⟩,⟨m.b,m.j+1,lb,false⟩,yO,yO⟩))
 else (⟨⟨m.a,0,m.i,false⟩,⟨m.b,m.j,lb,false⟩,yO,yO,yO⟩,⟨⟨m.b,0,m.j,false⟩,⟨m.a,m.i,la,false⟩,yO,yO,yO⟩)
theorem Zpu(m:Mv)(la lb:Nat)(hk:m.k=0):Pure prog 357 [.agg (ZA m la lb)] (B (vS m la lb)):=by
 unfold vS;rw[if_pos hk];refine zr func357 ntmps357 results357 λS nx hd=>?_
 refine D7 ?_;intro v0
 by_cases h1:m.b=m.a
 case neg =>
  have h1':¬(m.b:Int)=m.a:=DY
  refine za (ze [(7,10),(13,16),(22,25)] (zo h1' zH) ?_);exact zg (zi hd rfl (by simp[h1,zp]))
 have h1':(m.b:Int)=m.a:=DY
 by_cases h2:m.i<m.j
 case neg =>
  have h2':¬(m.i:Int)<m.j:=DY
  refine za (ze [(7,10),(13,16),(22,25)] (zD h1' h2 zH) ?_);exact zg (zi hd rfl (by simp[h2,zp]))
 by_cases h3:m.j<la
 case neg =>
  refine za (ze [(7,10),(13,16),(22,25)] (zN h1' h2 h3 zH) ?_);exact zg (zi hd rfl (by simp[h3,zp]))
 refine za (ze [(7,10),(13,16),(22,25)] (zD h1' h2 h3) ?_);exact zg (zi hd rfl (by simp[h1,h2,h3,zp]))
theorem Zpv(m:Mv)(la lb:Nat)(hk:m.k=1)(hlb:lb<=1048576):Pure prog 359 [.agg (ZA m la lb)] (B (vS m la lb)):=by
 unfold vS;rw[if_neg DY,if_pos hk];refine zr func359 ntmps359 results359 λS nx hd=>?_
 refine D7 ?_;intro v0;refine D7 ?_;refine za (qz (nx:=nx) (λz:Int=>(m.j:Int)<=z<->(if m.a=m.b then m.j<lb else m.j<=lb)) (λz=>[(1,.ptr nx v0 0),(3,I z)]) (λ_=>S) (λ_=>[.cells v0 420 (ZA m la lb)]) ?_ ?_)
 ·by_cases h1:m.a=m.b
  ·have h1':(m.a:Int)=m.b:=DY
   have w1:IntKind.i64.wrap ((lb:Int)-1)=(lb:Int)-1:=wr _ DY DY;refine za (ze [] h1' ?_);refine zm rfl (ze [] w1 ?_);exact zT ((lb:Int)-1) [] (by rw[if_pos h1];omega) DZ rfl DZ
  ·have h1':¬(m.a:Int)=m.b:=DY
   refine za (ze [] h1' ?_);exact zk rfl (zh (zT (lb:Int) [] (by rw[if_neg h1];omega) DZ rfl DZ))
 ·intro z hz
  by_cases h2:m.i<la
  case neg =>
   refine za (ze [(4,19),(12,27),(18,33)] (zo h2 zH) ?_);exact zg (zi hd rfl (by simp[h2,zp]))
  by_cases h3:(m.j:Int)<=z
  case neg =>
   have h4:=(not_congr hz).1 h3;refine za (ze [(4,19),(12,27),(18,33)] (zo h2 h3) ?_);exact zg (zi hd rfl (by simp[h2,h4,zp]))
  have h4:=hz.1 h3;refine za (ze [(4,19),(12,27),(18,33)] (zo h2 h3) ?_);exact zg (zi hd rfl (by simp[h2,h4,zp]))
theorem Zpw(m:Mv)(la lb:Nat)(hk:m.k=2):Pure prog 361 [.agg (ZA m la lb)] (B (vS m la lb)):=by
 unfold vS;rw[if_neg DY,if_neg DY,if_pos hk];refine zr func361 ntmps361 results361 λS nx hd=>?_
 refine D7 ?_;intro v0;have rest:∀(P:Prop),(m.i<la->m.j<lb->P)->(¬(m.i<la/\m.j<lb)->P)->P:=λP a b=>by
  by_cases q:m.i<la/\m.j<lb
  ·exact a q.1 q.2
  ·exact b q
 by_cases h1:m.b<m.a
 ·repeat apply za
  refine ze [(7,10),(15,18)] (zo h1 zH) ?_;refine zm rfl (D7 ?_);exact zg (zi hd rfl (by simp[h1,zp]))
 by_cases h2:m.a=m.b
 ·have h2':(m.a:Int)=m.b:=DY
  by_cases h3:m.j<=m.i
  ·have h1':¬m.b<m.b:=DY
   repeat apply za
   refine ze [(7,10),(15,18)] (zD h2' h1' h3) ?_;refine zm rfl (D7 ?_);exact zg (zi hd rfl (by simp[h2,h3,zp]))
  ·have h1':¬m.b<m.b:=DY
   have h0:¬(m.b<m.a\/m.a=m.b/\m.j<=m.i):=DY
   repeat apply za
   refine ze [(7,10),(15,18)] (zD h2' h1' h3) ?_;refine zk rfl (zh ?_)
   by_cases h4:m.i<la
   case neg =>
    refine za (ze [(4,32),(12,40),(18,46)] (zo h4 zH) ?_);exact zg (zi hd rfl (by simp[h4,zp]))
   by_cases h5:m.j<lb
   case neg =>
    refine za (ze [(4,32),(12,40),(18,46)] (zo h4 h5) ?_);exact zg (zi hd rfl (by simp[h5,zp]))
   refine za (ze [(4,32),(12,40),(18,46)] (zo h4 h5) ?_);exact zg (zi hd rfl (by simp[h0,h4,h5,zp]))
 ·have h2':¬(m.a:Int)=m.b:=DY
  have h0:¬(m.b<m.a\/m.a=m.b/\m.j<=m.i):=DY
  repeat apply za
  refine ze [(7,10),(15,18)] (zD h1 h2' zH) ?_;refine zk rfl (zh ?_)
  by_cases h4:m.i<la
  case neg =>
   refine za (ze [(4,32),(12,40),(18,46)] (zo h4 zH) ?_);exact zg (zi hd rfl (by simp[h4,zp]))
  by_cases h5:m.j<lb
  case neg =>
   refine za (ze [(4,32),(12,40),(18,46)] (zo h4 h5) ?_);exact zg (zi hd rfl (by simp[h5,zp]))
  refine za (ze [(4,32),(12,40),(18,46)] (zo h4 h5) ?_);exact zg (zi hd rfl (by simp[h0,h4,h5,zp]))
theorem Zpx(m:Mv)(la lb:Nat)(hk:3<=m.k):Pure prog 363 [.agg (ZA m la lb)] (B (vS m la lb)):=by
 unfold vS;rw[if_neg DY,if_neg DY,if_neg DY];refine zr func363 ntmps363 results363 λS nx hd=>?_
 refine D7 ?_;intro v0
 by_cases h1:m.a<m.b
 case neg =>
  refine za (ze [(7,10),(13,16),(21,24),(27,30)] (zo h1 zH) ?_);exact zg (zi hd rfl (by simp[h1,zp]))
 by_cases h2:m.i<=la
 case neg =>
  refine za (ze [(7,10),(13,16),(21,24),(27,30)] (zD h1 h2 zH) ?_);exact zg (zi hd rfl (by simp[h2,zp]))
 by_cases h3:m.j<=lb
 case neg =>
  refine za (ze [(7,10),(13,16),(21,24),(27,30)] (zD h1 h2 h3) ?_);exact zg (zi hd rfl (by simp[h3,zp]))
 refine za (ze [(7,10),(13,16),(21,24),(27,30)] (zD h1 h2 h3) ?_);exact zg (zi hd rfl (by simp[h1,h2,h3,zp]))
theorem Zpy(m:Mv)(la lb:Nat)(hk:m.k=0)(hi:m.i<=1048576)(hj:m.j<=1048576):Pure prog 358 [.agg (ZA m la lb)] (.tup [.agg (yv (xC m la lb).1),.agg (yv (xC m la lb).2)]):=by
 have wi:=zu m.i DY;have wj:=zu m.j DY;unfold xC;rw[if_pos hk];refine zr func358 ntmps358 results358 λS nx hd=>?_
 refine D7 ?_;intro v0 v1 v2;refine za (zz (some [nx]) (Row.pures [0,1,2,3,4,5,6,7,8,9,10,11] .done) mixed trivial ?_);refine za (ze [] wj ?_);exact zg (zi hd D0 (by simp[zp,xB,yO]))
theorem Zpz(m:Mv)(la lb:Nat)(hk:3<=m.k):Pure prog 364 [.agg (ZA m la lb)] (.tup [.agg (yv (xC m la lb).1),.agg (yv (xC m la lb).2)]):=by
 unfold xC;rw[if_neg DY,if_neg DY,if_neg DY];refine zr func364 ntmps364 results364 λS nx hd=>?_
 refine D7 ?_;intro v0 v1 v2;refine za (zz (some [nx]) (Row.pures [0,1,2,3,4,5,6,7,8,9,10,11,12,13,14,15] .done) mixed trivial ?_);refine za (zz (some [nx]) (Row.pures [0,1,2,3,4,5,6,7,8,9,10,11,12,13,14,15,16,17] (.alt 18 (.alt 19 (.done) .stop) .stop)) mixed trivial ?_);exact zg (zi hd D0 (by simp[zp,xB,yO]))
theorem ZpA(m:Mv)(la lb:Nat)(hk:m.k=1)(hi:m.i<=1048576)(hj:m.j<=1048576):Pure prog 360 [.agg (ZA m la lb)] (.tup [.agg (yv (xC m la lb).1),.agg (yv (xC m la lb).2)]):=by
 have wi:=zu m.i DY;have wj:=zu m.j DY;unfold xC;rw[if_neg DY,if_pos hk];refine zr func360 ntmps360 results360 λS nx hd=>?_
 refine D7 ?_;intro v0 v1 v2;refine za (zz (some [nx]) (Row.pures [0,1,2,3,4,5,6,7,8,9,10,11,12,13,14,15] .done) mixed trivial ?_);refine za (ze [] wi ?_);intro v3;refine za (zj ?_)
 by_cases h1:m.a=m.b
 case neg =>
  have h1':¬(m.a:Int)=m.b:=DY
  rw[if_pos h1];refine za (ze [] h1' ?_);refine zm rfl (za (zz (some [nx,nx+3]) (Row.pures [0,1,2,3,4,5,6,7,8,9,10,11,12,13,14,15,16,17,18,19] (.alt 20 (.alt 21 (.done) .stop) .stop)) mixed wi ?_));exact zg (zi hd D0 (by simp[zp,xB,yO]))
 have h1':(m.a:Int)=m.b:=DY
 rw[if_neg (by simpa using h1)];refine za (ze [] h1' ?_);refine zk rfl ?_
 by_cases h2:m.i<m.j
 ·rw[if_pos h2];refine za (ze [] h2 ?_);refine zm rfl (za (ze [] (zo wi wj) ?_));exact zg (zi hd D0 (by simp[zp,xB,yO,h1]))
 ·rw[if_neg h2];refine za (ze [] h2 ?_);refine zk rfl (zh (za (ze [] (zo wi wj) ?_)));exact zg (zi hd D0 (by simp[zp,xB,yO,h1]))
theorem ZpB(m:Mv)(la lb:Nat)(hk:m.k=2)(hi:m.i<=1048576)(hj:m.j<=1048576):Pure prog 362 [.agg (ZA m la lb)] (.tup [.agg (yv (xC m la lb).1),.agg (yv (xC m la lb).2)]):=by
 have wi:=zu m.i DY;have wj:=zu m.j DY;unfold xC;rw[if_neg DY,if_neg DY,if_pos hk];refine zr func362 ntmps362 results362 λS nx hd=>?_
 refine D7 ?_;intro v0 v1 v2;refine za (zz (some [nx]) (Row.pures [0,1,2,3,4,5,6,7,8,9,10,11,12,13,14,15] .done) mixed trivial ?_);refine za (ze [] (zo wi wj) ?_);intro v3 v4
 by_cases h1:m.a=m.b
 ·have h1':(m.a:Int)=m.b:=DY
  rw[if_pos h1]
  repeat apply za
  refine ze [] h1' ?_;refine zm rfl (za (ze [] (zo wi wj) ?_));exact zg (zi hd D0 (by simp[zp,xB,yO,h1]))
 ·have h1':¬(m.a:Int)=m.b:=DY
  rw[if_neg h1]
  repeat apply za
  refine ze [] h1' ?_;refine zk rfl (zh (za (zz (some [nx,nx+3,nx+4]) (Row.pures [0,1,2,3,4,5,6,7,8,9,10,11,12,13,14,15,16,17,18,19,20,21] (.alt 22 (.alt 23 (.done) .stop) .stop)) mixed (zo wi wj) ?_)));exact zg (zi hd D0 (by simp[zp,xB,yO]))
open Go Go.Proofs
abbrev Zah:List PV:=[.fn (.func 357) [] [],.fn (.func 358) [] [],.fn (.func 359) [] [],.fn (.func 360) [] [],.fn (.func 361) [] [],.fn (.func 362) [] [],.fn (.func 363) [] [],.fn (.func 364) [] []]
theorem ZgE:Pure prog 340 [] (.agg Zah):=by
 refine zr func340 ntmps340 results340 λS nx hd=>?_
 refine D7 ?_;intro v0;refine D7 ?_;exact D8 hd
def qJ(d:zn)(t:Nat):Nat:=(d.getD t []).length
def wd(d:zn)(m:Mv):Bool:=decide (m.k<=3/\m.a<d.length/\m.b<d.length) && vS m (qJ d m.a) (qJ d m.b)
def yt(d:zn)(m:Mv):Rw5 × Rw5:=xC m (qJ d m.a) (qJ d m.b)
def Z6(d:zn)(m:Mv):Rw5 × Rw5 × Bool:=if wd d m=true then ((yt d m).1,(yt d m).2,true) else (xB,xB,false)
theorem Zcz(d:zn)(m:Mv)(hdn:d.length<=1048576)(hdt:∀t∈d,t.length<=1048576)(hk:m.k<=3)(ha:m.a<d.length)(hb:m.b<d.length)(hi:m.i<=1048576)(hj:m.j<=1048576):Pure prog 326 [.agg [L d],.agg (Zc m)]
  (.tup [.agg (yv (Z6 d m).1),.agg (yv (Z6 d m).2.1),B (Z6 d m).2.2]):=by
 obtain⟨ta,xa,a1,-,-,a0⟩:=zF rfl d m.a ha;obtain⟨tb,xb,b1,-,-,b0⟩:=zF rfl d m.b hb;have ha1:1<=d.length-m.a:=DY
 have hb1:1<=d.length-m.b:=DY
 have la:qJ d m.a=ta.length:=by unfold qJ;rw[Aa,a1];rfl
 have lb:qJ d m.b=tb.length:=by unfold qJ;rw[Aa,b1];rfl
 have hbl:=hdt tb (Ab b1);have hmay:wd d m=vS m ta.length tb.length:=by unfold wd;rw[la,lb,decide_eq_true ⟨hk,ha,hb⟩];rfl
 have hcut:yt d m=xC m ta.length tb.length:=by unfold yt;rw[la,lb]
 unfold Z6;rw[hmay,hcut];clear hmay hcut la lb;have call:∀f g:Nat,m.k=m.k->True:=λ_ _ _=>trivial
 clear call;have g1:¬(m.k:Int)<0:=DY
 have g2:¬(3:Int)<m.k:=DY
 have g3:¬(m.a:Int)<0:=DY
 have g4:¬d.length<=m.a:=DY
 have g5:¬(m.b:Int)<0:=DY
 have g6:¬d.length<=m.b:=DY
 refine zr func326 ntmps326 results326 λS nx hd=>?_
 refine D7 ?_;intro v0 v1 v2 v3;refine D7 ?_
 repeat apply za
 refine ze [(3,18),(8,23),(13,28),(19,34),(24,39)] (yd g1 g2 g3 g4 g5 g6) ?_;refine zk rfl (zh (za (zz (some [nx,nx+1]) (Row.pures [0,1,2,3,4,5,6,7,8,9,10,11,12,13,14,15,16,17] (.alt 18 (.alt 19 (.done) .stop) .stop)) mixed (yd a0 b0 ha hb ha1 hb1) ?_)));intro v4;obtain⟨mf,cf,hmf,hcf,hidx⟩:∃mf cf:Nat,Pure prog mf [.agg (ZA m ta.length tb.length)] (B (vS m ta.length tb.length))/\Pure prog cf [.agg (ZA m ta.length tb.length)] (.tup [.agg (yv (xC m ta.length tb.length).1),.agg (yv (xC m ta.length tb.length).2)]) /\
   ∃k:Nat,(k:Int)=m.k/\k<4/\(Zah.drop (k*2)).take 2=[.fn (.func mf) [] [],.fn (.func cf) [] []]:=by
  have h4:m.k=0\/m.k=1\/m.k=2\/m.k=3:=DY
  rcases h4 with h | h | h | h
  ·exact⟨_,_,Zpu m _ _ h,Zpy m _ _ h hi hj,0,by omega,by omega,rfl⟩
  ·exact⟨_,_,Zpv m _ _ h hbl,ZpA m _ _ h hi hj,1,by omega,by omega,rfl⟩
  ·exact⟨_,_,Zpw m _ _ h,ZpB m _ _ h hi hj,2,by omega,by omega,rfl⟩
  ·exact⟨_,_,Zpx m _ _ DY,Zpz m _ _ DY,3,by omega,by omega,rfl⟩
 obtain⟨k,hkk,hk4,hkt⟩:=hidx;obtain rfl:k=m.k:=DY
 have hk4':(m.k:Int)<4:=DY
 have hk5:2<=8-m.k*2:=DY
 generalize hmz:vS m ta.length tb.length=mz at *;generalize hcz:xC m ta.length tb.length=cz at *;obtain⟨r1,r2⟩:=cz;generalize hkl:Zah=kl at hkt;have hkinds:=ZgE;rw[hkl]at hkinds;have hkll:kl.length=8:=by rw[<-hkl];rfl
 clear hkl;refine za (zz (some [nx+1]) (Row.pures [0,1,2,3] (.alt 4 (.alt 5 (.done) .stop) .stop)) mixed (yF hkt hk4 hk4' hkll hk5) ?_);refine zG (hkinds) (yF hkt hk4 hk4' hkll hk5) ?_;intro v5
 repeat apply za
 refine zb ?_;refine zt hmf ?_;cases mz with
 | false =>
  refine zm rfl (D7 ?_);exact zg (zi hd D0 (by simp[zp,xB,yO]))
 | true =>
  refine zk rfl (zh (D7 ?_));refine zt hcf ?_;intro v6 v7;refine za (zz (some [nx+6,nx+7]) (Row.pures [0,1] (.alt 2 (.alt 3 (Row.pures [4] .done) .stop) .stop)) mixed trivial ?_);exact zg (zi hd D0 (by simp[zp]))
open Go Go.Proofs
theorem ZgF(l:List Stop)(k:Nat)(s:Stop)(h:k<l.length):yg (l.flatMap Enc.enc) (k*2) [I s.c,I s.q]=(l.set k s).flatMap Enc.enc:=by
 unfold yg;rw[AF,if_pos h,Ap,Ax,<-Qf Enc.enc 2 (λ_=>rfl) l k,<-JQ Enc.enc 2 (λ_=>rfl) l (k+1)];simp[show k*2+2=(k+1)*2 by omega]
def jr(l:List Stop)(k:Nat):List Stop:=(List.range l.length).map λq=>if q<k\/l.length-1-q<k then l.getD (l.length-1-q) default else l.getD q default
theorem uN(l:List Stop)(k:Nat):(jr l k).length=l.length:=by simp[jr]
theorem Xg{l:List Stop}{k q:Nat}(hq:q<l.length):(jr l k)[q]?=some (if q<k\/l.length-1-q<k then l.getD (l.length-1-q) default else l.getD q default):=by
 unfold jr;rw[Aj,A9 hq];rfl
theorem ZpC(l:List Stop):jr l 0=l:=by
 apply AY;intro q
 by_cases h:q<l.length
 ·rw[Xg h,if_neg DY,Aa,Ae h];rfl
 ·rw[Ak (by rw[uN];omega),Ak DY]
theorem ZpD{l:List Stop}{k:Nat}(hk:l.length-1<=k+k):jr l k=l.reverse:=by
 apply AY;intro q
 by_cases h:q<l.length
 ·rw[Xg h,List.getElem?_reverse h]
  by_cases h1:q<k\/l.length-1-q<k
  ·rw[if_pos h1,Aa,Ae DY];rfl
  ·rw[if_neg h1,Aa];have:q=l.length-1-q:=DY
   rw[<-this,Ae h];rfl
 ·rw[Ak (by rw[uN];omega),Ak D2]
theorem ZpE{l:List Stop}{k:Nat}(h:k<l.length-1-k){a b:Stop}(ha:(jr l k)[k]?=some a)(hb:(jr l k)[l.length-1-k]?=some b):((jr l k).set k b).set (l.length-1-k) a=jr l (k+1):=by
 rw[Xg DY,if_neg DY]at ha;rw[Xg DY,if_neg DY]at hb;cases ha;cases hb;apply AY;intro q
 by_cases hq:q<l.length
 ·rw[Xg hq,BB,BB]
  by_cases e1:l.length-1-k=q
  ·rw[if_pos e1,if_pos (by rw[Bt,uN];omega),if_pos DY];congr 2;omega
  ·rw[if_neg e1]
   by_cases e2:k=q
   ·subst e2;rw[if_pos rfl,if_pos (by rw[uN];exact hq),if_pos DY]
   ·rw[if_neg e2,Xg hq]
    by_cases h1:q<k\/l.length-1-q<k
    ·rw[if_pos h1,if_pos DY]
    ·rw[if_neg h1,if_neg DY]
 ·rw[Ak (by rw[Bt,Bt,uN];omega),Ak (by rw[uN];omega)]
theorem Zai(S:Store)(i:Nat)(a b:Ob):(S.set i a).set i b=S.set i b:=by
 funext o
 by_cases h:o=i
 ·subst h;rw[q11,q11]
 ·rw[q10 _ _ _ _ h,q10 _ _ _ _ h,q10 _ _ _ _ h]
theorem ZpF{S:Store}{id ver:Nat}(pre l:List Stop)(hn:(pre++l).length<=1048576)(hid:S id=.cells ver 100 ((pre++l).flatMap Enc.enc)):
  Spec prog 344 [.sl id ver 2 (pre.length*2) l.length] S (λ_ S'=>S'=S.set id (.cells ver 100 ((pre++l.reverse).flatMap Enc.enc))):=by
 refine yn func344 ntmps344 results344 λnx hd=>?_
 have hlt:id<nx:=yX hd hid DZ;simp only[Ar]at hn;have w0:IntKind.i64.wrap ((l.length:Int)-1)=(l.length:Int)-1:=wr _ DY DY;refine za (ze [] w0 ?_);refine zj (jC (σ:=Nat) (λk=>k<=l.length) (λk=>[(0,.sl id ver 2 (pre.length*2) l.length),(2,I k),(3,I ((l.length:Int)-1-k))]) (λk=>S.set id (.cells ver 100 ((pre++jr l k).flatMap Enc.enc))) (λ_=>[]) (λk=>l.length-k) (zT 0 [] DZ DZ (by rw[ZpC];exact J5 S id _ hid) DZ) ?_);rintro k hk
 show PW _ _ _ _ _ _ _ (ext (S.set id (.cells ver 100 ((pre++jr l k).flatMap Enc.enc))) nx [])
 obtain⟨T,hT⟩:∃T,T=S.set id (.cells ver 100 ((pre++jr l k).flatMap Enc.enc)):=⟨_,rfl⟩;rw[<-hT]
 repeat apply za
 refine zb ?_;refine zv rfl (λhc=>?_) (λhc=>?_)
 ·simp at hc;have h1:k<l.length-1-k:=DY
  have x1:=uN l k;obtain⟨a,ta,a1,-,-,-,a0⟩:=el 2 rfl (pre++jr l k) (pre.length+k) (by simp[uN];omega);obtain⟨b,tb,b1,-,-,-,b0⟩:=el 2 rfl (pre++jr l k) (pre.length+(l.length-1-k)) (by simp[uN];omega);have hst:=ZpE h1 (a:=a) (b:=b) (by rw[<-a1,Al (by omega),AI]) (by rw[<-b1,Al (by omega),AI]);have sp1:=ZgF (pre++jr l k) (pre.length+k) b (by simp[uN];omega);have sp2:=ZgF ((pre++jr l k).set (pre.length+k) b) (pre.length+(l.length-1-k)) a (by simp[uN];omega);have hs2:((pre++jr l k).set (pre.length+k) b).set (pre.length+(l.length-1-k)) a=pre++jr l (k+1):=by
   rw[BH _ _ DY,BH _ _ DY,AI,AI,hst]
  rw[hs2]at sp2;have hjj:(l.length:Int)-1-k=((l.length-1-k:Nat):Int):=DY
  generalize l.length-1-k=j at *;generalize hw0:((pre++jr l k).flatMap Enc.enc:List PV)=c0 at *;generalize hw1:(((pre++jr l k).set (pre.length+k) b).flatMap Enc.enc:List PV)=c1 at *;have l0:c0.length=(pre.length+l.length)*2:=by rw[<-hw0,Qj];simp[uN]
  have l1:c1.length=(pre.length+l.length)*2:=by rw[<-hw1,Qj];simp[uN]
  have hTid:T id=.cells ver 100 c0:=by rw[hT];exact q11 _ _ _
  have xid:=λobs=>zB (S:=T) (obs:=obs) hlt
  have xid1:=λobs=>zB (S:=T.set id (.cells ver 100 c1)) (obs:=obs) hlt
  have hs1:(T.set id (.cells ver 100 c1)) id=.cells ver 100 c1:=q11 _ _ _;have hq1:k+1<=l.length:=DY
  have q1:pre.length*2+k*2=(pre.length+k)*2:=DY
  have q2:pre.length*2+j*2=(pre.length+j)*2:=DY
  have q3:j<l.length:=DY
  have q4:k<l.length:=DY
  have q5:¬nx<=id:=DY
  refine zh (za (zj ?_));rw[hjj];refine zz (some []) (Row.pures [0,1,2,3,4,5,6,8,9,10] (.alt 7 (.alt 11 (Row.pures [12] (.alt 13 (Row.pures [14] (.alt 15 (.done) .stop)) .stop)) .stop) (.alt 11 (.alt 7 (Row.pures [12] (.alt 13 (Row.pures [14] (.alt 15 (.done) .stop)) .stop)) .stop) .stop))) mixed (yd xid hTid q1 q2 a0 (zo (yd b0 q3 q4 q5 l0 sp1) (zN hs1 xid1 sp2 l1))) ?_;have wj:IntKind.i64.wrap ((j:Int)-1)=(l.length:Int)-1-((k+1:Nat):Int):=by rw[wr _ DY DY];omega
  have wk:=zu k DY;have hfin:S.set id (.cells ver 100 ((pre++jr l (k+1)).flatMap Enc.enc))=(T.set id (.cells ver 100 c1)).set id (.cells ver 100 ((pre++jr l (k+1)).flatMap Enc.enc)):=by rw[hT,Zai,Zai]
  have happ:((pre++jr l (k+1)).flatMap Enc.enc:List PV)=pre.flatMap Enc.enc++(jr l (k+1)).flatMap Enc.enc:=by rw[Ap]
  rw[happ]at hfin;refine⟨?_,?_⟩
  ·refine⟨by omega,by omega,?_⟩;refine ze [] (zo wk wj) ?_;exact zq (k+1) [] hq1 DY DZ (by rw[happ,hT];simp only[Zai]) DZ
  ·refine⟨by omega,by omega,?_⟩;refine ze [] (zo wk wj) ?_;exact zq (k+1) [] hq1 DY DZ (by rw[happ,hT];simp only[Zai]) DZ
 ·simp at hc;refine zx ?_;refine⟨[],T,rfl,?_,zO ?_⟩
  ·rw[hT,ZpD DY]
  ·rw[hT];intro i hi;rw[q10 _ _ _ _ DY];exact hd i hi
open Go Go.Proofs
def qC(d:zn)(p:Pc):List Stop:=if p.f<p.o then (bif p.b then (((d.getD p.t []).drop p.f).take (p.o-p.f)).reverse else ((d.getD p.t []).drop p.f).take (p.o-p.f)) else []
def qg(d:zn)(r:Rw5):List Stop:=r.l.flatMap (qC d)
def Xh(d:zn)(p:Pc):Prop:=p.f<p.o->p.t<d.length/\p.o<=qJ d p.t
def uO(d:zn)(r:Rw5):Prop:=∀p∈r.l,Xh d p
theorem ZpG(d:zn):uO d xB:=by
 intro p hp h;simp[Rw5.l,xB]at hp;subst hp;exact absurd h D4
theorem Zaj(r:Rw5){k:Nat}(h:k<5):∃p,r.l[k]?=some p/\((yv r).drop (k*4)).take 4=pcL p/\r.l.take (k+1)=r.l.take k++[p]:=by
 have h5:k=0\/k=1\/k=2\/k=3\/k=4:=DY
 rcases h5 with rfl | rfl | rfl | rfl | rfl<;>exact⟨_,rfl,rfl,rfl⟩
theorem ZgG{d:zn}{p:Pc}{m:Nat}(h:∀t∈d,t.length<=m):(qC d p).length<=m:=by
 have hg:(d.getD p.t []).length<=m:=by
  rw[Aa];cases hq:d[p.t]? with
  | none=>simp
  | some l=>exact h l (Ab hq)
 unfold qC;generalize d.getD p.t []=l at *;split
 ·cases p.b<;>simp<;>omega
 ·simp
theorem ZgH(d:zn)(r:Rw5)(hdn:d.length<=1048576)(hdt:∀t∈d,t.length<=1000)(hr:uO d r):Pure prog 329 [.agg [L d],.agg (yv r)] (L (qg d r)):=by
 have hat:=λk (h:k<5)=>Zaj r h
 have hz:qg d r=(r.l.take 5).flatMap (qC d):=by unfold qg;rw[Af (by simp[Rw5.l])]
 rw[hz];clear hz;have hcl:(yv r).length=20:=rfl;have hct:(yv r).take 20=yv r:=rfl;have hpl:=λp=>ZgG (d:=d) (p:=p) hdt
 have hgl:∀k,((r.l.take k).flatMap (qC d)).length<=1000*k:=by
  intro k
  induction k with
  | zero=>simp
  | succ k ih =>
   by_cases hk:k<5
   ·obtain⟨p,-,-,e⟩:=hat k hk;rw[e,Ap,Ar];have:=hpl p;simp only[Ax,B9,AC];omega
   ·rw[Af (by simp[Rw5.l];omega)]at ih ⊢;omega
 have hrl:r.l.length=5:=rfl;generalize hrc:yv r=rc at *;refine zr func329 ntmps329 results329 λS nx hd=>?_
 refine D7 ?_;intro v0 v1;refine D7 ?_;refine za (qx 5 100 2 rfl λv2=>?_);refine za (ze [] (zo hcl hct) ?_);refine zj (zC (λs':Nat × Nat=>s'.1<=5) (λ(k,v2)=>[(2,.ptr nx v0 0),(3,.ptr (nx+1) v1 0),(5,.sl (nx+2) v2 2 0 ((r.l.take k).flatMap (qC d)).length),(9,.agg rc),(10,I k)]) (λ(k,v2)=>[.cells v0 39 [L d],.cells v1 371 rc,.cells v2 100 (((r.l.take k).flatMap (qC d)).flatMap Enc.enc)]) (λs'=>5-s'.1) (0,v2) [] DZ DZ DZ ?_);rintro⟨k,v2⟩ hk;simp only at hk ⊢
 by_cases hk5:k<5
 ·obtain⟨p,hp1,hp2,hp3⟩:=hat k hk5;have hk5':(k:Int)<5:=DY
  have hk6:4<=20-k*4:=DY
  have hok:=hr p (Ab hp1);have hol:=hgl k;have hnx:(r.l.take (k+1)).flatMap (qC d)=(r.l.take k).flatMap (qC d)++qC d p:=by rw[hp3,Ap];simp
  have hol2:=hpl p;generalize (r.l.take k).flatMap (qC d)=out at *;have wk:=zu k DY;refine za (ze [] hk5' ?_);refine za (zm rfl (zh (za (zj (za (ze [] (yF hp2 hk5 hk5' hcl hk6) ?_))))));intro v3
  by_cases hfo:p.f<p.o
  case neg =>
   have hpz:qC d p=[]:=by unfold qC;rw[if_neg hfo]
   have hfo':p.o<=p.f:=DY
   repeat apply za
   refine ze [] hfo' ?_;refine zm (by simp[hfo']) ?_;refine zx (zb ?_);exact zq (k+1,v2) [_] D2 D2 (by simp[wk,hnx,hpz]) rfl (by simp[hnx,hpz];rfl)
  obtain⟨ht,ho⟩:=hok hfo;obtain⟨t,tt,t1,-,-,t0⟩:=zF rfl d p.t ht;have ht1:1<=d.length-p.t:=DY
  have htg:d.getD p.t []=t:=by rw[Aa,t1];rfl
  unfold qJ at ho;rw[htg]at ho;have hpz:qC d p=bif p.b then ((t.drop p.f).take (p.o-p.f)).reverse else (t.drop p.f).take (p.o-p.f):=by unfold qC;rw[if_pos hfo,htg]
  have hfo':¬p.o<=p.f:=DY
  have hsl:((t.flatMap Enc.enc:List PV).drop (p.f*2)).take ((p.o-p.f)*2)=((t.drop p.f).take (p.o-p.f)).flatMap Enc.enc:=by rw[JQ Enc.enc 2 (λ_=>rfl) t p.f,Qf Enc.enc 2 (λ_=>rfl) (t.drop p.f) (p.o-p.f)]
  have hsl2:((t.drop p.f).take (p.o-p.f)).length=p.o-p.f:=D2
  have hsl3:(((t.drop p.f).take (p.o-p.f)).flatMap Enc.enc:List PV).length=(p.o-p.f)*2:=by rw[Qj,hsl2]
  generalize (t.drop p.f).take (p.o-p.f)=sg at *;have hof:(out.flatMap Enc.enc:List PV).length=out.length*2:=Qj out;have hot:(out.flatMap Enc.enc:List PV).take (out.length*2)=out.flatMap Enc.enc:=Af DY;have q1:p.f<=p.o:=DY
  have htl:=hdt t (Ab t1)
  repeat apply za
  refine ze [] hfo' ?_;refine zk (by simp[hfo']) ?_;refine zh (D7 ?_);refine za (zz (some [nx,nx+3]) (Row.pures [0,1,2,3,4,5,6,7,8,9,10,11,12] (.alt 13 (Row.pures [14] .done) .stop)) mixed (yd t0 ht ht1 hof hot (zN hsl hsl2 q1 ho)) ?_);refine⟨by omega,?_⟩;have hsgl:sg.length<=1000:=by
   have h1:=hdt t (Ab t1);omega
  cases hpb:p.b with
  | false =>
   rw[hpb]at hpz;simp only[cond_false]at hpz;refine za (ze [] hpb ?_);refine zk rfl (zh (zb ?_));exact zq (k+1,v2+1) [_] D2 D2 (by simp[wk,hnx,hpz,hsl2]) rfl (by simp[hnx,hpz];rfl)
  | true =>
   rw[hpb]at hpz;simp only[cond_true]at hpz;have hrev:=λ(S:Store) (id ver:Nat) h=>ZpF (S:=S) (id:=id) (ver:=ver) out sg D2 h
   rw[hsl2]at hrev;refine za (ze [] hpb ?_);refine zm rfl (zb ?_);refine λhsuf=>((hrev _ _ _ (by rw[zZ,Ap];rfl)).mono ?_).v
   rintro _ _ rfl;refine⟨_,_,yl _ DY DZ,jM [] (show nx+2-nx=2 by omega) hsuf ?_⟩;refine zb ?_;exact zq (k+1,v2+1) [_] D2 D2 (by simp[wk,hnx,hpz,hsl2]) rfl (by simp[hnx,hpz];rfl)
 ·obtain rfl:k=5:=DY
  generalize (r.l.take 5).flatMap (qC d)=out at *;refine D7 ?_;refine za (zk rfl (zx (zX 2 rfl ?_)));refine D7 ?_;exact zg (zi hd D0 (by simp[zp]))
open Go Hp
theorem ZgI{α:Type}{d:List α}(hn:d.Nodup){i j:Nat}{t:α}(hi:d[i]?=some t)(hj:d[j]?=some t):i=j:=by grind[List.pairwise_iff_getElem]
def xk(f:zK->Bool):zn->Int
 | []=>-1
 | t :: d=>if 0<=xk f d then xk f d+1 else if f t then 0 else -1
theorem ZgJ(f:zK->Bool):∀d:zn,(xk f d=-1/\∀t∈d,f t=false)\/∃(k:Nat) (t:zK),d[k]?=some t/\f t=true/\xk f d=k
 | []=>.inl ⟨rfl,λt h=>by cases h⟩
 | u :: d=>by
  unfold xk;rcases ZgJ f d with ⟨h1,h2⟩ | ⟨k,t,h1,h2,h3⟩
  ·rw[h1,if_neg DY];cases hu:f u with
   | true=>exact .inr ⟨0,u,rfl,hu,by simp⟩
   | false =>
    simp_all
  ·rw[h3,if_pos DY];exact .inr ⟨k+1,t,by simpa using h1,h2,by simp⟩
def ZcA(d:zn)(a b:Nat)(t:zK)(k:Nat):zn:=(List.range k).flatMap λj=>if j=a then [t] else if j=b then [] else [d.getD j []]
def YK(c:Int)(t:zK):Bool:=decide (Qm t=some c)
def YL(c:Int)(t:zK):Bool:=decide (Jg t=some c)
def YM(x:Inst)(d:zn)(p:Pr):zn :=
 if xk (YK p.a) d<0\/xk (YL p.b) d<0\/xk (YK p.a) d=xk (YL p.b) d\/(p.s<=0/\(d.length:Int)<=x.veh) then d
 else if zQ x (d.getD (xk (YK p.a) d).toNat []++d.getD (xk (YL p.b) d).toNat [])=0 then
  ZcA d (xk (YK p.a) d).toNat (xk (YL p.b) d).toNat (d.getD (xk (YK p.a) d).toNat []++d.getD (xk (YL p.b) d).toNat []) d.length
 else d
theorem ZcB{α β γ:Type}{f:α->List γ}{g:β->List γ}:∀(A:List α) (B:List β),A.length=B.length->(∀(j:Nat) a b,A[j]?=some a->B[j]?=some b->f a=g b)->A.flatMap f=B.flatMap g
 | [],[],_,_=>rfl
 | a :: A,b :: B,hl,h=>by
  rw[Ax,Ax,h 0 a b rfl rfl,ZcB A B (by simpa using hl) λj a b ha hb=>h (j+1) a b (by simpa using ha) (by simpa using hb)]
 | [],_ :: _,hl,_=>by simp at hl
 | _ :: _,[],hl,_=>by simp at hl
theorem ZcC{α:Type}(p:α->Bool):∀l:List α,l.filter p=l.flatMap λa=>if p a then [a] else []
 | []=>rfl
 | a :: l=>by
  rw[Ax,<-ZcC p l,BN];cases p a<;>simp
structure Apt (T:zn):Prop where
 u:∀(i j:Nat) t s s',T[i]?=some t->s∈t->∀t',T[j]?=some t'->s'∈t'->s.c=s'.c->i=j
theorem JI.apt{ss:List Stop}{T:zn}{g:Int->Option Int}(h:JI ss T g):Apt T:=⟨λi j t s s' hi hs t' hj hs' e=>by
 have e1:=h.g i t s hi hs;have e2:=h.g j t' s' hj hs'
 grind⟩
abbrev ne(t:zK):Bool:=!t.isEmpty
theorem Wz{t:zK}(h:ne t=true):∃s,s∈t:=by cases t<;>simp_all
theorem ZgK{t:zK}{s:Stop}(h:s∈t):ne t=true:=D5
def Xi(ta tb u:zK):zn:=if u=ta then [ta++tb] else if u=tb then [] else [u]
theorem ZpH{T:zn}(hA:Apt T){i k:Nat}{ta tb:zK}(hi:T[i]?=some ta)(hk:T[k]?=some tb)(hik:i≠k)(ha:ne ta=true)(hb:ne tb=true):
  ((T.set i (ta++tb)).set k []).filter ne=(T.filter ne).flatMap (Xi ta tb):=by
 rw[ZcC ne T,List.flatMap_assoc,ZcC];refine ZcB _ _ DZ λj u v hu hv=>?_
 obtain⟨sa,hsa⟩:=Wz ha;obtain⟨sb,hsb⟩:=Wz hb;have hjl:=(Ac.1 hv).1
 by_cases h1:k=j
 ·subst h1;rw[AT (by simpa using hjl)]at hu;cases hu;obtain rfl:tb=v:=by rw[hk]at hv;exact Option.some.inj hv
  have hne:tb≠ta:=by
   rintro rfl;exact hik (hA.u i k tb sb sb hi hsb tb hk hsb rfl)
  simp_all[Xi]
 ·rw[AU h1]at hu
  by_cases h2:i=j
  ·subst h2;rw[AT hjl]at hu;cases hu;obtain rfl:ta=v:=by rw[hi]at hv;exact Option.some.inj hv
   simp_all[Xi]
  ·rw[AU h2]at hu;obtain rfl:u=v:=D6
   cases hn:ne u with
   | false=>simp
   | true =>
    obtain⟨su,hsu⟩:=Wz hn;have n1:u≠ta:=by rintro rfl;exact h2 (hA.u i j u su su hi hsu u hv hsu rfl)
    have n2:u≠tb:=by rintro rfl;exact h1 (hA.u k j u su su hk hsu u hv hsu rfl)
    simp_all[Xi]
theorem ZpI{T:zn}(hA:Apt T):(T.filter ne).Nodup:=by
 rw[List.nodup_iff_pairwise_ne,List.pairwise_filter,BD];intro i j hi hj hij h1 h2 e;obtain⟨s,hs⟩:=Wz h1;have:=hA.u i j T[i] s s (Ae hi) hs T[j] (Ae hj) (e ▸ hs) rfl;omega
theorem ZpJ{d:zn}(hn:d.Nodup){a b:Nat}{ta tb:zK}(ha:d[a]?=some ta)(hb:d[b]?=some tb):ZcA d a b (ta++tb) d.length=d.flatMap (Xi ta tb):=by
 unfold ZcA;refine ZcB _ _ DZ λj n u hj hu=>?_
 grind[ZgI,Xi]
theorem ZgL{T:zn}(hA:Apt T){i:Nat}{t:zK}{s:Stop}(hi:T[i]?=some t)(hs:s∈t)(f:zK->Bool)(hf:∀u,f u=true->∃s'∈u,s'.c=s.c):
  (f t=false/\xk f (T.filter ne)=-1)\/(f t=true/\∃k:Nat,(T.filter ne)[k]?=some t/\xk f (T.filter ne)=k):=by
 have uniq:∀u∈T.filter ne,f u=true->u=t:=by
  intro u hu hfu;obtain⟨s',hs',e⟩:=hf u hfu;obtain⟨j,hj⟩:=Bl.1 (A7.1 hu).1;have:=hA.u i j t s s' hi hs u hj hs' e.symm;subst this;rw[hi]at hj;exact(Option.some.inj hj).symm
 grind[ZgJ]
theorem ZpK{c:Int}{t:zK}(h:YK c t=true):∃s∈t,s.c=c:=by
 have h:Qm t=some c:=of_decide_eq_true h
 grind[Qm]
theorem ZpL{c:Int}{t:zK}(h:YL c t=true):∃s∈t,s.c=c:=by
 have h:Jg t=some c:=of_decide_eq_true h
 grind[Jg]
theorem ZcD(p:zK->Bool):∀T:zn,((T.filter p).length:Int)=(T.map λt=>if p t then (1:Int) else 0).sum
 | []=>rfl
 | t :: T=>by
  rw[BN,Az,BP,<-ZcD p T]
  grind
theorem ZpM{T:zn}{i k:Nat}{ta tb:zK}(hi:T[i]?=some ta)(hk:T[k]?=some tb)(hik:i≠k)(ha:ne ta=true)(hb:ne tb=true):
  ((((T.set i (ta++tb)).set k []).filter ne).length:Int)=((T.filter ne).length:Int)-1:=by
 obtain⟨sa,hsa⟩:=Wz ha;rw[ZcD,ZcD,Zcr _ _ k tb [] (by rw[AU hik];exact hk),Zcr _ _ i ta (ta++tb) hi]
 simp_all
theorem ZpN{x:Inst}{ss:List Stop}{st:zn × Int}{g:Int->Option Int}(h:JI ss st.1 g)(hnum:st.2=((st.1.filter ne).length:Int)){p:Pr}(hpa:p.a∈ss.map (·.c))(hpb:p.b∈ss.map (·.c)):
  YM x (st.1.filter ne) p=(ji x st p).1.filter ne/\(ji x st p).2=(((ji x st p).1.filter ne).length:Int)/\∃g',JI ss (ji x st p).1 g':=by
 obtain⟨i,a,sa,hia,hsa,hsac,hga,hpi⟩:=h.there hpa;obtain⟨k,b,sb,hkb,hsb,hsbc,hgb,hpk⟩:=h.there hpb;have hgi:st.1.getD i []=a:=by rw[Aa,hia];rfl
 have hgk:st.1.getD k []=b:=by rw[Aa,hkb];rfl
 have hdef:ji x st p=bif qB x st.2 p i k a b then ((st.1.set i (a++b)).set k [],st.2-1) else st:=by
  unfold ji Wt;simp only[hpi,hpk,hgi,hgk]
 have hA:=h.apt;have hna:=ZgK hsa;have hnb:=ZgK hsb;have hnd:=ZpI hA;rw[hdef];have stay:qB x st.2 p i k a b=false->YM x (st.1.filter ne) p=st.1.filter ne->YM x (st.1.filter ne) p=(bif qB x st.2 p i k a b then ((st.1.set i (a++b)).set k [],st.2-1) else st).1.filter ne/\(bif qB x st.2 p i k a b then ((st.1.set i (a++b)).set k [],st.2-1) else st).2=(((bif qB x st.2 p i k a b then ((st.1.set i (a++b)).set k [],st.2-1) else st).1.filter ne).length:Int)/\∃g',JI ss (bif qB x st.2 p i k a b then ((st.1.set i (a++b)).set k [],st.2-1) else st).1 g':=by
  intro e1 e2;rw[e1];exact⟨e2,hnum,g,h⟩
 rcases ZgL hA hia hsa (YK p.a) (λu hu=>by rw[hsac];exact ZpK hu) with ⟨fa,la⟩ | ⟨fa,ka,ha1,la⟩
 ·have e1:Qm a≠some p.a:=of_decide_eq_false fa;refine stay (by simp[qB,e1]) ?_;unfold YM;rw[if_pos (.inl DY)]
 rcases ZgL hA hkb hsb (YL p.b) (λu hu=>by rw[hsbc];exact ZpL hu) with ⟨fb,lb⟩ | ⟨fb,kb,hb1,lb⟩
 ·have e1:Jg b≠some p.b:=of_decide_eq_false fb;refine stay (by simp[qB,e1]) ?_;unfold YM;rw[if_pos (.inr (.inl DY))]
 have e1:Qm a=some p.a:=of_decide_eq_true fa;have e2:Jg b=some p.b:=of_decide_eq_true fb;have hab:ka=kb<->i=k:=by
  constructor
  ·rintro rfl;obtain rfl:a=b:=by rw[ha1]at hb1;exact Option.some.inj hb1
   exact hA.u i k a sa sa hia hsa a hkb hsa rfl
  ·rintro rfl;obtain rfl:a=b:=by rw[hia]at hkb;exact Option.some.inj hkb
   exact ZgI hnd ha1 hb1
 have ga:(st.1.filter ne).getD (ka:Int).toNat []=a:=by rw[AO,Aa,ha1];rfl
 have gb:(st.1.filter ne).getD (kb:Int).toNat []=b:=by rw[AO,Aa,hb1];rfl
 by_cases hik:i=k
 ·refine stay (by simp[qB,hik]) ?_;unfold YM;rw[if_pos (.inr (.inr (.inl (by rw[la,lb,hab.2 hik]))))]
 by_cases hfew:p.s<=0/\st.2<=x.veh
 ·refine stay (by simp[qB,hfew.1,hfew.2]) ?_;unfold YM;rw[if_pos (.inr (.inr (.inr ⟨hfew.1,by omega⟩)))]
 have hcond:¬(xk (YK p.a) (st.1.filter ne)<0\/xk (YL p.b) (st.1.filter ne)<0\/xk (YK p.a) (st.1.filter ne)=xk (YL p.b) (st.1.filter ne)\/(p.s<=0/\((st.1.filter ne).length:Int)<=x.veh)):=by
  rw[la,lb];rintro(q | q | q | q)
  ·omega
  ·omega
  ·exact hik (hab.1 DY)
  ·exact hfew ⟨q.1,by omega⟩
 by_cases hmay:zQ x (a++b)=0
 ·have hc:qB x st.2 p i k a b=true:=by
   unfold qB;simp only[hik,e1,e2,hmay,Aw,decide_eq_true_eq,ne_eq,not_false_eq_true,Co,Bool.and_eq_false_iff,decide_eq_false_iff_not,and_true,true_and]
   by_cases q:p.s<=0
   ·exact .inr λe=>hfew ⟨q,e⟩
   ·exact .inl q
  rw[hc];simp only[cond_true];refine⟨?_,?_,_,h.join hia hkb hik⟩
  ·unfold YM;rw[if_neg hcond,la,lb,ga,gb,if_pos hmay,ZpH hA hia hkb hik hna hnb,<-ZpJ hnd ha1 hb1];rfl
  ·rw[ZpM hia hkb hik hna hnb,hnum]
 simp_all[qB,YM]
theorem ZpO(ss:List Stop):(ss.map λs=>[s]).filter ne=qO ss:=by simp[qO]
open Go Hp
theorem ZgM(l:List Stop):(qO l).length=l.length:=by simp[qO]
theorem ZpP{x:Inst}{ss:List Stop}{T:zn}{g:Int->Option Int}(h:JI ss T g)(hss:ss.length<=1000):(T.filter ne).length<=1000/\(T.filter ne).flatten.length<=1000/\∀t∈T.filter ne,t≠[]:=by
 have hf:(T.filter ne).flatten=T.flatten:=by
  induction T with
  | nil=>rfl
  | cons t T ih =>
   clear h;have key:∀T:zn,(T.filter ne).flatten=T.flatten:=by
    intro T
    induction T with
    | nil=>rfl
    | cons t T ih =>
     rw[BN];cases t with
     | nil=>simpa using ih
     | cons s t=>simp[ih]
   exact key _
 have hne:∀t∈T.filter ne,t≠[]:=λt ht e=>by
  have:=(A7.1 ht).2;rw[e]at this;cases this
 have hl:=h.perm.length_eq;have h1:=Zab (T.filter ne) hne;rw[hf]at h1;exact⟨by omega,by rw[hf];omega,hne⟩
open Go Go.Proofs Hp
structure SOk (x:Inst) (l:List Stop):Prop where
 cust:x.cust.length<=1048576
 arc:qX x
 veh:0<=x.veh
 len:l.length<=1000
 sm:∀s∈l,qe s.c
 nd:(l.map (·.c)).Nodup
def Qv(x:Inst)(l:List Stop):List zn:=[vg x l,qO l]++(bif (jq x l).2 then [(jq x l).1] else [])
def Z7(x:Inst)(imp:zn->zn)(l:List Stop):List zn:=[qO l,imp (vg x l),imp (qO l)]++(bif (jq x l).2 then [imp (jq x l).1] else [])
theorem ZgN{x:Inst}(hx:x.cust.length<=1048576):∀(n:Nat) (d:zn) (l:List Stop),l.length=n->RgOk x d l->RgOk x (un x n d l).1 []/\((un x n d l).2=true->(un x n d l).1.flatten.Perm (d.flatten++l))
 | 0,d,l,hl,h=>by simp_all[un]
 | n+1,d,l,hl,h=>by
  have hne:l≠[]:=λe=>by simp_all
  obtain⟨k,hu,hk⟩:=ZgA (x:=x) (d:=d) hne;have hg:l.getD k default=l[k]:=by rw[Aa,Ae hk];rfl
  unfold un;rw[hu,AO,hg];cases hi:(yL x d l[k]).2 with
  | false =>
   refine⟨⟨h.ok,h.may,?_⟩,λe=>by cases e⟩;have:=h.len
   grind
  | true =>
   simp only[cond_true];obtain⟨h1,h2⟩:=ZgN hx n (yL x d l[k]).1 (l.eraseIdx k) (by rw[BU hk];omega) (h.step hx hk hi);refine⟨h1,λe=>(h2 e).trans ?_⟩;have hp:=Zae hi;refine(hp.append_right _).trans ?_
   grind[List.eraseIdx_eq_take_drop_succ,List.drop_eq_getElem_cons,List.take_append_drop]
section
variable {x:Inst} {l:List Stop} (h:SOk x l)
include h
theorem SOk.apart:DayOk (qO l)/\(qO l).flatten=l/\(qO l).length<=1000:=by
 have hf:(qO l).flatten=l:=by
  unfold qO;clear h
  induction l with
  | nil=>rfl
  | cons s l ih=>simpa using ih
 refine⟨⟨?_,λt ht=>?_,λt ht a ha=>?_⟩,hf,?_⟩
 ·rw[ZgM];have:=h.len;omega
 ·obtain⟨s,_,rfl⟩:=Am.1 ht;simp
 ·obtain⟨s,hs,rfl⟩:=Am.1 ht;simp at ha;subst ha;exact h.sm _ hs
 ·rw[ZgM];exact h.len
theorem SOk.join:DayOk (vg x l)/\(vg x l).flatten.Perm l/\(vg x l).length<=1000/\∀t∈vg x l,t≠[]:=by
 obtain⟨g,hg⟩:=JI.begin l [] [] _ JI.nil (by simpa using h.nd);have key:∀(ps:List Pr) (st:zn × Int),(∃g,JI l st.1 g)->st.2=((st.1.filter ne).length:Int)->(∀p∈ps,p.a∈l.map (·.c)/\p.b∈l.map (·.c))->∃g,JI l (ps.foldl (ji x) st).1 g:=by
  intro ps
  induction ps with
  | nil=>simp_all
  | cons p ps ih =>
   rintro st ⟨g,hg⟩ hn hp;obtain⟨h1,h2⟩:=hp p DZ;obtain⟨e1,e2,e3⟩:=ZpN (x:=x) hg hn h1 h2;rw[A4];exact ih _ e3 e2 λq hq=>hp q (by simp[hq])
 obtain⟨g',hg'⟩:=key (qW x (l.map (·.c))) (l.map λs=>[s],(l.length:Int)) ⟨g,by simpa using hg⟩ (by simp[ZpO,qO]) λp hp=>by grind[V3,Jf]
 have hjp:vg x l=((qW x (l.map (·.c))).foldl (ji x) (l.map λs=>[s],(l.length:Int))).1.filter ne:=rfl;obtain⟨w1,w2,w3⟩:=ZpP (x:=x) hg' h.len;have hfl:∀T:zn,(T.filter ne).flatten=T.flatten:=by
  intro T
  induction T with
  | nil=>rfl
  | cons t T ih =>
   grind
 have hp:(vg x l).flatten.Perm l:=by rw[hjp,hfl];exact hg'.perm
 rw[<-hjp]at w1 w2 w3;refine⟨⟨by omega,λt ht=>?_,λt ht a ha=>?_⟩,hp,w1,w3⟩
 ·have:=(YH ht).length_le;omega
 ·exact h.sm a (hp.subset ((YH ht).subset ha))
theorem SOk.regret:RgOk x (jq x l).1 []/\((jq x l).2=true->(jq x l).1.flatten.Perm l):=by
 have:=ZgN h.cust l.length [] l rfl (ZgB h.veh h.len)
 simp_all[jq]
end
def ZgO(x:Inst)(b:Int)(imp:zn->zn)(ds:List zn):Prop:=∀d∈ds,(∃n,Pure prog 252 [.agg (zy x),.agg [L d],I b] (.tup [.agg [L (imp d)],I n]))/\DayOk (imp d)/\(imp d).flatten.length<=1048576
theorem ZpQ(x:Inst)(l:List Stop)(b:Int)(imp:zn->zn)(h:SOk x l)(hI:wM x l=0->ZgO x b imp (Qv x l)):
  Pure prog 249 [.agg (zy x),L l,I b] (.tup [.agg [L (x8 x (wM x l) (Z7 x imp l)).1],I (x8 x (wM x l) (Z7 x imp l)).2]):=by
 have hF:=ZmH x l h.cust (by have:=h.len;omega)
 by_cases he:wM x l=0
 case neg=>exact ZfV x (L l) b _ _ (Ji l) h.cust hF (λe=>absurd e he) λe=>absurd e he
 have hI:=hI he;have hA:=ZmG l (by have:=h.len;omega);have hJ:=Zom x l h.arc h.cust h.len h.sm h.nd;have hR:=Zps x l h.cust h.veh h.len;obtain⟨⟨n1,i1⟩,o1,f1⟩:=hI (vg x l) (by simp[Qv]);obtain⟨⟨n2,i2⟩,o2,f2⟩:=hI (qO l) (by simp[Qv]);obtain⟨a1,a2,a3⟩:=h.apart;have h3:(jq x l).2=true->(∃n,Pure prog 252 [.agg (zy x),.agg [L (jq x l).1],I b] (.tup [.agg [L (imp (jq x l).1)],I n]))/\DayOk (imp (jq x l).1)/\(imp (jq x l).1).flatten.length<=1048576:=λe=>hI _ (by simp[Qv,e])
 have hlen:=h.len;have hit:=Zor (fsL x (L l) b) [some (qO l),some (imp (vg x l)),some (imp (qO l)),bif (jq x l).2 then some (imp (jq x l).1) else none] rfl DZ (by
  intro k f hf
  match k with
  | 0=>cases hf;exact⟨_,_,L (qO l),rfl,Zoo (L l) (qO l) (Ji l) hA,λd hd=>by cases hd;rfl⟩
  | 1=>cases hf;exact⟨_,_,L (imp (vg x l)),rfl,Zop x (L l) b _ _ _ (Ji l) hJ i1,λd hd=>by cases hd;rfl⟩
  | 2=>cases hf;exact⟨_,_,L (imp (qO l)),rfl,Zoq x (L l) b _ _ _ (Ji l) hA i2,λd hd=>by cases hd;rfl⟩
  | 3 =>
   cases hf;cases hall:(jq x l).2 with
   | true =>
    obtain⟨⟨n3,i3⟩,-⟩:=h3 hall;rw[hall]at hR;exact⟨_,_,L (imp (jq x l).1),rfl,ZfU x (L l) b _ _ true n3 (Ji l) hR (λ_=>i3),λd hd=>by cases hd;rfl⟩
   | false =>
    rw[hall]at hR;exact⟨_,_,yu,rfl,ZfU x (L l) b _ [] false 0 (Ji l) hR (λe=>by cases e),λd hd=>by cases hd⟩
  | k+4=>cases hf)
 have hds:([some (qO l),some (imp (vg x l)),some (imp (qO l)),bif (jq x l).2 then some (imp (jq x l).1) else none]:List (Option zn)).filterMap id=Z7 x imp l:=by
  unfold Z7;cases (jq x l).2<;>rfl
 rw[hds]at hit;refine ZfV x (L l) b (wM x l) (Z7 x imp l) (Ji l) h.cust hF (λ_=>hit) λ_ d hd=>?_
 grind
open Go Go.Proofs Hp
theorem ZpR{P:Program}{r:Rd}{n:Nat}{F:Nat->PV}{S:Store}{o:Oper}{t e:TypeId}{len:Nat}{parts:Array (Nat × Operand)}{cs:List PV}{K:PV->Store->Prop}(ho:o.op=.buildSlice t len parts)(ht:P.underlying t=some (.slice e))(h0:P.cellsOf e≠0)(hlen:len<=1048576)
  (hl:Yw P e len (parts.toList.map λx=>(x.1,ev F x.2))=some cs)
  (hK:∀C:Ctx,S C.next=.dead->∃id v,Fresh C S id v/\K (.sl id v (P.cellsOf e) 0 len) (S.set id (.cells v e cs))):PO P r n o F S K:=by
 intro G hG C w a N st next Q' hnext;have hmap:parts.toList.map (λx=>(x.1,ev G x.2))=parts.toList.map (λx=>(x.1,ev F x.2)):=AN λx hx=>by
  rw[hG x.2 (by simp only[ho,Op.operands,List.mem_toArray,Am];first | exact⟨x,hx,rfl⟩ | (simp;exact⟨x.1,by simpa using hx⟩))]
 rw[<-hmap]at hl;obtain⟨vs,hrun,hr,hsz⟩:=Zel (w:=w) ht (ev G) a.eval st.ev hl;obtain⟨id,ver,hfr,hK⟩:=hK C st.sim.free;obtain⟨k1,k2⟩:=st.sim.object' hfr e vs cs (Cx hr.1) (λi v _ hv=>hr.2.1 i v hv) hr.2.2;refine qj (x:=.value (.slice (some ⟨w.heap.size,0,none⟩) len len)) (w':=w.alloc (.cells vs e)) (by intro c hc;rw[ho]at hc;cases hc) ?_
  (hnext _ _ _ _ _ hK (X9 C S w _ _ _ _ _ _ _ _ rfl (Ag _) (by unfold j8;omega) (by unfold maxLen;omega) hsz.symm) k1 k2)
 unfold execOp;simp only[ho];have e1:(parts.map λx=>(x.1,a.eval x.2))=(parts.toList.map λx=>(x.1,a.eval x.2)).toArray:=by
  apply BM.1;simp
 simp only[e1,hrun,Sem.run_bind,Sem.run_pure,An]
theorem ZpS{P:Program}{r:Rd}{n nx:Nat}{F:Nat->PV}{S:Store}{obs:List Ob}{o:Oper}{t e:TypeId}{len:Nat}{parts:Array (Nat × Operand)}{cs:List PV}{K:PV->Store->Prop}(ho:o.op=.buildSlice t len parts)(ht:P.underlying t=some (.slice e))(h0:P.cellsOf e≠0)(hlen:len<=1048576)
  (hl:Yw P e len (parts.toList.map λx=>(x.1,ev F x.2))=some cs) (hK:∀v,K (.sl (nx+obs.length) v (P.cellsOf e) 0 len) (ext S nx (obs++[.cells v e cs]))):PO P r n o F (ext S nx obs) K :=
 ZpR ho ht h0 hlen hl (ZT (X:=λid v=>K (.sl id v (P.cellsOf e) 0 len) ((ext S nx obs).set id (.cells v e cs))) _ uZ λv=>by rw[qV];exact hK v)
open Go Go.Proofs
theorem ZpT{P:Program}{r:Rd}{n nx N:Nat}{Q:Exit->(Nat->PV)->Store->Prop}{F:Nat->PV}{S:Store}{obs:List Ob}{A:Prop}{R:Nat->KT->CT->HT->Prop}{id:Nat}{ops:Array Oper}{o:Oper}{os:List Oper}{t e:TypeId}{len:Nat}{parts:Array (Nat × Operand)}
  (D:List (Nat × Nat)) (cs:List PV) (ht:P.underlying t=some (.slice e)) (a:A) (h:∀v,R v (λF' S' obs'=>Q .normal F' (ext S' nx obs')) (CQ P r n nx ops λF' S' obs'=>Q .normal F' (ext S' nx obs')) (HQ P r n nx ops λF' S' obs'=>Q .normal F' (ext S' nx obs')))
  (hops:ops.toList=o :: os:=by rfl) (hg:o.guard=none:=by rfl) (ho:o.op=.buildSlice t len parts:=by rfl) (h0:P.cellsOf e≠0:=by simp) (hlen:len<=1048576:=by decide)
  (hl:Yw P e len (parts.toList.map λx=>(x.1,ev F x.2))=some cs:=by simp[Yw,Yv]) (hN:wX N ops=true:=by rfl) (hD:uE ops D=true:=by rfl)
  (hR:A->∀v,XQ P nx D os (zY F o.dst (.sl (nx+obs.length) v (P.cellsOf e) 0 len)) S (obs++[.cells v e cs]) (R v):=by intro a v K Gc Gh X hX0 hX h;simp -implicitDefEqProofs [hX0,hX,a];exact h):PW P r n N (.region id ops false) Q F (ext S nx obs):=by
 refine ZbI hN ?_;rw[hops];unfold XS;have:gd ops F o=some true:=by unfold gd;rw[hg]
 rw[this];exact ZpS ho ht h0 hlen hl λv=>⟨_,_,rfl,Ja (by rw[hops];exact List.suffix_cons _ _) hD (hR a v) (h v)⟩
def yB(x:Inst)(t:zK):Nat->Int
 | 0=>0
 | i+1=>yB x t i+arc x ((t.getD i default).c+1) ((t.getD (i+1) default).c+1)
def yC(x:Inst)(t:zK):Nat->Int
 | 0=>0
 | i+1=>yC x t i+arc x ((t.getD (i+1) default).c+1) ((t.getD i default).c+1)
theorem Xj{x:Inst}(h:qX x)(t:zK):∀i:Nat,0<=yB x t i/\yB x t i<=2147483648*(i:Int)
 | 0=>by simp[yB]
 | i+1=>by
  have h1:=Xj h t i;have h2:=h ((t.getD i default).c+1) ((t.getD (i+1) default).c+1);unfold yB;omega
theorem Xk{x:Inst}(h:qX x)(t:zK):∀i:Nat,0<=yC x t i/\yC x t i<=2147483648*(i:Int)
 | 0=>by simp[yC]
 | i+1=>by
  have h1:=Xk h t i;have h2:=h ((t.getD (i+1) default).c+1) ((t.getD i default).c+1);unfold yC;omega
structure Sm where
 f:List Int
 b:List Int
 l:List Int
 n:Int
instance:Enc Sm:=⟨λs=>[L s.f,L s.b,L s.l,I s.n],4,λ_=>rfl,λ_=>rfl⟩
@[simp] theorem Zzx(s:Sm):Enc.enc s=[L s.f,L s.b,L s.l,I s.n]:=rfl
@[simp high] theorem ZgP(l:List Sm):(l.flatMap Enc.enc).length=l.length*4:=xy l
@[simp high] theorem Zzy(l:List Sm):(l.flatMap Enc.enc).take (l.length*4)=l.flatMap Enc.enc:=YE l
def xl(x:Inst)(t:zK):Sm:=⟨(List.range t.length).map (yB x t),(List.range t.length).map (yC x t),(List.range (t.length+1)).map λi=>zU (t.take i),yE x (t.map (·.c))⟩
abbrev uP(x:Inst)(d:zn):List PV:=[I x.days,I x.veh,I x.cap,I x.len,L x.cust,L x.dist,L d,L (d.map (xl x))]
structure MvDay (d:zn):Prop where
 n:d.length<=1000
 t:∀t∈d,t.length<=1000
 s:∀t∈d,∀s∈t,qe s.c/\0<=s.q/\s.q<=2147483648
theorem ZpU{t:zK}{i:Nat}{s:Stop}(h:t.take (i+1)=t.take i++[s]):zU (t.take (i+1))=zU (t.take i)+s.q:=by rw[h,VZ]
theorem ZcE{α:Type}(f:Nat->α)(k:Nat):(List.range (k+1)).map f=(List.range k).map f++[f k]:=by rw[AH,List.map_append];rfl
theorem ZpV(id v:Nat)(cs:List PV)(l:List Sm):(l.flatMap Enc.enc).map (qy id v cs)=(l.flatMap Enc.enc:List PV):=by
 induction l with
 | nil=>rfl
 | cons s l ih=>rw[Ax,List.map_append,ih];rfl
theorem ZpW(x:Inst)(d:zn)(hx:qX x)(hd':MvDay d):Pure prog 324 [.agg (zy x),.agg [L d]] (.ip (uP x d)):=by
 have hdn:=hd'.n;refine zr func324 ntmps324 results324 λS nx hd=>?_
 refine D7 ?_;intro v0 v1;refine D7 ?_;intro v2;refine je 2 7 410 4 rfl rfl λv3=>?_
 repeat apply za
 refine zb ?_;refine zj (zC (λs':Nat × Nat=>s'.1<=d.length) (λ(k,v3)=>[(2,.ptr nx v0 0),(5,.ptr (nx+2) v2 0),(20,L d),(21,I d.length),(22,I k)]) (λ(k,v3)=>[.cells v0 25 (zy x),.cells v1 39 [L d],.cells v2 408 [I x.days,I x.veh,I x.cap,I x.len,L x.cust,L x.dist,L d,.sl (nx+3) v3 4 0 k],.cells v3 410 (((d.map (xl x)).take k).flatMap Enc.enc)]) (λs'=>d.length-s'.1) (0,v3) [] DZ DZ DZ ?_);rintro⟨k,v3⟩ hk;simp only at hk ⊢;refine D7 ?_;refine za (zv rfl (λhc=>?_) (λhc=>?_))
 ·simp at hc;obtain⟨t,tl,a1,a2,a3,e0⟩:=zF rfl d k hc;have hk1:1<=d.length-k:=DY
  have htm:=Ab a1;have htl:=hd'.t t htm;have hts:=hd'.s t htm;have hlw:=Wm x t DY (λs hs=>(hts s hs).1);have hwz:=Wy hx (t.map (·.c));rw[List.length_map]at hwz;rw[show W (yE x (t.map (·.c)))=yE x (t.map (·.c)) from wr _ DY DY]at hlw;refine zh (za (zj (za (ze [] (zD e0 hc hk1) ?_))));intro v4;refine za (ZpT [] [I 0] underlying26 trivial ?_);intro v5;refine zt hlw ?_;intro v6;refine D7 ?_;refine je 6 0 3 1 rfl rfl λv7=>?_
  refine je 6 1 3 1 rfl rfl λv8=>?_
  repeat apply za
  refine zb ?_;generalize hpc:(((d.map (xl x)).take k).flatMap Enc.enc:List PV)=pc at *;generalize hwl:yE x (t.map (·.c))=wl at *;refine zj (zC (λs':Nat × Nat × Nat × Nat=>s'.1<=t.length) (λ(i,v5,v7,v8)=>[(2,.ptr nx v0 0),(5,.ptr (nx+2) v2 0),(7,.ptr (nx+4) v4 0),(8,.ptr (nx+6) v6 0),(9,I (yB x t (i-1))),(10,I (yC x t (i-1))),(20,L d),(21,I d.length),(22,I k),(32,L t),(33,I t.length),(34,I i)])
   (λ(i,v5,v7,v8)=>[.cells v0 25 (zy x),.cells v1 39 [L d],.cells v2 408 [I x.days,I x.veh,I x.cap,I x.len,L x.cust,L x.dist,L d,.sl (nx+3) v3 4 0 k],.cells v3 410 pc,.cells v4 42 [L t],.cells v5 3 (((List.range (i+1)).map λi=>zU (t.take i)).flatMap Enc.enc),
    .cells v6 410 [.sl (nx+7) v7 1 0 i,.sl (nx+8) v8 1 0 i,.sl (nx+5) v5 1 0 (i+1),I wl],.cells v7 3 (((List.range i).map (yB x t)).flatMap Enc.enc),.cells v8 3 (((List.range i).map (yC x t)).flatMap Enc.enc)]) (λs'=>t.length-s'.1) (0,v5,v7,v8) [] DZ (by simp[yB,yC]) (by simp[zU]) ?_)
  rintro⟨i,v5,v7,v8⟩ hi;simp only at hi ⊢;refine D7 ?_;refine za (zv rfl (λhci=>?_) (λhci=>?_))
  ·simp at hci;obtain⟨s,ts,s1,s2,s3,-,s0⟩:=el 2 rfl t i hci;have hi2:2<=t.length*2-i*2:=DY
   obtain⟨hsm,hq0,hq1⟩:=hts s (Ab s1);have hgs:t.getD i default=s:=by rw[Aa,s1];rfl
   have wi:=zu i DY;have f1:=ZcE (yB x t) i;have f2:=ZcE (yC x t) i;have f3:=ZcE (λi=>zU (t.take i)) (i+1);have hlz:=ZpU s3;have hlb:=Zcm (t:=t.take i) (λa ha=>(hts a (Bq ha)).2);have hlt:(t.take i).length<=1000:=by rw[Ay];omega
   have wl1:IntKind.i64.wrap (zU (t.take i)+s.q)=zU (t.take (i+1)):=by rw[hlz];exact wr _ DY DY
   have g1:(((List.range i).map (yB x t)).flatMap Enc.enc:List PV).length=i:=by rw[jf];simp
   have g2:(((List.range i).map (yC x t)).flatMap Enc.enc:List PV).length=i:=by rw[jf];simp
   have g3:(((List.range (i+1)).map λi=>zU (t.take i)).flatMap Enc.enc:List PV).length=i+1:=by rw[jf];simp
   obtain⟨lz,tlz,z1,-,-,z0⟩:=zF rfl ((List.range (i+1)).map λi=>zU (t.take i)) i DZ;have hlzz:lz=zU (t.take i):=by simpa using z1.symm
   have c1:(((List.range (i+1)).map (yB x t)).flatMap Enc.enc:List PV)=((List.range i).map (yB x t)).flatMap Enc.enc++[I (yB x t i)]:=by rw[f1,Ap];rfl
   have c2:(((List.range (i+1)).map (yC x t)).flatMap Enc.enc:List PV)=((List.range i).map (yC x t)).flatMap Enc.enc++[I (yC x t i)]:=by rw[f2,Ap];rfl
   have c3:(((List.range (i+1+1)).map λi=>zU (t.take i)).flatMap Enc.enc:List PV)=((List.range (i+1)).map λi=>zU (t.take i)).flatMap Enc.enc++[I (zU (t.take (i+1)))]:=by rw[f3,Ap];rfl
   rw[hlzz]at z0;clear f1 f2 f3 z1 hlzz hlz;generalize (((List.range i).map (yB x t)).flatMap Enc.enc:List PV)=fc at *;generalize (((List.range i).map (yC x t)).flatMap Enc.enc:List PV)=bc at *;generalize (((List.range (i+1)).map λi=>zU (t.take i)).flatMap Enc.enc:List PV)=lc at *;have t1:fc.take i=fc:=Af DY;have t2:bc.take i=bc:=Af DY;have t3:lc.take (i+1)=lc:=Af DY;refine zh (za (zj (za (ze [] (zD s0 hci hi2) ?_))));intro v9;apply za;refine qz (nx:=nx) (λ_:Unit=>True) (λ_=>[(2,.ptr nx v0 0),(5,.ptr (nx+2) v2 0),(7,.ptr (nx+4) v4 0),(8,.ptr (nx+6) v6 0),(9,I (yB x t i)),(10,I (yC x t i)),(11,I i),(12,.ptr (nx+9) v9 0),(20,L d),(21,I d.length),(22,I k),(32,L t),(33,I t.length),(34,I i)]) (λ_=>S)
    (λ_=>[.cells v0 25 (zy x),.cells v1 39 [L d],.cells v2 408 [I x.days,I x.veh,I x.cap,I x.len,L x.cust,L x.dist,L d,.sl (nx+3) v3 4 0 k],.cells v3 410 pc,.cells v4 42 [L t],.cells v5 3 lc,
    .cells v6 410 [.sl (nx+7) v7 1 0 i,.sl (nx+8) v8 1 0 i,.sl (nx+5) v5 1 0 (i+1),I wl],.cells v7 3 fc,.cells v8 3 bc,.cells v9 100 [I s.c,I s.q]]) ?_ ?_
   ·by_cases h0:0<i
    ·obtain⟨j,rfl⟩:∃j,i=j+1:=⟨i-1,by omega⟩;obtain⟨p,tp,p1,-,-,-,p0⟩:=el 2 rfl t j DY;obtain⟨hpm,-,-⟩:=hts p (Ab p1);have hgp:t.getD j default=p:=by rw[Aa,p1];rfl
     have hj2:2<=t.length*2-j*2:=DY
     have hjl:j<t.length:=DY
     have wj:IntKind.i64.wrap (j:Int)=(j:Int):=wr _ DY DY;have wp:=Zt hpm;have ws:=Zt hsm;have ar1:=w8 x (p.c+1) (s.c+1);have ar2:=w8 x (s.c+1) (p.c+1);have hfz:yB x t (j+1)=yB x t j+arc x (p.c+1) (s.c+1):=by conv=>lhs;unfold yB;rw[hgs,hgp]
     have hbz:yC x t (j+1)=yC x t j+arc x (s.c+1) (p.c+1):=by conv=>lhs;unfold yC;rw[hgs,hgp]
     have b1:=Xj hx t (j+1);have b2:=Xk hx t (j+1);have wf:IntKind.i64.wrap (yB x t j+arc x (p.c+1) (s.c+1))=yB x t (j+1):=by rw[hfz]at b1 ⊢;exact wr _ DY DY
     have wb:IntKind.i64.wrap (yC x t j+arc x (s.c+1) (p.c+1))=yC x t (j+1):=by rw[hbz]at b2 ⊢;exact wr _ DY DY
     simp only[B5];have h0':(0:Int)<((j+1:Nat):Int):=DY
     refine za (ze [] (zo h0 h0') ?_);refine zm DZ ?_;refine za (zz (some [nx+4,nx+9]) (Row.pures [0,1,2,3,4,5,6,7,8,9,10,11,12] .done) mixed (yd wj p0 hjl hj2 wp ws) ?_);refine D7 ?_;refine qt [] ar1 wf ?_;refine zb ?_;refine qt [] ar2 wb ?_;exact zT () [] trivial DZ rfl DZ
    ·obtain rfl:i=0:=DY
     refine D7 ?_;exact zk rfl (zh (zT () [] trivial DZ rfl DZ))
   ·rintro⟨⟩ -;apply za;refine qz (nx:=nx) (λ_:Unit=>True) (λ_=>[(2,.ptr nx v0 0),(5,.ptr (nx+2) v2 0),(7,.ptr (nx+4) v4 0),(8,.ptr (nx+6) v6 0),(9,I (yB x t i)),(10,I (yC x t i)),(11,I i),(12,.ptr (nx+9) v9 0),(20,L d),(21,I d.length),(22,I k),(32,L t),(33,I t.length),(34,I i)]) (λ_=>S)
     (λ_=>[.cells v0 25 (zy x),.cells v1 39 [L d],.cells v2 408 [I x.days,I x.veh,I x.cap,I x.len,L x.cust,L x.dist,L d,.sl (nx+3) v3 4 0 k],.cells v3 410 pc,.cells v4 42 [L t],.cells v5 3 lc,
     .cells v6 410 [.sl (nx+7) (v7+1) 1 0 (i+1),.sl (nx+8) (v8+1) 1 0 (i+1),.sl (nx+5) v5 1 0 (i+1),I wl],.cells (v7+1) 3 (fc++[I (yB x t i)]),.cells (v8+1) 3 (bc++[I (yC x t i)]),.cells v9 100 [I s.c,I s.q]]) ?_ ?_
    ·repeat apply za
     refine zz (some []) (Row.pures [0,2,3,5,7,8] (.alt 1 (.alt 4 (.alt 6 (Row.pures [10] (.alt 9 (.alt 11 (Row.pures [12] (.alt 13 (.done) .stop)) .stop) .stop)) .stop) (.alt 6 (.alt 4 (Row.pures [10] (.alt 9 (.alt 11 (Row.pures [12] (.alt 13 (.done) .stop)) .stop) .stop)) .stop) .stop)) (.alt 6 (.alt 1 (.alt 4 (Row.pures [10] (.alt 9 (.alt 11 (Row.pures [12] (.alt 13 (.done) .stop)) .stop) .stop)) .stop) .stop) .stop))) mixed (zN g1 g2 t1 t2) ?_
     repeat' (first | refine And.intro DY ?_ | apply And.intro)
     all_goals exact zT () [] trivial DZ rfl DZ
    ·rintro⟨⟩ -;have z1:(i:Int)<(i:Int)+1:=DY
     have z2:i<i+1:=DY
     have z3:1<=i+1-i:=DY
     refine zz (some [nx+9]) (Row.pures [0,2,4,7,8] (.alt 1 (.alt 3 (Row.pures [5] (.alt 6 (Row.pures [9,10] (.alt 11 (Row.pures [12] (.alt 13 (.done) .stop)) .stop)) .stop)) .stop) (.alt 3 (Row.pures [5] (.alt 1 (.alt 6 (Row.pures [9,10] (.alt 11 (Row.pures [12] (.alt 13 (.done) .stop)) .stop)) .stop) (.alt 6 (Row.pures [9,10] (.alt 1 (.alt 11 (Row.pures [12] (.alt 13 (.done) .stop)) .stop) .stop)) .stop))) .stop))) mixed (yd z0 z1 z2 z3 wl1 (zo g3 t3)) ?_
     repeat' (first | refine And.intro DY ?_ | apply And.intro)
     all_goals
      refine ze [] wi ?_;exact zq (i+1,v5+1,v7+1,v8+1) [_] hci D2 (by simp[wi]) rfl (by simp[c1,c2,c3];rfl)
  ·simp at hci;obtain rfl:i=t.length:=DY
   refine zx ?_;clear hi hci;have hsm:xl x t=⟨(List.range t.length).map (yB x t),(List.range t.length).map (yC x t),(List.range (t.length+1)).map λi=>zU (t.take i),wl⟩:=by unfold xl;rw[hwl]
   have g1:(((List.range t.length).map (yB x t)).flatMap Enc.enc:List PV).length=t.length:=by rw[jf];simp
   have g2:(((List.range t.length).map (yC x t)).flatMap Enc.enc:List PV).length=t.length:=by rw[jf];simp
   have g3:(((List.range (t.length+1)).map λi=>zU (t.take i)).flatMap Enc.enc:List PV).length=t.length+1:=by rw[jf];simp
   have hfz:∀id v cs,pc.map (qy id v cs)=pc:=λid v cs=>by rw[<-hpc];exact ZpV id v cs _
   have hpl:pc.length=k*4:=by rw[<-hpc,ZgP];simp;omega
   have hpt:pc.take (k*4)=pc:=Af DY;have hnew:(((d.map (xl x)).take (k+1)).flatMap Enc.enc:List PV)=pc++[L ((List.range t.length).map (yB x t)),L ((List.range t.length).map (yC x t)),L ((List.range (t.length+1)).map λi=>zU (t.take i)),I wl]:=by
    rw[<-hpc,<-List.map_take,a3,List.map_append,Ap,<-List.map_take,Az,hsm];rfl
   have l1:((List.range t.length).map (yB x t)).length=t.length:=DZ
   have l2:((List.range t.length).map (yC x t)).length=t.length:=DZ
   have l3:((List.range (t.length+1)).map λi=>zU (t.take i)).length=t.length+1:=DZ
   generalize (List.range t.length).map (yB x t)=fl at *;generalize (List.range t.length).map (yC x t)=bl at *;generalize ((List.range (t.length+1)).map λi=>zU (t.take i))=ll at *;clear g1 g2 g3;refine zX 8 rfl ?_;simp only[Az,Bo,AX,Bc,xN,hfz];refine zX 7 rfl ?_;simp only[Az,Bo,AX,Bc,xN,hfz];refine zX 5 rfl ?_;simp only[Az,Bo,AX,Bc,xN,hfz];refine zz (some [nx+6]) (Row.pures [0,1,2,3,5,6] (.alt 4 (.alt 7 (Row.pures [8,9] (.alt 10 (.done) .stop)) .stop) .stop)) mixed (yF l1 l2 l3 hpl hpt) ?_;refine⟨by omega,?_⟩;refine zb ?_;exact zq (k+1,v3+1) [_,_,_,_,_] hc D2 (by simp[zu k (by omega)]) rfl (by simp[hnew,l1,l2,l3];exact⟨rfl,rfl,rfl,rfl,rfl⟩)
 ·simp at hc;obtain rfl:k=d.length:=DY
  rw[Af DZ];refine zx ?_;have hml:((d.map (xl x)).flatMap Enc.enc:List PV).length=d.length*4:=by rw[ZgP];simp
  refine zX 3 rfl ?_;refine za (ze [] hml ?_);refine x7 2 rfl ?_;exact zg (zi hd D0 (by simp[zp,hml]))
open Go Go.Proofs
def xD(x:Inst):Int->List Int->Int
 | _,[]=>0
 | a,c :: l=>arc x a (c+1)+xD x (c+1) l
theorem ZcF(x:Inst):∀(l:List Int) (a:Int) (m:List Int),xD x a (l++m)=xD x a l+xD x (qf a l) m
 | [],a,m=>by simp[xD,qf]
 | c :: l,a,m=>by
  simp only[List.cons_append,xD,qf];rw[ZcF x l (c+1) m];omega
theorem ZcG:∀(l:List Int) (a:Int) (m:List Int),qf a (l++m)=qf (qf a l) m
 | [],a,m=>rfl
 | c :: l,a,m=>by simp only[List.cons_append,qf];exact ZcG l (c+1) m
theorem ZgQ(x:Inst):∀(l:List Int) (a:Int),jN x a l=xD x a l+arc x (qf a l) 0
 | [],a=>by simp[jN,xD,qf]
 | c :: l,a=>by
  simp only[jN,xD,qf];rw[ZgQ x l (c+1)];omega
def uo(t:zK)(f n:Nat):zK:=(t.drop f).take n
theorem WA{t:zK}{f n:Nat}{s:Stop}(h:t[f+n]?=some s):uo t f (n+1)=uo t f n++[s]:=by grind[uo,List.take_succ_eq_append_getElem]
theorem getD_some{t:zK}{i:Nat}{s:Stop}(h:t[i]?=some s):t.getD i default=s:=D6
theorem ZgR(x:Inst)(t:zK)(f:Nat)(a:Int):∀n,f+n<t.length->xD x a ((uo t f (n+1)).map (·.c))=arc x a ((t.getD f default).c+1)+(yB x t (f+n)-yB x t f)/\qf a ((uo t f (n+1)).map (·.c))=(t.getD (f+n) default).c+1
 | 0,h=>by
  have h0:t[f+0]?=some t[f]:=Ae DY;rw[WA h0]
  grind[uo,xD,qf]
 | n+1,h=>by
  obtain⟨i1,i2⟩:=ZgR x t f a n DY;have h0:t[f+(n+1)]?=some t[f+(n+1)]:=Ae DY;rw[WA h0,List.map_append,ZcF,ZcG,i1,i2,getD_some h0]
  grind[xD,qf,yB]
theorem ZgS(x:Inst)(t:zK)(f:Nat):∀(n:Nat) (a:Int),f+n<t.length->xD x a ((uo t f (n+1)).reverse.map (·.c))=arc x a ((t.getD (f+n) default).c+1)+(yC x t (f+n)-yC x t f)/\qf a ((uo t f (n+1)).reverse.map (·.c))=(t.getD f default).c+1
 | 0,a,h=>by
  have h0:t[f+0]?=some t[f]:=Ae DY;rw[WA h0]
  grind[uo,xD,qf]
 | n+1,a,h=>by
  have h0:t[f+(n+1)]?=some t[f+(n+1)]:=Ae DY;obtain⟨i1,i2⟩:=ZgS x t f n ((t.getD (f+(n+1)) default).c+1) DY;rw[WA h0,Dd];simp only[Cz,DA,AK,List.cons_append,Az,xD,qf]
  grind[yC]
theorem ZgT(t:zK)(f:Nat):∀n,f+n<=t.length->zU (uo t f n)=zU (t.take (f+n))-zU (t.take f)
 | 0,_=>by simp[uo,zU]
 | n+1,h=>by
  have h0:t[f+n]?=some t[f+n]:=Ae DY;have e:t.take (f+n+1)=t.take (f+n)++[t[f+n]]:=AP DY;rw[WA h0,VZ,ZgT t f n DY,<-Nat.add_assoc,e,VZ];omega
def js(x:Inst)(d:zn)(st:Int × Int)(p:Pc):Int × Int :=
 if p.f<p.o then
  (bif p.b then (((d.getD p.t []).getD p.f default).c+1,st.2+(arc x st.1 (((d.getD p.t []).getD (p.o-1) default).c+1)+yC x (d.getD p.t []) (p.o-1)-yC x (d.getD p.t []) p.f))
  else (((d.getD p.t []).getD (p.o-1) default).c+1,st.2+(arc x st.1 (((d.getD p.t []).getD p.f default).c+1)+yB x (d.getD p.t []) (p.o-1)-yB x (d.getD p.t []) p.f)))
 else st
def wP(x:Inst)(d:zn)(r:Rw5):Int:=(r.l.foldl (js x d) (0,0)).2+arc x (r.l.foldl (js x d) (0,0)).1 0
def vr(d:zn)(st:Int)(p:Pc):Int:=if p.f<p.o then st+(zU ((d.getD p.t []).take p.o)-zU ((d.getD p.t []).take p.f)) else st
def Qw(d:zn)(r:Rw5):Int:=r.l.foldl (vr d) 0
theorem ZpX{x:Inst}{d:zn}{p:Pc}(h:Xh d p)(g:List Stop):js x d (qf 0 (g.map (·.c)),xD x 0 (g.map (·.c))) p=(qf 0 ((g++qC d p).map (·.c)),xD x 0 ((g++qC d p).map (·.c))):=by
 unfold js qC
 by_cases hfo:p.f<p.o
 ·obtain⟨ht,ho⟩:=h hfo;unfold qJ at ho;rw[if_pos hfo,if_pos hfo];generalize d.getD p.t []=t at *;obtain⟨n,hn⟩:∃n,p.o=p.f+n+1:=⟨p.o-p.f-1,by omega⟩;have e1:p.o-1=p.f+n:=DY
  have e2:p.o-p.f=n+1:=DY
  rw[e1,e2,List.map_append,ZcF,ZcG];cases p.b with
  | true =>
   simp only[cond_true];obtain⟨i1,i2⟩:=ZgS x t p.f n (qf 0 (g.map (·.c))) DY;unfold uo at i1 i2;rw[i1,i2];congr 1;omega
  | false =>
   simp only[cond_false];obtain⟨i1,i2⟩:=ZgR x t p.f (qf 0 (g.map (·.c))) n DY;unfold uo at i1 i2;rw[i1,i2];congr 1;omega
 grind
theorem ZgU{x:Inst}{d:zn}:∀(l:List Pc) (g:List Stop),(∀p∈l,Xh d p)->l.foldl (js x d) (qf 0 (g.map (·.c)),xD x 0 (g.map (·.c)))=(qf 0 ((g++l.flatMap (qC d)).map (·.c)),xD x 0 ((g++l.flatMap (qC d)).map (·.c)))
 | [],g,_=>by simp
 | p :: l,g,h=>by
  rw[A4,ZpX (h p DZ),ZgU l _ λq hq=>h q (by simp[hq]),Ax,List.append_assoc]
theorem ZcH{x:Inst}{d:zn}{r:Rw5}(h:uO d r)(h0:arc x 0 0=0):wP x d r=yE x ((qg d r).map (·.c)):=by
 have:=ZgU (x:=x) r.l [] h
 grind[qf,xD,wP,qg,yE,ZgQ]
theorem ZpY{d:zn}{p:Pc}(h:Xh d p)(g:List Stop):vr d (zU g) p=zU (g++qC d p):=by
 unfold vr qC
 by_cases hfo:p.f<p.o
 ·obtain⟨ht,ho⟩:=h hfo;unfold qJ at ho;rw[if_pos hfo,if_pos hfo,ZoF];generalize d.getD p.t []=t at *;have:=ZgT t p.f (p.o-p.f) DY;rw[show p.f+(p.o-p.f)=p.o by omega]at this;have hr:∀l:zK,zU l.reverse=zU l:=λl=>by unfold zU;exact ZoE ((List.reverse_perm l).map _)
  unfold uo at this;cases p.b with
  | true=>simp only[cond_true];rw[hr,this]
  | false=>simp only[cond_false];rw[this]
 grind
theorem ZpZ{d:zn}{r:Rw5}(h:uO d r):Qw d r=zU (qg d r):=by
 have key:∀(l:List Pc) (g:List Stop),(∀p∈l,Xh d p)->l.foldl (vr d) (zU g)=zU (g++l.flatMap (qC d)):=by
  intro l
  induction l with
  | nil=>intro g _;simp
  | cons p l ih =>
   intro g h;rw[A4,ZpY (h p DZ),ih _ λq hq=>h q (by simp[hq]),Ax,List.append_assoc]
 have:=key r.l [] h
 simp_all[Qw,qg,zU]
open Go Go.Proofs
abbrev Xl(x:Inst)(d:zn)(sms:List Sm):List PV:=[I x.days,I x.veh,I x.cap,I x.len,L x.cust,L x.dist,L d,L sms]
theorem Xm{x:Inst}(h:qX x)(a b:Int):0<=arc x a b/\arc x a b<=2147483648:=h a b
theorem Zak{x:Inst}{d:zn}{sms:List Sm}(hs:sms=d.map (xl x)){k:Nat}(h:k<d.length):∃(t:zK) (td tf:List PV),d[k]?=some t/\d.getD k []=t/\(d.flatMap Enc.enc:List PV).drop k=L t :: td /\
  (sms.flatMap Enc.enc:List PV).drop (k*4)=[L (xl x t).f,L (xl x t).b,L (xl x t).l,I (xl x t).n]++tf:=by
 obtain⟨t,td,a1,-,-,e0⟩:=zF rfl d k h;rw[hs];obtain⟨s,ts,b1,-,-,-,f0⟩:=el 4 rfl (d.map (xl x)) k (by simpa using h);have:s=xl x t:=by rw[Aj,a1]at b1;exact(Option.some.inj b1).symm
 subst this;exact⟨t,td,ts,a1,by rw[Aa,a1];rfl,e0,f0⟩
theorem Xn{α:Type}[Enc α](n:Nat)(hn:Enc.sz α=1)(f:Nat->α){i:Nat}(h:i<n):∃tl,(((List.range n).map f).flatMap Enc.enc:List PV).drop i=Enc.enc (f i)++tl:=by
 obtain⟨s,ts,b1,-,-,f0⟩:=zF hn ((List.range n).map f) i (by simpa using h);have:s=f i:=by rw[Aj,A9 h]at b1;exact(Option.some.inj b1).symm
 subst this;exact⟨ts,f0⟩
theorem ZcI(x:Inst)(d:zn)(r:Rw5)(hx:qX x)(hd':MvDay d)(hr:uO d r):Pure prog 342 [.ip (uP x d),.agg (yv r)] (I (wP x d r)):=by
 obtain⟨sms,hsms⟩:∃sms,sms=d.map (xl x):=⟨_,rfl⟩;have hml:sms.length=d.length:=by rw[hsms];simp
 rw[show uP x d=Xl x d sms from by rw[hsms]];have hdn:=hd'.n;have hat:=λk (h:k<5)=>Zaj r h
 have hz:wP x d r=((r.l.take 5).foldl (js x d) (0,0)).2+arc x ((r.l.take 5).foldl (js x d) (0,0)).1 0:=by unfold wP;rw[Af (by simp[Rw5.l])]
 rw[hz];clear hz;have hcl:(yv r).length=20:=rfl;have hct:(yv r).take 20=yv r:=rfl;generalize hrc:yv r=rc at *;refine zr func342 ntmps342 results342 λS nx hd=>?_
 refine D7 ?_;intro v0;refine D7 ?_
 repeat apply za
 refine ze [] (zo hcl hct) ?_;refine zj (zC (λk:Nat=>k<=5/\-(8796093022208*(k:Int))<=((r.l.take k).foldl (js x d) (0,0)).2/\((r.l.take k).foldl (js x d) (0,0)).2<=8796093022208*k) (λk=>[(0,.ip (Xl x d sms)),(3,.ptr nx v0 0),(5,I ((r.l.take k).foldl (js x d) (0,0)).1),(6,I ((r.l.take k).foldl (js x d) (0,0)).2),(13,.agg rc),(14,I k)]) (λ_=>[.cells v0 371 rc]) (λk=>5-k) 0 [] DZ DZ DZ ?_);rintro k ⟨hk,hb1,hb2⟩
 by_cases hk5:k<5
 ·obtain⟨p,hp1,hp2,hp3⟩:=hat k hk5;have hk5':(k:Int)<5:=DY
  have hk6:4<=20-k*4:=DY
  have hok:=hr p (Ab hp1);have hnx:(r.l.take (k+1)).foldl (js x d) (0,0)=js x d ((r.l.take k).foldl (js x d) (0,0)) p:=by rw[hp3,BE];rfl
  generalize (r.l.take k).foldl (js x d) (0,0)=st at *;obtain⟨at_,all⟩:=st;simp only at hb1 hb2 ⊢;have wk:=zu k DY;refine za (ze [] hk5' ?_);refine za (zm rfl (zh (za (zj (za (ze [] (yF hp2 hk5 hk5' hcl hk6) ?_))))));intro v3
  by_cases hfo:p.f<p.o
  case neg =>
   have hpz:js x d (at_,all) p=(at_,all):=by unfold js;rw[if_neg hfo]
   rw[hpz]at hnx;have hfo':p.o<=p.f:=DY
   repeat apply za
   refine ze [] hfo' ?_;refine zm (by simp[hfo']) ?_;refine zx (zb ?_);exact zq (k+1) [_] ⟨by omega,by rw[hnx];simp only;omega,by rw[hnx];simp only;omega⟩ DY (by simp[wk,hnx]) rfl D0
  obtain⟨ht,ho⟩:=hok hfo;obtain⟨t,td,tf,a1,hgt,e0,f0⟩:=Zak hsms ht;unfold qJ at ho;rw[hgt]at ho;have htm:=Ab a1;have htl:=hd'.t t htm;have hts:=hd'.s t htm;have ht1:1<=d.length-p.t:=DY
  have ht4:4<=d.length*4-p.t*4:=DY
  obtain⟨n,hn⟩:∃n,p.o=n+1:=⟨p.o-1,by omega⟩;have hfo':¬p.o<=p.f:=DY
  have hst:js x d (at_,all) p=bif p.b then ((t.getD p.f default).c+1,all+(arc x at_ ((t.getD n default).c+1)+yC x t n-yC x t p.f)) else ((t.getD n default).c+1,all+(arc x at_ ((t.getD p.f default).c+1)+yB x t n-yB x t p.f)):=by
   unfold js;rw[if_pos hfo,hgt,show p.o-1=n by omega]
  rw[hst]at hnx;clear hst;obtain⟨sf,tsf,s1,-,-,-,s0⟩:=el 2 rfl t p.f DY;obtain⟨sl,tsl,l1,-,-,-,l0⟩:=el 2 rfl t n DY;have hgf:t.getD p.f default=sf:=getD_some s1;have hgl:t.getD n default=sl:=getD_some l1;rw[hgf,hgl]at hnx;have q1:p.f<t.length:=DY
  have q2:n<t.length:=DY
  have q3:2<=t.length*2-p.f*2:=DY
  have q4:2<=t.length*2-n*2:=DY
  have wo:IntKind.i64.wrap ((p.o:Int)-1)=(n:Int):=by rw[wr _ DY DY];omega
  have wsf:=Zt (hts sf (Ab s1)).1;have wsl:=Zt (hts sl (Ab l1)).1;have bf1:=Xj hx t p.f;have bf2:=Xj hx t n;have bb1:=Xk hx t p.f;have bb2:=Xk hx t n;have hlen:((List.range t.length).map (yB x t)).length=t.length/\((List.range t.length).map (yC x t)).length=t.length:=DZ
  obtain⟨z1,hz1⟩:=Xn t.length rfl (yB x t) q1;obtain⟨z2,hz2⟩:=Xn t.length rfl (yB x t) q2;obtain⟨z3,hz3⟩:=Xn t.length rfl (yC x t) q1;obtain⟨z4,hz4⟩:=Xn t.length rfl (yC x t) q2;have q5:1<=t.length-p.f:=DY
  have q6:1<=t.length-n:=DY
  simp only[xl]at f0;generalize hfl:(List.range t.length).map (yB x t)=fl at *;generalize hbl:(List.range t.length).map (yC x t)=bl at *;generalize ((List.range (t.length+1)).map λi=>zU (t.take i))=ll at *;generalize yE x (t.map (·.c))=wl at *;obtain⟨hl1,hl2⟩:=hlen;have hfll:(fl.flatMap Enc.enc:List PV).length=t.length:=by rw[jf,hl1]
  have hbll:(bl.flatMap Enc.enc:List PV).length=t.length:=by rw[jf,hl2]
  repeat apply za
  refine ze [] hfo' ?_;refine zk (by simp[hfo']) ?_;refine zh (za (zz (some [nx+1]) (Row.pures [0,1,2,3,4,5,6,7,8,9,10,11,12,13,14,15,16,17,18,19,20] .done) mixed (yd e0 f0 ht ht1 ht4 hml) ?_));refine za (zz (some [nx+1]) (Row.pures [0,1,2,3,4,5,6] .done) mixed wo ?_);apply za;cases hpb:p.b with
  | false =>
   rw[hpb]at hnx;simp only[cond_false]at hnx;have har:=Xm hx at_ (sf.c+1);have ar:=w8 x at_ (sf.c+1);have w1:IntKind.i64.wrap (arc x at_ (sf.c+1)+yB x t n)=arc x at_ (sf.c+1)+yB x t n:=wr _ DY DY;have w2:IntKind.i64.wrap (arc x at_ (sf.c+1)+yB x t n-yB x t p.f)=arc x at_ (sf.c+1)+yB x t n-yB x t p.f:=wr _ DY DY;have w3:IntKind.i64.wrap (all+(arc x at_ (sf.c+1)+yB x t n-yB x t p.f))=all+(arc x at_ (sf.c+1)+yB x t n-yB x t p.f):=wr _ DY DY;refine za (ze [] hpb ?_);refine zk rfl (zh (za (zz (some [nx+1]) (Row.pures [0,1,2,3,4,5,6,7,8,9,10,11,12,13,14,15,16,17,18,19,20,21,22,23,24,25,26,27] .done) mixed (yd s0 q1 q3 wsf wo (zo (yd hz1 hz2 hfll hl1 q2 q5) (zN q6 w1 w2 w3))) ?_)));refine zG (ar) (yd s0 q1 q3 wsf wo (zo (yd hz1 hz2 hfll hl1 q2 q5) (zN q6 w1 w2 w3))) ?_;refine ze [] (zN l0 q2 q4 wsl) ?_;refine zb ?_;exact zq (k+1) [_] ⟨by omega,by rw[hnx];simp only;omega,by rw[hnx];simp only;omega⟩ DY (by simp[wk,hnx]) rfl D0
  | true =>
   rw[hpb]at hnx;simp only[cond_true]at hnx;have har:=Xm hx at_ (sl.c+1);have ar:=w8 x at_ (sl.c+1);have w1:IntKind.i64.wrap (arc x at_ (sl.c+1)+yC x t n)=arc x at_ (sl.c+1)+yC x t n:=wr _ DY DY;have w2:IntKind.i64.wrap (arc x at_ (sl.c+1)+yC x t n-yC x t p.f)=arc x at_ (sl.c+1)+yC x t n-yC x t p.f:=wr _ DY DY;have w3:IntKind.i64.wrap (all+(arc x at_ (sl.c+1)+yC x t n-yC x t p.f))=all+(arc x at_ (sl.c+1)+yC x t n-yC x t p.f):=wr _ DY DY;refine za (ze [] hpb ?_);refine zm rfl (zz (some [nx+1]) (Row.pures [0,1,2,3,4,5,6,7,8,9,10,11,12,13] .done) mixed (zN f0 ht ht4 hml) ?_);refine za (zz (some [nx+1]) (Row.pures [0,1,2,3,4,5,6,7,8,9,10,11,12,13,14,15,16,17,18,19,20,21,22,23,24,25,26,27] .done) mixed (yd l0 q2 q4 wsl wo (zo (yd hz3 hz4 hbll hl2 q1 q5) (zN q6 w1 w2 w3))) ?_);refine zG (ar) (yd l0 q2 q4 wsl wo (zo (yd hz3 hz4 hbll hl2 q1 q5) (zN q6 w1 w2 w3))) ?_;refine ze [] (zN s0 q1 q3 wsf) ?_;refine zb ?_;exact zq (k+1) [_] ⟨by omega,by rw[hnx];simp only;omega,by rw[hnx];simp only;omega⟩ DY (by simp[wk,hnx]) rfl D0
 ·obtain rfl:k=5:=DY
  generalize (r.l.take 5).foldl (js x d) (0,0)=st at *;obtain⟨at_,all⟩:=st;simp only at hb1 hb2 ⊢;have har:=Xm hx at_ 0;have ar:=w8 x at_ 0;have w1:IntKind.i64.wrap (all+arc x at_ 0)=all+arc x at_ 0:=wr _ DY DY;refine D7 ?_;refine za (zk rfl (zx (D7 ?_)));refine qt [] ar w1 ?_;exact zg (zi hd rfl rfl)
open Go Go.Proofs
theorem Zp0(x:Inst)(d:zn)(r:Rw5)(hd':MvDay d)(hr:uO d r):Pure prog 343 [.ip (uP x d),.agg (yv r)] (I (Qw d r)):=by
 obtain⟨sms,hsms⟩:∃sms,sms=d.map (xl x):=⟨_,rfl⟩;have hml:sms.length=d.length:=by rw[hsms];simp
 rw[show uP x d=Xl x d sms from by rw[hsms]];have hdn:=hd'.n;have hat:=λk (h:k<5)=>Zaj r h
 have hz:Qw d r=(r.l.take 5).foldl (vr d) 0:=by unfold Qw;rw[Af (by simp[Rw5.l])]
 rw[hz];clear hz;have hcl:(yv r).length=20:=rfl;have hct:(yv r).take 20=yv r:=rfl;generalize hrc:yv r=rc at *;refine zr func343 ntmps343 results343 λS nx hd=>?_
 refine D7 ?_;intro v0;refine D7 ?_
 repeat apply za
 refine ze [] (zo hcl hct) ?_;refine zj (zC (λk:Nat=>k<=5/\-(8796093022208*(k:Int))<=(r.l.take k).foldl (vr d) 0/\(r.l.take k).foldl (vr d) 0<=8796093022208*k) (λk=>[(0,.ip (Xl x d sms)),(3,.ptr nx v0 0),(5,I ((r.l.take k).foldl (vr d) 0)),(8,.agg rc),(9,I k)]) (λ_=>[.cells v0 371 rc]) (λk=>5-k) 0 [] DZ DZ DZ ?_);rintro k ⟨hk,hb1,hb2⟩
 by_cases hk5:k<5
 ·obtain⟨p,hp1,hp2,hp3⟩:=hat k hk5;have hk5':(k:Int)<5:=DY
  have hk6:4<=20-k*4:=DY
  have hok:=hr p (Ab hp1);have hnx:(r.l.take (k+1)).foldl (vr d) 0=vr d ((r.l.take k).foldl (vr d) 0) p:=by rw[hp3,BE];rfl
  generalize (r.l.take k).foldl (vr d) 0=all at *;have wk:=zu k DY;refine za (ze [] hk5' ?_);refine za (zm rfl (zh (za (zj (za (ze [] (yF hp2 hk5 hk5' hcl hk6) ?_))))));intro v3
  by_cases hfo:p.f<p.o
  case neg =>
   have hpz:vr d all p=all:=by unfold vr;rw[if_neg hfo]
   rw[hpz]at hnx;refine za (ze [] hfo ?_);refine zk (by simp[hfo]) ?_;refine zh (zb ?_);exact zq (k+1) [_] ⟨by omega,by rw[hnx];omega,by rw[hnx];omega⟩ DY (by simp[wk,hnx]) rfl D0
  obtain⟨ht,ho⟩:=hok hfo;obtain⟨t,td,tf,a1,hgt,e0,f0⟩:=Zak hsms ht;unfold qJ at ho;rw[hgt]at ho;have htm:=Ab a1;have htl:=hd'.t t htm;have hts:=hd'.s t htm;have ht4:4<=d.length*4-p.t*4:=DY
  have hst:vr d all p=all+(zU (t.take p.o)-zU (t.take p.f)):=by unfold vr;rw[if_pos hfo,hgt]
  rw[hst]at hnx;have b1:=Zcm (t:=t.take p.o) (λa ha=>(hts a (Bq ha)).2);have b2:=Zcm (t:=t.take p.f) (λa ha=>(hts a (Bq ha)).2);have b3:(t.take p.o).length<=1000:=by rw[Ay];omega
  have b4:(t.take p.f).length<=1000:=by rw[Ay];omega
  have w1:IntKind.i64.wrap (zU (t.take p.o)-zU (t.take p.f))=zU (t.take p.o)-zU (t.take p.f):=wr _ DY DY;have w2:IntKind.i64.wrap (all+(zU (t.take p.o)-zU (t.take p.f)))=all+(zU (t.take p.o)-zU (t.take p.f)):=wr _ DY DY;obtain⟨z1,hz1⟩:=Xn (t.length+1) rfl (λi=>zU (t.take i)) (show p.o<t.length+1 by omega);obtain⟨z2,hz2⟩:=Xn (t.length+1) rfl (λi=>zU (t.take i)) (show p.f<t.length+1 by omega);have hll:((List.range (t.length+1)).map λi=>zU (t.take i)).length=t.length+1:=DZ
  simp only[xl]at f0;generalize (List.range t.length).map (yB x t)=fl at *;generalize (List.range t.length).map (yC x t)=bl at *;generalize ((List.range (t.length+1)).map λi=>zU (t.take i))=ll at *;generalize yE x (t.map (·.c))=wl at *;generalize zU (t.take p.o)=lo at *;generalize zU (t.take p.f)=lf at *;have hlf:(ll.flatMap Enc.enc:List PV).length=t.length+1:=by rw[jf,hll]
  have q1:p.o<t.length+1:=DY
  have q2:p.f<t.length+1:=DY
  have q3:1<=t.length+1-p.o:=DY
  have q4:1<=t.length+1-p.f:=DY
  have q5:(p.o:Int)<(t.length:Int)+1:=DY
  have q6:(p.f:Int)<(t.length:Int)+1:=DY
  refine za (ze [] hfo ?_);refine zm (by simp[hfo]) ?_;refine zz (some [nx+1]) (Row.pures [0,1,2,3,4,5,6,7,8,9,10,11,12,13,14,15,16,17,18,19,20,21,22,23,24,25,26,27,28,29] .done) mixed (yd f0 ht ht4 hml hz1 (zo (yd hz2 hll hlf q1 q2 q3) (yF q4 q5 q6 w1 w2))) ?_;refine zb ?_;exact zq (k+1) [_] ⟨by omega,by rw[hnx];omega,by rw[hnx];omega⟩ DY (by simp[wk,hnx]) rfl D0
 ·obtain rfl:k=5:=DY
  refine D7 ?_;refine za (zk rfl (zx (D7 ?_)));exact zg (zi hd rfl rfl)
def WB(x:Inst)(d:zn)(m:Mv)(r1 r2:Rw5):Int:=wP x d r1-yE x ((d.getD m.a []).map (·.c))+(if m.a=m.b then 0 else wP x d r2-yE x ((d.getD m.b []).map (·.c)))
theorem ZgV{x:Inst}(hx:qX x){d:zn}(hd':MvDay d){r:Rw5}(hr:uO d r):-52776558133248<=wP x d r/\wP x d r<=52776558133248:=by
 have key:∀k:Nat,k<=5->-(8796093022208*(k:Int))<=((r.l.take k).foldl (js x d) (0,0)).2/\((r.l.take k).foldl (js x d) (0,0)).2<=8796093022208*k:=by
  intro k
  induction k with
  | zero=>intro _;simp
  | succ k ih =>
   intro hk;obtain⟨h1,h2⟩:=ih DY;obtain⟨p,hp1,-,hp3⟩:=Zaj r (show k<5 by omega);have hok:=hr p (Ab hp1);rw[hp3,BE,A4,List.foldl_nil];generalize (r.l.take k).foldl (js x d) (0,0)=st at *;unfold js
   by_cases hfo:p.f<p.o
   ·obtain⟨ht,ho⟩:=hok hfo;have htm:d.getD p.t []∈d:=Ab (i:=p.t) (by rw[Aa,Ae ht];rfl);have htl:=hd'.t _ htm;unfold qJ at ho;generalize d.getD p.t []=t at *;have b1:=Xj hx t p.f;have b2:=Xj hx t (p.o-1);have b3:=Xk hx t p.f;have b4:=Xk hx t (p.o-1);rw[if_pos hfo];cases p.b with
    | true =>
     have:=Xm hx st.1 ((t.getD (p.o-1) default).c+1);simp only[cond_true];omega
    | false =>
     have:=Xm hx st.1 ((t.getD p.f default).c+1);simp only[cond_false];omega
   ·rw[if_neg hfo];omega
 have h5:=key 5 DY;rw[Af (by simp[Rw5.l])]at h5;have:=Xm hx (r.l.foldl (js x d) (0,0)).1 0;unfold wP;omega
theorem Zp1(x:Inst)(d:zn)(m:Mv)(r1 r2:Rw5)(hx:qX x)(hd':MvDay d)(hr1:uO d r1)(hr2:uO d r2)(ha:m.a<d.length)(hb:m.b<d.length):Pure prog 327 [.ip (uP x d),.agg (Zc m),.agg (yv r1),.agg (yv r2)] (I (WB x d m r1 r2)):=by
 have l1:=ZcI x d r1 hx hd' hr1;have l2:=ZcI x d r2 hx hd' hr2;have b1:=ZgV hx hd' hr1;have b2:=ZgV hx hd' hr2;obtain⟨sms,hsms⟩:∃sms,sms=d.map (xl x):=⟨_,rfl⟩;have hml:sms.length=d.length:=by rw[hsms];simp
 rw[show uP x d=Xl x d sms from by rw[hsms]]at l1 l2 ⊢;have hdn:=hd'.n;obtain⟨ta,tda,tfa,a1,hga,-,fa⟩:=Zak hsms ha;obtain⟨tb,tdb,tfb,c1,hgb,-,fb⟩:=Zak hsms hb;have wa:=Wy hx (ta.map (·.c));have wb:=Wy hx (tb.map (·.c));rw[List.length_map]at wa wb;have hta:=hd'.t ta (Ab a1);have htb:=hd'.t tb (Ab c1);have hdef:WB x d m r1 r2=wP x d r1-yE x (ta.map (·.c))+(if m.a=m.b then 0 else wP x d r2-yE x (tb.map (·.c))):=by unfold WB;rw[hga,hgb]
 rw[hdef];clear hdef;simp only[xl]at fa fb;generalize wP x d r1=k1 at *;generalize wP x d r2=k2 at *;generalize yE x (ta.map (·.c))=wl at *;generalize yE x (tb.map (·.c))=wm at *;have ha4:4<=d.length*4-m.a*4:=DY
 have hb4:4<=d.length*4-m.b*4:=DY
 have w1:IntKind.i64.wrap (k1-wl)=k1-wl:=wr _ DY DY;have w2:IntKind.i64.wrap (k2-wm)=k2-wm:=wr _ DY DY;have w3:IntKind.i64.wrap (k1-wl+(k2-wm))=k1-wl+(k2-wm):=wr _ DY DY;have hc1:(yv r1).length=20:=rfl;have ht1:(yv r1).take 20=yv r1:=rfl;have hc2:(yv r2).length=20:=rfl;have ht2:(yv r2).take 20=yv r2:=rfl;generalize hrc1:yv r1=rc1 at *;generalize hrc2:yv r2=rc2 at *;refine zr func327 ntmps327 results327 λS nx hd=>?_
 refine D7 ?_;intro v0 v1 v2;refine za (zz (some [nx,nx+1]) (Row.pures [0,1,2,3,4,5,6,7,8,9,10,11,12,13] .done) mixed (yd hc1 ht1 fa ha ha4 (zo hml w1)) ?_);refine zG (l1) (yd hc1 ht1 fa ha ha4 (zo hml w1)) ?_
 by_cases hab:m.a=m.b
 ·have hab':(m.a:Int)=m.b:=DY
  rw[if_pos hab]
  repeat apply za
  refine ze [] hab' ?_;refine zk (by simp[hab']) ?_;refine zh (D7 ?_);exact zg (zi hd rfl (by simp[zp]))
 ·have hab':¬(m.a:Int)=m.b:=DY
  rw[if_neg hab]
  repeat apply za
  refine ze [] hab' ?_;refine zm (by simp[hab']) ?_;refine zz (some [nx,nx+2]) (Row.pures [0,1,2,3,4,5,6,7,8,9,10,11,12,13,14,15] .done) mixed (yd hc2 ht2 fb hb hb4 (zD hml w2 w3)) ?_;refine zG (l2) (yd hc2 ht2 fb hb hb4 (zD hml w2 w3)) ?_;refine D7 ?_;exact zg (zi hd rfl (by simp[zp]))
theorem ZgW(x:Inst)(d:zn)(r:Rw5)(hx:qX x)(hd':MvDay d)(hr:uO d r):Pure prog 328 [.ip (uP x d),.agg (yv r)] (B (decide (Qw d r<=x.cap/\wP x d r<=x.len))):=by
 have l1:=ZcI x d r hx hd' hr;have l2:=Zp0 x d r hd' hr;obtain⟨sms,hsms⟩:∃sms,sms=d.map (xl x):=⟨_,rfl⟩;rw[show uP x d=Xl x d sms from by rw[hsms]]at l1 l2 ⊢;generalize wP x d r=k1 at *;generalize Qw d r=k2 at *;have hc1:(yv r).length=20:=rfl;have ht1:(yv r).take 20=yv r:=rfl;generalize hrc1:yv r=rc at *;refine zr func328 ntmps328 results328 λS nx hd=>?_
 refine D7 ?_;intro v0
 by_cases h1:k2<=x.cap
 ·refine za (zz (some [nx]) (Row.pures [0,1,2,3,4,5,6,7,8,9,10,11,12,13,14,15,16,17,18,19,20] .done) mixed (zD hc1 ht1 h1) ?_);refine zG (l2) (zD hc1 ht1 h1) ?_;refine zG (l1) (zD hc1 ht1 h1) ?_;exact zg (zi hd rfl (by simp[zp,h1]))
 ·refine za (zz (some [nx]) (Row.pures [0,1,2,3,4,5,6,7,8,9,10,11,12,13,14,15,16,17,18,19,20] .done) mixed (zN hc1 ht1 h1 zH) ?_);refine zG (l2) (zN hc1 ht1 h1 zH) ?_;exact zg (zi hd rfl (by simp[zp,h1]))
open Go Go.Proofs
theorem Zal{α:Type}{W:Nat->List α}{n k i:Nat}{x:α}(hk:k<n)(h:(W k)[i]?=some x):((List.range n).flatMap W)[((List.range k).flatMap W).length+i]?=some x:=by
 obtain⟨m,rfl⟩:∃m,n=k+(m+1):=⟨n-k-1,by omega⟩;have hi:=(Ac.1 h).1;rw[Dk,Ap,Al (C6 _ _),AI,Cv];simp only[Az,Ax,BF];rw[Aq hi];exact h
theorem Zam{α:Type}(W:Nat->List α)(k:Nat):((List.range (k+1)).flatMap W).length=((List.range k).flatMap W).length+(W k).length:=by
 rw[AH,Ap,Ar];simp
def YN(d:zn)(k a b i j:Nat):Option Mv:=if wd d ⟨k,a,b,i,j⟩=true then some ⟨k,a,b,i,j⟩ else none
def ZB(d:zn)(k a b i:Nat):List Mv:=(List.range (qJ d b+1)).filterMap (YN d k a b i)
def Z8(d:zn)(k a b:Nat):List Mv:=(List.range (qJ d a+1)).flatMap (ZB d k a b)
def Qx(d:zn)(k a:Nat):List Mv:=(List.range d.length).flatMap (Z8 d k a)
def Z9(d:zn)(k:Nat):List Mv:=(List.range d.length).flatMap (Qx d k)
def YO(d:zn):List Mv:=(List.range 4).flatMap (Z9 d)
abbrev Jn(m:Mv):List PV:=[.agg (Zc m)]
theorem Zp2(d:zn)(k a b:Nat)(hdn:d.length<=1048576)(hdt:∀t∈d,t.length<=1000)(hk:k<=3)(ha:a<d.length)(hb:b<d.length):
  V9 prog 341 (λy=>[.agg [L d],.agg [I k,I a,I b,I 0,I 0],jV y]) ((Z8 d k a b).map Jn) (B true):=by
 refine Zf0 func341 D3 rfl ntmps341 (congrArg Array.toList results341) DZ λy V keep nx J hJd hY A0 hA0=>?_
 obtain⟨ta,xa,a1,-,-,a0⟩:=zF rfl d a ha;obtain⟨tb,xb,b1,-,-,b0⟩:=zF rfl d b hb;have ha1:1<=d.length-a:=DY
 have hb1:1<=d.length-b:=DY
 have la:qJ d a=ta.length:=by unfold qJ;rw[Aa,a1];rfl
 have lb:qJ d b=tb.length:=by unfold qJ;rw[Aa,b1];rfl
 have hal:=hdt ta (Ab a1);have hbl:=hdt tb (Ab b1);have hall:∀t∈d,t.length<=1048576:=λt ht=>AD (hdt t ht) D4
 have hlook:=λi j (hi:i<=1048576) (hj:j<=1048576)=>Zcz d ⟨k,a,b,i,j⟩ hdn hall hk ha hb hi hj
 have hpl:Z8 d k a b=(List.range (ta.length+1)).flatMap (ZB d k a b):=by unfold Z8;rw[la]
 have hrow:∀i,ZB d k a b i=(List.range (tb.length+1)).filterMap (YN d k a b i):=λi=>by unfold ZB;rw[lb]
 rw[hpl]at hY ⊢;clear hpl la lb;refine D7 ?_;intro v0 v1
 repeat apply za
 refine zb ?_;refine zj (jC (σ:=Nat × Int × Store) (λs'=>s'.1<=ta.length+1/\J ((List.range s'.1).flatMap (ZB d k a b)).length s'.2.2) (λs'=>[(2,jV y),(3,.ptr nx v0 0),(4,.ptr (nx+1) v1 0)]) (λs'=>s'.2.2)
  (λ(i,jv,_)=>[.cells v0 39 [L d],.cells v1 339 [I k,I a,I b,I i,I jv]]) (λs'=>ta.length+1-s'.1) (zT (0,0,A0) [] (by simpa using hA0) DZ rfl DZ) ?_)
 rintro⟨i,jv,A⟩ ⟨hi,hJ⟩;simp only at hi hJ ⊢
 repeat apply za
 refine zz (some [nx,nx+1]) (Row.pures [0,1,2,3,4,5,6,7,8,9,10] .done) mixed (zD a0 ha ha1) ?_;refine zv rfl (λhc=>?_) (λhc=>?_)
 ·simp at hc;have hrl:=Zam (ZB d k a b) i;refine zh (za (zj (D7 ?_)));refine zj (jC (σ:=Nat × Store) (λs'=>s'.1<=tb.length+1/\J (((List.range i).flatMap (ZB d k a b)).length+((List.range s'.1).filterMap (YN d k a b i)).length) s'.2) (λs'=>[(2,jV y),(3,.ptr nx v0 0),(4,.ptr (nx+1) v1 0)]) (λs'=>s'.2)
   (λ(j,_)=>[.cells v0 39 [L d],.cells v1 339 [I k,I a,I b,I i,I j]]) (λs'=>tb.length+1-s'.1) (zT (0,A) [] (by simpa using hJ) DZ rfl DZ) ?_)
  clear hJ A jv;rintro⟨j,A⟩ ⟨hj,hJ⟩;simp only at hj hJ ⊢
  repeat apply za
  refine zz (some [nx,nx+1]) (Row.pures [0,1,2,3,4,5,6,7,8,9,10] .done) mixed (zD b0 hb hb1) ?_;refine zv rfl (λhcj=>?_) (λhcj=>?_)
  ·simp at hcj;have hlk:=hlook i j DY DY;have wj:=zu j DY;refine zh (za (zj ?_));cases hm:wd d ⟨k,a,b,i,j⟩ with
   | true =>
    have hce:YN d k a b i j=some ⟨k,a,b,i,j⟩:=by unfold YN;rw[if_pos hm]
    have hlo:Z6 d ⟨k,a,b,i,j⟩=((yt d ⟨k,a,b,i,j⟩).1,(yt d ⟨k,a,b,i,j⟩).2,true):=by unfold Z6;rw[if_pos hm]
    rw[hlo]at hlk;have hat:=Zf2 (n:=tb.length+1) DY hce;rw[<-hrow]at hat;have hat2:=Zal (W:=ZB d k a b) (n:=ta.length+1) DY hat;have hy:(((List.range (ta.length+1)).flatMap (ZB d k a b)).map Jn)[((List.range i).flatMap (ZB d k a b)).length+((List.range j).filterMap (YN d k a b i)).length]?=some (Jn ⟨k,a,b,i,j⟩):=by
     rw[Aj,hat2];rfl
    have hnx:=Zf4 hce;generalize (yt d ⟨k,a,b,i,j⟩).1=r1 at *;generalize (yt d ⟨k,a,b,i,j⟩).2=r2 at *;refine D7 ?_;refine zt hlk ?_;intro v2 v3;refine za (ze [(1,50)] trivial ?_);refine λhsuf=>JZ rfl rfl rfl (hY _ _ _ _ hy hJ) ?_
    rintro _ ⟨A',hJ',rfl⟩;refine⟨_,_,rfl,jM [(1,50)] trivial hsuf ?_⟩;refine zk rfl (zh (zb ?_));exact zq (j+1,A') [_,_] ⟨by simp;omega,by rw[hnx];exact hJ'⟩ D2 DZ rfl (by simp[wj];exact⟨rfl,rfl⟩)
   | false =>
    have hce:YN d k a b i j=none:=by unfold YN;rw[if_neg (by simp[hm])]
    have hlo:Z6 d ⟨k,a,b,i,j⟩=(xB,xB,false):=by unfold Z6;rw[if_neg (by simp[hm])]
    rw[hlo]at hlk;have hnx:=Zf3 hce;generalize xB=r0 at *;refine D7 ?_;refine zt hlk ?_;intro v2 v3;refine za (ze [(1,50)] zH ?_);refine zk rfl (zh (zb ?_));exact zq (j+1,A) [_,_] ⟨by simp;omega,by rw[hnx];exact hJ⟩ D2 DZ rfl (by simp[wj];exact⟨rfl,rfl⟩)
  ·simp at hcj;obtain rfl:j=tb.length+1:=DY
   rw[<-hrow,<-hrl]at hJ;refine zx ?_;have wi:=zu i DY;refine zb ?_;exact zq (i+1,((tb.length+1:Nat):Int),A) [] ⟨by simp;omega,hJ⟩ D2 DZ rfl (by simp[wi])
 ·simp at hc;obtain rfl:i=ta.length+1:=DY
  refine zx (D7 ?_);exact zg (Zaa (hJd _ _ hJ) D0 (by simp[zp]) (by simpa using hJ))
theorem Zp3(d:zn):Pure prog 325 [.agg [L d]] (.fn (.func 339) [] [.ip [L d]]):=by
 refine zr func325 ntmps325 results325 λS nx hd=>?_
 refine D7 ?_;intro v0;refine D7 ?_;refine x7 0 rfl ?_;exact D8 hd
theorem Zp4(d:zn)(hdn:d.length<=1000)(hdt:∀t∈d,t.length<=1000):Qi prog 339 [.ip [L d]] ((YO d).map Jn):=by
 have hpl:=λk a b (hk:k<=3) (ha:a<d.length) (hb:b<d.length)=>Zp2 d k a b DY hdt hk ha hb
 have hkinds:=ZgE;generalize Zah=kl at hkinds;refine Wf func339 D3 rfl ntmps339 (congrArg Array.toList results339) DZ λl V keep nx J hJd hY A0 hA0=>?_
 refine D7 ?_;refine zt hkinds ?_;refine zj (jC (σ:=Nat × Store) (λs'=>s'.1<=4/\J ((List.range s'.1).flatMap (Z9 d)).length s'.2) (λs'=>[(0,jV l),(1,.ip [L d]),(7,I s'.1)]) (λs'=>s'.2) (λ_=>[]) (λs'=>4-s'.1) (zT (0,A0) [] (by simpa using hA0) DZ rfl DZ) ?_);rintro⟨k,A⟩ ⟨hk,hJ⟩;simp only at hk hJ ⊢
 by_cases hk4:k<4
 ·have hk4':(k:Int)<4:=DY
  have hlA:=Zam (Z9 d) k;refine za (ze [] hk4' ?_);refine za (zm rfl (zh (za (zj (D7 ?_)))));refine D7 ?_;refine zj (jC (σ:=Nat × Store) (λs'=>s'.1<=d.length/\J (((List.range k).flatMap (Z9 d)).length+((List.range s'.1).flatMap (Qx d k)).length) s'.2) (λs'=>[(0,jV l),(1,.ip [L d]),(3,I k),(7,I k),(12,I d.length),(13,I s'.1)]) (λs'=>s'.2) (λ_=>[]) (λs'=>d.length-s'.1) (zT (0,A) [] (by simpa using hJ) DZ rfl DZ) ?_);clear hJ A;rintro⟨a,A⟩ ⟨ha,hJ⟩;simp only at ha hJ ⊢;refine D7 ?_;refine za (zv rfl (λhca=>?_) (λhca=>?_))
  ·simp at hca;have hlK:=Zam (Qx d k) a;refine zh (za (zj (D7 ?_)));refine D7 ?_;refine zj (jC (σ:=Nat × Store) (λs'=>s'.1<=d.length/\J (((List.range k).flatMap (Z9 d)).length+((List.range a).flatMap (Qx d k)).length+((List.range s'.1).flatMap (Z8 d k a)).length) s'.2) (λs'=>[(0,jV l),(1,.ip [L d]),(3,I k),(4,I a),(7,I k),(12,I d.length),(13,I a),(18,I d.length),(19,I s'.1)]) (λs'=>s'.2) (λ_=>[]) (λs'=>d.length-s'.1) (zT (0,A) [] (by simpa using hJ) DZ rfl DZ) ?_);clear hJ A;rintro⟨b,A⟩ ⟨hb,hJ⟩;simp only at hb hJ ⊢;refine D7 ?_;refine za (zv rfl (λhcb=>?_) (λhcb=>?_))
   ·simp at hcb;have hw:=hpl k a b DY hca hcb;have hlP:=Zam (Z8 d k a) b;have hin:∀(i:Nat) (x:List PV),((Z8 d k a b).map Jn)[i]?=some x->((YO d).map Jn)[((List.range k).flatMap (Z9 d)).length+((List.range a).flatMap (Qx d k)).length+((List.range b).flatMap (Z8 d k a)).length+i]?=some x:=by
     intro i x hx;rw[Aj]at hx ⊢;obtain⟨m,hm,rfl⟩:=Ao.1 hx;have e1:=Zal (W:=Z8 d k a) (n:=d.length) hcb hm;have e2:=Zal (W:=Qx d k) (n:=d.length) hca e1;have e3:=Zal (W:=Z9 d) (n:=4) hk4 e2;rw[Nat.add_assoc,Nat.add_assoc];unfold YO;rw[e3];rfl
    refine zh (za (zj (D7 ?_)));refine D7 ?_;refine λhsuf=>((Zf1 hw keep hY _ hin hJ _).mono ?_)
    rintro _ _ ⟨A',rfl,hJ',rfl⟩;rw[List.length_map,Nat.add_assoc,<-hlP]at hJ';refine⟨_,_,rfl,zL hsuf ?_⟩;refine zk rfl (zh (zb ?_));exact zq (b+1,A') [] ⟨hcb,hJ'⟩ D2 (by simp[zu b (by omega)]) rfl DZ
   ·simp at hcb;obtain rfl:b=d.length:=DY
    refine zx ?_;have hJ2:J (((List.range k).flatMap (Z9 d)).length+((List.range (a+1)).flatMap (Qx d k)).length) A:=by rw[hlK,<-Nat.add_assoc];exact hJ
    refine zb ?_;exact zq (a+1,A) [] ⟨hca,hJ2⟩ D2 (by simp[zu a (by omega)]) rfl DZ
  ·simp at hca;obtain rfl:a=d.length:=DY
   refine zx ?_;have hJ2:J ((List.range (k+1)).flatMap (Z9 d)).length A:=by rw[hlA];exact hJ
   refine zb ?_;exact zq (k+1,A) [] ⟨hk4,hJ2⟩ D2 (by simp[zu k (by omega)]) rfl DZ
 ·obtain rfl:k=4:=DY
  refine D7 ?_;refine za (zk rfl (zx (u5 (hJd _ _ hJ) rfl ?_)));rw[List.length_map];exact hJ
open Go Go.Proofs
theorem Jo{d:zn}{m:Mv}(h:wd d m=true):m.k<=3/\m.a<d.length/\m.b<d.length/\uO d (yt d m).1/\uO d (yt d m).2:=by
 unfold wd at h;rw[Aw]at h;obtain⟨h1,h2⟩:=h;have h1:=of_decide_eq_true h1;refine⟨h1.1,h1.2.1,h1.2.2,?_⟩;unfold vS at h2;unfold yt xC;have e0:=ZpG d;have key:∀p:Pc,Xh d p<->(p.f<p.o->p.t<d.length/\p.o<=qJ d p.t):=λ_=>Iff.rfl
 by_cases k0:m.k=0
 ·rw[if_pos k0]at h2 ⊢;have h2:=of_decide_eq_true h2;refine⟨?_,e0⟩;intro p hp;simp only[Rw5.l,As,Bn,or_false]at hp;rcases hp with rfl | rfl | rfl | rfl | rfl<;>refine(key _).2 ?_<;>simp only[yO]<;>omega
 rw[if_neg k0]at h2 ⊢
 by_cases k1:m.k=1
 ·rw[if_pos k1]at h2 ⊢;have h2:=of_decide_eq_true h2
  by_cases hab:m.a=m.b
  ·rw[if_pos hab,hab]at h2;rw[if_neg (by simp[hab])]
   by_cases hij:m.i<m.j
   ·rw[if_pos hij];refine⟨?_,e0⟩;intro p hp;simp only[Rw5.l,As,Bn,or_false]at hp;rcases hp with rfl | rfl | rfl | rfl | rfl<;>refine(key _).2 ?_<;>simp only[yO]<;>(try rw[hab])<;>omega
   ·rw[if_neg hij];refine⟨?_,e0⟩;intro p hp;simp only[Rw5.l,As,Bn,or_false]at hp;rcases hp with rfl | rfl | rfl | rfl | rfl<;>refine(key _).2 ?_<;>simp only[yO]<;>(try rw[hab])<;>omega
  ·rw[if_neg hab]at h2;rw[if_pos hab];constructor<;>intro p hp<;>simp only[Rw5.l,As,Bn,or_false]at hp<;>rcases hp with rfl | rfl | rfl | rfl | rfl<;>refine(key _).2 ?_<;>simp only[yO]<;>omega
 rw[if_neg k1]at h2 ⊢
 by_cases k2:m.k=2
 ·rw[if_pos k2]at h2 ⊢;have h2:=of_decide_eq_true h2
  by_cases hab:m.a=m.b
  ·rw[if_pos hab];rw[hab]at h2;refine⟨?_,e0⟩;intro p hp;simp only[Rw5.l,As,Bn,or_false]at hp;rcases hp with rfl | rfl | rfl | rfl | rfl<;>refine(key _).2 ?_<;>simp only[yO,hab]<;>omega
  ·rw[if_neg hab];constructor<;>intro p hp<;>simp only[Rw5.l,As,Bn,or_false]at hp<;>rcases hp with rfl | rfl | rfl | rfl | rfl<;>refine(key _).2 ?_<;>simp only[yO]<;>omega
 rw[if_neg k2]at h2 ⊢;have h2:=of_decide_eq_true h2;constructor<;>intro p hp<;>simp only[Rw5.l,As,Bn,or_false]at hp<;>rcases hp with rfl | rfl | rfl | rfl | rfl<;>refine(key _).2 ?_<;>simp only[yO]<;>omega
theorem ZcJ{d:zn}{m:Mv}:m∈YO d->wd d m=true/\m.i<=qJ d m.a/\m.j<=qJ d m.b:=by
 unfold YO Z9 Qx Z8 ZB YN;intro h;simp only[B6,AL,Ck]at h;obtain⟨k,hk,a,ha,b,hb,i,hi,j,hj,h⟩:=h;split at h
 ·rename_i hm;cases h;exact⟨hm,by simp only;omega,by simp only;omega⟩
 ·cases h
def Xo:Mv:=⟨0,0,0,0,0⟩
def vt(x:Inst)(d:zn)(r:Rw5):Prop:=Qw d r<=x.cap/\wP x d r<=x.len
instance (x:Inst) (d:zn) (r:Rw5):Decidable (vt x d r):=by unfold vt;infer_instance
def Qy(x:Inst)(d:zn)(m:Mv):Int:=WB x d m (yt d m).1 (yt d m).2
def Qz(x:Inst)(d:zn)(st:Mv × Int)(m:Mv):Mv × Int:=if Qy x d m<st.2/\vt x d (yt d m).1/\vt x d (yt d m).2 then (m,Qy x d m) else st
def vT(x:Inst)(d:zn):Mv × Int:=(YO d).foldl (Qz x d) (Xo,0)
theorem Zp5(x:Inst)(d:zn)(hx:qX x)(hd':MvDay d):Pure prog 291 [.agg (zy x),.agg [L d]] (.tup [.agg (Zc (vT x d).1),I (vT x d).2,B (decide ((vT x d).2<0))]):=by
 have hdn:=hd'.n;have hit:=Zp4 d hdn hd'.t;have hread:=ZpW x d hx hd';have hfacts:∀m∈YO d,Pure prog 326 [.agg [L d],.agg (Zc m)] (.tup [.agg (yv (yt d m).1),.agg (yv (yt d m).2),B true])/\Pure prog 327 [.ip (uP x d),.agg (Zc m),.agg (yv (yt d m).1),.agg (yv (yt d m).2)] (I (Qy x d m)) /\
   Pure prog 328 [.ip (uP x d),.agg (yv (yt d m).1)] (B (decide (vt x d (yt d m).1)))/\Pure prog 328 [.ip (uP x d),.agg (yv (yt d m).2)] (B (decide (vt x d (yt d m).2))):=by
  intro m hm;obtain⟨h1,h2,h3⟩:=ZcJ hm;obtain⟨hk,ha,hb,r1,r2⟩:=Jo h1;have hl:∀a,qJ d a<=1000:=by
   intro a;unfold qJ;rw[Aa];cases hq:d[a]? with
   | none=>simp
   | some l=>exact hd'.t l (Ab hq)
  have hla:=hl m.a;have hlb:=hl m.b;have hlk:=Zcz d m DY (λt ht=>AD (hd'.t t ht) D4) hk ha hb DY DY;unfold Z6 at hlk;rw[if_pos h1]at hlk;exact⟨hlk,Zp1 x d m _ _ hx hd' r1 r2 ha hb,ZgW x d _ hx hd' r1,ZgW x d _ hx hd' r2⟩
 unfold vT;generalize YO d=xs at *;generalize uP x d=rd at *;have hea:=Zp3 d;refine zr func291 ntmps291 results291 λS nx hd=>?_
 refine D7 ?_;intro v0 v1 v2;refine D7 ?_;refine zt hread ?_;intro v3;refine D7 ?_;intro v4 v5
 repeat apply za
 refine zb ?_;refine zt hea ?_;refine zj (J1 (xs:=xs.map Jn) (σ:=Mv × Int) (λi st=>st=(xs.take i).foldl (Qz x d) (Xo,0)) [(2,.ptr nx v0 0),(3,.ptr (nx+1) v1 0),(4,.ptr (nx+2) v2 0),(7,.ptr (nx+3) v3 0),(8,.ptr (nx+4) v4 0),(9,.ptr (nx+5) v5 0)] (λ_=>S)
  (λ(b,least)=>[.cells v0 25 (zy x),.cells v1 39 [L d],.cells v2 339 [I 0,I 0,I 0,I 0,I 0],.cells v3 363 [.ip rd],.cells v4 339 (Zc b),.cells v5 3 [I least]]) (Xo,0)
  hit rfl (by intro x hx;obtain⟨y,_,rfl⟩:=Am.1 hx;rfl) D4 DZ DZ rfl (by simp[Xo]) (by simp[Xo]) ?_ ?_)
 ·rintro l i ⟨b,least⟩ more y hst hy;simp only at hst ⊢;rw[Aj]at hy;obtain⟨m,hm,rfl⟩:=Ao.1 hy;have hsucc:=Zcu (f:=Qz x d) (b:=(Xo,0)) hm;rw[<-hst]at hsucc;obtain⟨f1,f2,f3,f4⟩:=hfacts m (Ab hm);unfold Qz at hsucc;simp only at hsucc;generalize (yt d m).1=r1 at *;generalize (yt d m).2=r2 at *;generalize Qy x d m=by_ at *;refine zb ?_;intro v6;refine zj (D7 ?_);refine zt f1 ?_;intro v7 v8;refine D7 ?_;refine zt f2 ?_
  by_cases hlt:by_<least
  ·refine za (ze [(3,37),(8,42)] hlt ?_);refine qt [(3,37),(8,42)] f3 hlt ?_
   by_cases hf1:vt x d r1
   ·rw[decide_eq_true hf1];refine qt [(3,37),(8,42)] f4 hlt ?_
    by_cases hf2:vt x d r2
    ·rw[if_pos ⟨hlt,hf1,hf2⟩]at hsucc;refine zm (by simp[hf2]) ?_;refine zb ?_;simp only[jL];exact wZ (m,by_) [_,_,_] hsucc.symm rfl (by simp;exact⟨rfl,rfl,rfl⟩)
    ·rw[if_neg λe=>hf2 e.2.2]at hsucc;refine zk (by simp[hf2]) ?_;refine zh ?_;simp only[jL];exact wZ (b,least) [_,_,_] hsucc.symm rfl (by simp;exact⟨rfl,rfl,rfl⟩)
   ·rw[decide_eq_false hf1];rw[if_neg λe=>hf1 e.2.1]at hsucc;refine zk rfl (zh ?_);simp only[jL];exact wZ (b,least) [_,_,_] hsucc.symm rfl (by simp;exact⟨rfl,rfl,rfl⟩)
  ·rw[if_neg λe=>hlt e.1]at hsucc;refine za (ze [(3,37),(8,42)] (zo hlt zH) ?_);refine zk rfl (zh ?_);simp only[jL];exact wZ (b,least) [_,_,_] hsucc.symm rfl (by simp;exact⟨rfl,rfl,rfl⟩)
 ·rintro⟨b,least⟩ hst;rw[Af DZ]at hst;simp only at hst ⊢;rw[<-hst];refine za (zz (some [nx+4,nx+5]) (Row.pures [0,1,2,3] (.alt 4 (Row.pures [5,6] .done) .stop)) mixed trivial ?_);exact zg (zi hd D0 (by simp[zp]))
open Go Go.Proofs
def we(d:zn)(m:Mv)(i:Nat):zK:=if i=m.a then qg d (yt d m).1 else if i=m.b then qg d (yt d m).2 else d.getD i []
def jY(d:zn)(m:Mv)(i:Nat):Option zK:=if (we d m i).length=0 then none else some (we d m i)
def vU(d:zn)(m:Mv):zn:=(List.range d.length).filterMap (jY d m)
theorem ZgX{d:zn}{r:Rw5}{k:Nat}(h:∀t∈d,t.length<=k):(qg d r).length<=5*k:=by
 have h1:=λp=>ZgG (d:=d) (p:=p) h
 have a1:=h1 r.a;have a2:=h1 r.b;have a3:=h1 r.c;have a4:=h1 r.d;have a5:=h1 r.e;unfold qg Rw5.l;simp only[Ax,B9,Ar,AC];omega
theorem Zp6(x:Inst)(d:zn)(m:Mv)(hdn:d.length<=1000)(hdt:∀t∈d,t.length<=1000)(hm:wd d m=true)(hi:m.i<=1048576)(hj:m.j<=1048576):Pure prog 292 [.agg (zy x),.agg [L d],.agg (Zc m)] (.tup [.agg [L (vU d m)],I 0]):=by
 obtain⟨hk,ha,hb,r1,r2⟩:=Jo hm;have hlk:=Zcz d m DY (λt ht=>AD (hdt t ht) D4) hk ha hb hi hj;unfold Z6 at hlk;rw[if_pos hm]at hlk;have g1:=ZgH d _ DY hdt r1;have g2:=ZgH d _ DY hdt r2;have n1:=ZgX (r:=(yt d m).1) hdt;have n2:=ZgX (r:=(yt d m).2) hdt;have hmk:∀i,we d m i=if i=m.a then qg d (yt d m).1 else if i=m.b then qg d (yt d m).2 else d.getD i []:=λ_=>rfl
 generalize qg d (yt d m).1=t1 at *;generalize qg d (yt d m).2=t2 at *;generalize (yt d m).1=c1 at *;generalize (yt d m).2=c2 at *;have hme:vU d m=(List.range d.length).filterMap (jY d m):=rfl;rw[hme];clear hme;refine zr func292 ntmps292 results292 λS nx hd=>?_
 refine D7 ?_;intro v0 v1 v2 v3;refine D7 ?_;refine zt hlk ?_;intro v4 v5
 repeat apply za
 refine zb ?_;refine zk rfl (zh (D7 ?_));intro v6;refine je 6 0 42 1 rfl rfl λv7=>?_
 repeat apply za
 refine zb ?_;refine zj (zC (λs':Nat × Nat=>s'.1<=d.length) (λ(k,v7)=>[(4,.ptr (nx+1) v1 0),(5,.ptr (nx+2) v2 0),(6,.ptr (nx+3) v3 0),(8,.ptr (nx+4) v4 0),(9,.ptr (nx+5) v5 0),(11,.ptr (nx+6) v6 0),(26,L d),(27,I d.length),(28,I k)])
  (λ(k,v7)=>[.cells v0 25 (zy x),.cells v1 39 [L d],.cells v2 339 (Zc m),.cells v3 39 [yu],.cells v4 371 (yv c1),.cells v5 371 (yv c2),.cells v6 39 [.sl (nx+7) v7 1 0 ((List.range k).filterMap (jY d m)).length],.cells v7 42 (((List.range k).filterMap (jY d m)).flatMap Enc.enc)]) (λs'=>d.length-s'.1) (0,v7) [] DZ DZ DZ ?_)
 rintro⟨k,v7⟩ hk0;simp only at hk0 ⊢;refine D7 ?_;refine za (zv rfl (λhc=>?_) (λhc=>?_))
 ·simp at hc;obtain⟨t,tl,a1,a2,a3,e0⟩:=zF rfl d k hc;have hk1:1<=d.length-k:=DY
  have htl:=hdt t (Ab a1);have hcl:=V8 t DY;have hgk:d.getD k []=t:=by rw[Aa,a1];rfl
  have hmkk:=hmk k;have hlen:((List.range k).filterMap (jY d m)).length<=k:=by have:=CG (jY d m) (List.range k);simpa using this
  have hnext:(List.range (k+1)).filterMap (jY d m)=(List.range k).filterMap (jY d m)++(jY d m k).toList:=by
   rw[AH,BZ];simp only[List.filterMap_cons,List.filterMap_nil];cases jY d m k<;>rfl
  have hT1:jY d m k=if (we d m k).length=0 then none else some (we d m k):=rfl
  rw[hgk]at hmkk;have hTl:(we d m k).length<=5000:=by rw[hmkk];(repeat' split)<;>omega
  have hof:(((List.range k).filterMap (jY d m)).flatMap Enc.enc:List PV).length=((List.range k).filterMap (jY d m)).length:=jW _;generalize (List.range k).filterMap (jY d m)=out at *;have hot:(out.flatMap Enc.enc:List PV).take out.length=out.flatMap Enc.enc:=Af DY;have wk:=zu k DY;refine zh (za (zj (za (ze [] (zD e0 hc hk1) ?_))));intro v8;refine D7 ?_;refine zt hcl ?_
  repeat apply za
  refine zb ?_;refine qz (nx:=nx) (λ_:Unit=>True) (λ_=>[(4,.ptr (nx+1) v1 0),(5,.ptr (nx+2) v2 0),(6,.ptr (nx+3) v3 0),(8,.ptr (nx+4) v4 0),(9,.ptr (nx+5) v5 0),(11,.ptr (nx+6) v6 0),(14,L (we d m k)),(26,L d),(27,I d.length),(28,I k)]) (λ_=>S)
   (λ_=>[.cells v0 25 (zy x),.cells v1 39 [L d],.cells v2 339 (Zc m),.cells v3 39 [yu],.cells v4 371 (yv c1),.cells v5 371 (yv c2),.cells v6 39 [.sl (nx+7) v7 1 0 out.length],.cells v7 42 (out.flatMap Enc.enc),.cells v8 42 [L t]]) ?_ ?_
  ·refine zj ?_
   by_cases h1:k=m.a
   ·rw[if_pos h1]at hmkk;have h1':(k:Int)=m.a:=DY
    rw[hmkk];refine D7 ?_;refine zm D2 ?_;refine zb ?_;refine zt g1 ?_;simp only[jL];exact zT () [] trivial DZ rfl DZ
   ·rw[if_neg h1]at hmkk;have h1':¬(k:Int)=m.a:=DY
    refine D7 ?_;refine zk D2 ?_
    by_cases h2:k=m.b
    ·rw[if_pos h2]at hmkk;have h2':(k:Int)=m.b:=DY
     rw[hmkk];refine D7 ?_;refine zm D2 ?_;refine zb ?_;refine zt g2 ?_;simp only[jL];exact zT () [] trivial DZ rfl DZ
    ·rw[if_neg h2]at hmkk;have h2':¬(k:Int)=m.b:=DY
     rw[hmkk];refine D7 ?_;refine zk D2 ?_;refine zh ?_;simp only[jL];exact zT () [] trivial DZ rfl DZ
  ·rintro⟨⟩ -;generalize we d m k=tt at *;clear hmkk hcl e0
   by_cases h0:tt.length=0
   ·have e:(jY d m k).toList=[]:=by rw[hT1,if_pos h0];rfl
    have h0':¬0<tt.length:=DY
    refine za (ze [] h0' ?_);refine zk (by simp[h0']) ?_;refine zh (zb ?_);exact zq (k+1,v7) [_] D2 D2 (by simp[wk,hnext,e]) rfl (by simp[hnext,e];rfl)
   ·have e:(jY d m k).toList=[tt]:=by rw[hT1,if_neg h0];rfl
    have h0':0<tt.length:=DY
    refine za (ze [] h0' ?_);refine zm (by simp[h0']) ?_;refine ze [] (zo hof hot) ?_;refine⟨by omega,?_⟩;refine zb ?_;exact zq (k+1,v7+1) [_] D2 D2 (by simp[wk,hnext,e]) rfl (by simp[hnext,e];rfl)
 ·simp at hc;obtain rfl:k=d.length:=DY
  refine zx (zX 7 rfl ?_);refine D7 ?_;exact zg (zi hd D0 (by simp[zp]))
open Go Go.Proofs
def Jp(d:zn)(s:Stop)(t k:Nat):Nat:=((d.getD t []).take k).count s
theorem ZcK(d:zn)(s:Stop)(t:Nat):Jp d s t 0=0:=by simp[Jp]
theorem ZgY(d:zn)(s:Stop)(t:Nat):Jp d s t (qJ d t)=(d.getD t []).count s:=by simp[Jp,qJ]
theorem Zp7(d:zn)(s:Stop)(p:Pc):p.f<=p.o->(qC d p).count s+Jp d s p.t p.f=Jp d s p.t p.o:=by
 intro h;unfold qC Jp;generalize d.getD p.t []=u
 by_cases hf:p.f<p.o
 ·rw[if_pos hf,show p.o=p.f+(p.o-p.f) by omega,List.take_add,List.count_append,show p.f+(p.o-p.f)-p.f=p.o-p.f by omega];cases p.b
  ·rw[cond_false];omega
  ·rw[cond_true,List.count_reverse];omega
 grind
theorem ZgZ(d:zn)(s:Stop)(r:Rw5):(qg d r).count s=(qC d r.a).count s+(qC d r.b).count s+(qC d r.c).count s+(qC d r.d).count s+(qC d r.e).count s:=by grind[qg,Rw5.l]
theorem Zp8{d:zn}{m:Mv}(h:wd d m=true)(s:Stop):(qg d (yt d m).1).count s+(if m.a=m.b then 0 else (qg d (yt d m).2).count s)=(d.getD m.a []).count s+(if m.a=m.b then 0 else (d.getD m.b []).count s):=by
 unfold wd at h;rw[Aw]at h;obtain⟨-,h2⟩:=h;unfold vS at h2;unfold yt xC;have e0:=ZcK d s;have ea:=ZcK d s m.a;have eb:=ZcK d s m.b;have la:=ZgY d s m.a;have lb:=ZgY d s m.b;have key:=Zp7 d s;rw[ZgZ,ZgZ]
 grind[yO]
theorem Zp9{d:zn}{i:Nat}{u:zK}(t:zK)(h:d[i]?=some u)(s:Stop):(d.set i t).flatten.count s+u.count s=t.count s+d.flatten.count s:=by grind[List.drop_eq_getElem_cons,List.take_append_drop,List.set_eq_take_append_cons_drop]
theorem ZcL{d:zn}{i:Nat}{u:zK}(t:zK)(h:d[i]?=some u)(x:Inst):yk x (d.set i t)+yE x (u.map (·.c))=yE x (t.map (·.c))+yk x d:=by grind[List.drop_eq_getElem_cons,List.take_append_drop,yk,List.set_eq_take_append_cons_drop]
theorem Zg0(d:zn)(m:Mv):(List.range d.length).map (we d m)=(d.set m.b (qg d (yt d m).2)).set m.a (qg d (yt d m).1):=by
 refine AY λi=>?_
 grind[we]
theorem ZcM(d:zn)(m:Mv):∀l:List Nat,(l.filterMap (jY d m)).flatten=(l.map (we d m)).flatten/\∀x,yk x (l.filterMap (jY d m))=yk x (l.map (we d m))
 | []=>⟨rfl,λ_=>rfl⟩
 | i :: l=>by
  obtain⟨h1,h2⟩:=ZcM d m l;have e:jY d m i=if (we d m i).length=0 then none else some (we d m i):=rfl
  rw[List.filterMap_cons,e,Az]
  by_cases h:(we d m i).length=0
  ·rw[if_pos h,Ct.1 h];refine⟨by simpa using h1,λx=>?_⟩;have:=h2 x;unfold yk at this ⊢;simpa[yE] using this
  simp_all[yk]
theorem Zqa{d:zn}{m:Mv}{t:zK}(h:t∈vU d m):t≠[]/\(t=qg d (yt d m).1\/t=qg d (yt d m).2\/t∈d):=by grind[vU,jY,we]
theorem Zqb(d:zn)(m:Mv):(vU d m).length<=d.length:=by grind[vU]
theorem Zg1{d:zn}{m:Mv}(h:wd d m=true):(vU d m).flatten.Perm d.flatten:=by
 obtain⟨-,ha,hb,-,-⟩:=Jo h;refine List.perm_iff_count.2 λs=>?_
 have hc:=Zp8 h s;unfold vU
 grind[ZcM,Zg0,Zp9]
theorem Zqc{x:Inst}{d:zn}{m:Mv}(h:wd d m=true)(h0:arc x 0 0=0):yk x (vU d m)=yk x d+Qy x d m:=by
 obtain⟨-,ha,hb,r1,r2⟩:=Jo h;unfold vU Qy WB;rw[(ZcM d m _).2,Zg0,ZcH r1 h0,ZcH r2 h0];obtain⟨ua,hua⟩:∃u,d[m.a]?=some u:=⟨_,Ae ha⟩;obtain⟨ub,hub⟩:∃u,d[m.b]?=some u:=⟨_,Ae hb⟩;have ga:d.getD m.a []=ua:=by rw[Aa,hua];rfl
 have gb:d.getD m.b []=ub:=by rw[Aa,hub];rfl
 rw[ga,gb];generalize qg d (yt d m).1=t1 at *;generalize qg d (yt d m).2=t2 at *
 by_cases hab:m.a=m.b
 ·rw[if_pos hab,<-hab,List.set_set];have:=ZcL t1 hua x;omega
 ·rw[if_neg hab];have h1:=ZcL t2 hub x;have h2:=ZcL (d:=d.set m.b t2) (i:=m.a) (u:=ua) t1 (by rw[AU (λe=>hab e.symm)];exact hua) x;omega
open Go Go.Proofs Hp
theorem ZcN(x:Inst):∀(ds:List zn) (st:zn × Int × Bool),(ds.foldl (vQ x) st).2.2=true->ds.foldl (vQ x) st=st\/(∃d∈ds,yr x d=0/\ds.foldl (vQ x) st=(d,W (yk x d),true))
 | [],st,_=>.inl rfl
 | d :: ds,st,h=>by
  rw[A4]at h ⊢;rcases ZcN x ds _ h with e | ⟨d2,h1,h2,h3⟩
  ·rw[e];unfold vQ;split
   ·rename_i h0;split
    ·exact .inr ⟨d,by simp,h0,rfl⟩
    ·exact .inl rfl
   ·exact .inl rfl
  ·exact .inr ⟨d2,by simp[h1],h2,h3⟩
theorem Zg2{x:Inst}{e:Int}{ds:List zn}(h:(x8 x e ds).2=0):e=0/\(x8 x e ds).1∈ds/\yr x (x8 x e ds).1=0:=by
 unfold x8 at h ⊢
 by_cases he:e=0
 ·rw[if_pos he]at h ⊢;cases hz:(Qp x ds).2.2 with
  | false=>rw[hz]at h;cases h
  | true =>
   refine⟨he,?_⟩;rcases ZcN x ds ([],0,false) hz with q | ⟨d,h1,h2,h3⟩
   ·have:(Qp x ds).2.2=false:=by unfold Qp;rw[q]
    rw[this]at hz;cases hz
   ·have:Qp x ds=(d,W (yk x d),true):=h3;rw[this];exact⟨h1,h2⟩
 ·rw[if_neg he]at h;exact absurd h he
theorem Zg3(x:Inst):qX (yG x):=by
 refine Zpn λrow hr d hd=>?_
 simp only[yG,Am]at hr;obtain⟨a,_,rfl⟩:=hr;unfold uf at hd;obtain⟨b,_,rfl⟩:=Am.1 hd;split
 ·have:=xA (arc x a b) 0 60 DY;omega
 ·omega
theorem Zqd(x:Inst):0<=(yG x).veh:=(xA x.veh 0 5 DY).1
open Go Go.Proofs
structure SG (x:Inst) (l:List Stop) (d:zn):Prop where
 may:∀t∈d,zQ x t=0
 perm:d.flatten.Perm l
def Zg4(x:Inst)(t:zK):Prop:=(∀s∈t,jF x s=true)/\(t.map (·.c)).Nodup/\t.length<=1000
theorem ZcO{x:Inst}{t:zK}(h:zQ x t=0):(∀s∈t,jF x s=true)/\t≠[]:=by simp_all[Xc,jh]
theorem ZcP{x:Inst}:∀t:zK,(∀s∈t,jF x s=true)->0<=zU t/\zU t<=2147483648*(t.length:Int)
 | [],_=>by simp[zU]
 | s :: t,h=>by
  have h1:=ZcP t λs hs=>h s (by simp[hs])
  have h2:=h s DZ
  grind[jF,zU]
theorem WC{x:Inst}(hx:qX x){t:zK}(h:Zg4 x t)(hn:t≠[]):zQ x t=0<->zU t<=x.cap/\yE x (t.map (·.c))<=x.len:=by
 obtain⟨h1,h2,h3⟩:=h;have b1:=ZcP t h1;have b2:=Wy hx (t.map (·.c))
 grind[wr,Xc,jh]
theorem SG.each{x:Inst}{l:List Stop}{d:zn}(g:SG x l d):∀s∈l,jF x s=true:=by
 intro s hs;obtain⟨t,ht,hst⟩:=BO.1 (g.perm.symm.subset hs);exact(ZcO (g.may t ht)).1 s hst
section
variable {x:Inst} {l:List Stop} (h:SOk x l)
include h
theorem SG.len{d:zn}(g:SG x l d):d.flatten.length<=1000/\d.length<=1000:=by
 have h1:=Zab d λt ht=>(ZcO (g.may t ht)).2
 have h2:=g.perm.length_eq;have h3:=h.len;omega
theorem SG.tour{d:zn}(g:SG x l d){e:zn}(he:e.flatten.Perm l){t:zK}(ht:t∈e):Zg4 x t:=by
 have hs:=YH ht;have hl:=h.len;refine⟨λs q=>g.each s (he.subset (hs.subset q)),?_,?_⟩
 ·exact((he.map _).nodup_iff.2 h.nd).sublist (hs.map _)
 ·have:=hs.length_le;have:=he.length_eq;omega
theorem SG.mv{d:zn}(g:SG x l d):MvDay d:=by
 refine⟨(g.len h).2,λt ht=>(g.tour h g.perm ht).2.2,λt ht s hs=>?_⟩;have:=(g.tour h g.perm ht).1 s hs;have hc:=h.cust
 grind[jF,qe]
theorem SG.ok{d:zn}(g:SG x l d):DayOk d:=by
 have h1:=g.len h;have h2:=g.mv h;exact⟨by omega,λt ht=>AD (h2.t t ht) D4,λt ht s hs=>(h2.s t ht s hs).1⟩
end
theorem Zg5{x:Inst}{d:zn}{r:Rw5}(hr:uO d r)(h0:arc x 0 0=0):vt x d r<->zU (qg d r)<=x.cap/\yE x ((qg d r).map (·.c))<=x.len:=by simp_all[vt,ZcH,ZpZ]
theorem Zqe{d:zn}{m:Mv}(h:wd d m=true)(hab:m.a=m.b):qg d (yt d m).2=[]:=by
 have e0:qg d xB=[]:=rfl
 grind[wd,vS,yt,xC]
theorem Zqf{d:zn}{m:Mv}(h:wd d m=true)(hn:qg d (yt d m).1≠[]):qg d (yt d m).1∈vU d m:=by
 obtain⟨-,ha,-⟩:=Jo h;refine Ck.2 ⟨m.a,AL.2 ha,?_⟩
 grind[we,jY]
theorem Zqg{d:zn}{m:Mv}(h:wd d m=true)(hab:m.a≠m.b)(hn:qg d (yt d m).2≠[]):qg d (yt d m).2∈vU d m:=by
 obtain⟨-,-,hb,-⟩:=Jo h;refine Ck.2 ⟨m.b,AL.2 hb,?_⟩
 grind[we,jY]
theorem Zqh{x:Inst}{l:List Stop}(h:SOk x l)(h0:arc x 0 0=0){d:zn}(g:SG x l d){m:Mv}(hm:wd d m=true):(vt x d (yt d m).1/\vt x d (yt d m).2)<->∀t∈vU d m,zQ x t=0:=by
 obtain⟨-,ha,hb,r1,r2⟩:=Jo hm;have hp:(vU d m).flatten.Perm l:=(Zg1 hm).trans g.perm;rw[Zg5 r1 h0,Zg5 r2 h0];have hz:0<=x.cap/\0<=x.len:=by
  have ht:=g.may _ (A6 ha);have hg:=g.tour h g.perm (A6 ha);have:=(WC h.arc hg (ZcO ht).2).1 ht;have b1:=ZcP _ hg.1;have b2:=Wy h.arc (d[m.a].map (·.c));omega
 have e0:zU []=0/\yE x (([]:zK).map (·.c))=0:=⟨rfl,rfl⟩;constructor
 ·rintro⟨q1,q2⟩ t ht;obtain⟨hn,h3⟩:=Zqa ht;have hg:=g.tour h hp ht;rcases h3 with rfl | rfl | h3
  ·exact(WC h.arc hg hn).2 q1
  ·exact(WC h.arc hg hn).2 q2
  ·exact g.may t h3
 ·intro hall;constructor
  ·by_cases hn:qg d (yt d m).1=[]
   ·simp_all
   ·have ht:=Zqf hm hn;exact(WC h.arc (g.tour h hp ht) hn).1 (hall _ ht)
  ·by_cases hn:qg d (yt d m).2=[]
   ·simp_all
   ·by_cases hab:m.a=m.b
    ·simp_all[Zqe]
    ·have ht:=Zqg hm hab hn;exact(WC h.arc (g.tour h hp ht) hn).1 (hall _ ht)
theorem Zg6(x:Inst)(d:zn):∀(ms:List Mv) (st:Mv × Int),(ms.foldl (Qz x d) st=st)\/(∃m∈ms,(ms.foldl (Qz x d) st)=(m,Qy x d m)/\vt x d (yt d m).1/\vt x d (yt d m).2)
 | [],st=>.inl rfl
 | m :: ms,st=>by
  rw[A4];rcases Zg6 x d ms (Qz x d st m) with e | ⟨m2,h1,h2,h3⟩
  ·rw[e];unfold Qz;split
   ·rename_i hc;exact .inr ⟨m,by simp,rfl,hc.2⟩
   ·exact .inl rfl
  grind
def up(x:Inst)(d:zn):Option zn:=if (vT x d).2<0 then some (vU d (vT x d).1) else none
theorem Zg7{x:Inst}{d:zn}(hb:(vT x d).2<0):(vT x d).1∈YO d/\Qy x d (vT x d).1<0/\vt x d (yt d (vT x d).1).1/\vt x d (yt d (vT x d).1).2:=by grind[Zg6,vT]
theorem Zg8{x:Inst}{l:List Stop}(h:SOk x l)(h0:arc x 0 0=0){d e:zn}(g:SG x l d)(hs:up x d=some e):SG x l e/\yk x e<yk x d/\e.length<=d.length:=by
 unfold up at hs;split at hs
 ·rename_i hb;cases hs;obtain⟨h1,h2,h3⟩:=Zg7 hb;have hm:=(ZcJ h1).1;refine⟨⟨(Zqh h h0 g hm).1 h3,(Zg1 hm).trans g.perm⟩,?_,Zqb _ _⟩
  grind[Zqc]
 ·cases hs
theorem Zg9{x:Inst}{l:List Stop}(h:SOk x l)(h0:arc x 0 0=0):ZgC x (up x) (SG x l):=by
 intro d g;have hv:=g.mv h;have hl:∀a,qJ d a<=1000:=by
  intro a;unfold qJ;rw[Aa];cases hq:d[a]? with
  | none=>simp
  | some l=>exact hv.t l (Ab hq)
 have hd1:(up x d).isSome=decide ((vT x d).2<0):=by
  unfold up;split
  ·simp_all
  ·simp_all
 refine⟨_,_,_,_,_,_,by rw[hd1];exact Zp5 x d h.arc hv,λe he=>⟨?_,(Zg8 h h0 g he).1⟩⟩;unfold up at he;split at he
 ·rename_i hb;cases he;obtain⟨h1,-,-⟩:=Zg7 hb;obtain⟨h1,h2,h3⟩:=ZcJ h1;have:=hl (vT x d).1.a;have:=hl (vT x d).1.b;exact Zp6 x d _ hv.n hv.t h1 DY DY
 ·cases he
theorem Zan{x:Inst}{l:List Stop}(h:SOk x l)(h0:arc x 0 0=0):∀(n:Nat) (d:zn),SG x l d->SG x l (vq (up x) n d)/\yk x (vq (up x) n d)<=yk x d/\(vq (up x) n d).length<=d.length
 | 0,d,g=>⟨g,De _,Ag _⟩
 | n+1,d,g=>by
  unfold vq;cases hs:up x d with
  | none=>simp_all
  | some e =>
   obtain⟨a,b,c⟩:=Zg8 h h0 g hs;obtain⟨a',b',c'⟩:=Zan h h0 n e a
   grind
open Go Go.Proofs Hp
theorem Zha(x:Inst):arc (yG x) 0 0=0:=by simp[yG,uf,arc]
theorem Zhb{x:Inst}{l:List Stop}(h:wM x l=0):∀s∈l,zQ x [s]=0:=by grind[wM]
theorem Zqi{x:Inst}{l:List Stop}(h:SOk x l)(hf:wM x l=0):∀t∈vg x l,zQ x t=0:=by
 have key:∀(ps:List Pr) (st:zn × Int),(∀t∈st.1,t.length<=1\/zQ x t=0)->∀t∈(ps.foldl (ji x) st).1,t.length<=1\/zQ x t=0:=by
  intro ps
  induction ps with
  | nil=>intro st h;exact h
  | cons p ps ih =>
   intro st hst;rw[A4];refine ih _ λt ht=>?_
   unfold ji Wt at ht;generalize Za st.1 p.a=i at ht;generalize Za st.1 p.b=k at ht;generalize st.1.getD i []=a at ht;generalize st.1.getD k []=b at ht;cases hc:qB x st.2 p i k a b with
   | false=>rw[hc]at ht;exact hst t ht
   | true =>
    rw[hc]at ht;simp only[cond_true]at ht;unfold qB at hc;simp only[Aw,decide_eq_true_eq]at hc;rcases BC ht with ht | ht
    ·rcases BC ht with ht | ht
     ·exact hst t ht
     ·rw[ht];exact .inr hc.2
    ·rw[ht];exact .inl DZ
 intro t ht;obtain⟨-,hp,-,hne⟩:=h.join;have hs:=YH ht;have h1:=key (qW x (l.map λs:Stop=>s.c)) (l.map λs=>[s],(l.length:Int)) (λt ht=>by obtain⟨s,_,rfl⟩:=Am.1 ht;simp) t (A7.1 ht).1;rcases h1 with h1 | h1
 ·have:=hne t ht
  match t,h1,this with
  | [s],_,_=>exact Zhb hf s (hp.subset (hs.subset DZ))
 omega
theorem Zhc{x:Inst}{l:List Stop}(h:SOk x l)(hf:wM x l=0):∀d∈Qv x l,SG x l d:=by
 intro d hd;unfold Qv at hd;simp only[List.cons_append,AK,As]at hd;rcases hd with rfl | rfl | hd
 ·exact⟨Zqi h hf,h.join.2.1⟩
 ·refine⟨λt ht=>?_,by rw[h.apart.2.1]⟩;obtain⟨s,hs,rfl⟩:=Am.1 ht;exact Zhb hf s hs
 ·cases hall:(jq x l).2 with
  | false=>simp_all
  | true =>
   rw[hall]at hd;simp at hd;subst hd;obtain⟨r,hp⟩:=h.regret;exact⟨((vn x _).1 r.may).1,hp hall⟩
def wg(x:Inst)(b:Int)(d:zn):zn:=vq (up x) b.toNat d
def xE(x:Inst)(b:Int)(l:List Stop):zn × Int:=x8 x (wM x l) (Z7 x (wg x b) l)
theorem Zqj{x:Inst}{l:List Stop}(h:SOk x l)(h0:arc x 0 0=0)(hf:wM x l=0){b:Int}(hb:b<=9223372036854775807):ZgO x b (wg x b) (Qv x l):=by
 intro d hd;have g:=Zhc h hf d hd;obtain⟨g2,-,-⟩:=Zan h h0 b.toNat d g;have o:=g.ok h;refine⟨⟨_,ZgD x d b (up x) (SG x l) hb o.n o.t (λ_=>g) (Zg9 h h0)⟩,g2.ok h,?_⟩;have:=(g2.len h).1
 show (vq (up x) b.toNat d).flatten.length<=1048576
 omega
theorem Zqk{x:Inst}{l:List Stop}(h:SOk x l)(h0:arc x 0 0=0){b:Int}(hb:b<=9223372036854775807):Pure prog 249 [.agg (zy x),L l,I b] (.tup [.agg [L (xE x b l).1],I (xE x b l).2]) :=
 ZpQ x l b _ h λhf=>Zqj h h0 hf hb
theorem Zhd{x:Inst}{l:List Stop}(h:SOk x l)(h0:arc x 0 0=0)(hf:wM x l=0)(b:Int):∀d∈Z7 x (wg x b) l,SG x l d:=by
 have hb:=Zhc h hf;have hi:=λd g=>(Zan h h0 b.toNat d g).1
 intro d hd;unfold Z7 at hd;unfold Qv at hb;simp only[List.cons_append,AK,As]at hd hb;rcases hd with rfl | rfl | rfl | hd
 ·simp_all
 ·exact hi _ (hb _ (.inl rfl))
 ·exact hi _ (hb _ (.inr (.inl rfl)))
 ·cases hall:(jq x l).2 with
  | false=>simp_all
  | true =>
   rw[hall]at hd;simp at hd;subst hd;exact hi _ (hb _ (.inr (.inr (by rw[hall];simp))))
theorem Zhe(x:Inst):∀(ds:List zn) (st:zn × Int × Bool),(st.2.2=true->(ds.foldl (vQ x) st).2.2=true/\(ds.foldl (vQ x) st).2.1<=st.2.1)/\∀d∈ds,yr x d=0->(ds.foldl (vQ x) st).2.2=true/\(ds.foldl (vQ x) st).2.1<=W (yk x d)
 | [],st=>⟨λe=>⟨e,De _⟩,by simp⟩
 | d :: ds,st=>by
  rw[A4];obtain⟨h1,h2⟩:=Zhe x ds (vQ x st d)
  grind[vQ]
theorem Zql{x:Inst}{e:Int}{ds:List zn}(he:e=0){d:zn}(hd:d∈ds)(hz:yr x d=0):(x8 x e ds).2=0/\W (yk x (x8 x e ds).1)<=W (yk x d):=by
 obtain⟨h1,h2⟩:=(Zhe x ds ([],0,false)).2 d hd hz
 grind[Qp,x8,ZcN]
theorem Zqm{x:Inst}{e:Int}{ds:List zn}(h:(x8 x e ds).2≠0):(x8 x e ds).1=[]:=by grind[x8]
theorem Zqn(x:Inst)(imp:zn->zn)(l:List Stop):qO l∈Z7 x imp l:=by simp[Z7]
section
variable {x:Inst} {l:List Stop} (h:SOk x l) (h0:arc x 0 0=0) (b:Int)
include h h0
theorem Zqo:DayOk (xE x b l).1/\(xE x b l).1.length<=1000/\(xE x b l).1.flatten.length<=1000:=by
 by_cases he:(xE x b l).2=0
 ·obtain⟨hf,hm,-⟩:=Zg2 he;have g:=Zhd h h0 hf b _ hm;exact⟨g.ok h,(g.len h).2,(g.len h).1⟩
 ·have:(xE x b l).1=[]:=Zqm he;rw[this];exact⟨⟨by simp,by simp,by simp⟩,by simp,by simp⟩
theorem Zhf(he:(xE x b l).2=0):wM x l=0/\yr x (xE x b l).1=0/\(xE x b l).1.flatten.Perm l/\(yr x (qO l)=0->W (yk x (xE x b l).1)<=W (yk x (qO l))):=by
 obtain⟨hf,hm,hz⟩:=Zg2 he;have g:=Zhd h h0 hf b _ hm;exact⟨hf,hz,g.perm,λq=>(Zql hf (Zqn x _ l) q).2⟩
omit h0 in
end
open Go
structure Visit where
 d:Int
 q:Int
 deriving DecidableEq
instance:Inhabited Visit:=⟨⟨0,0⟩⟩
instance:Enc Visit:=⟨λs=>[I s.d,I s.q],2,λ_=>rfl,λ_=>rfl⟩
@[simp] theorem Zzz(s:Visit):Enc.enc s=[I s.d,I s.q]:=rfl
@[simp high] theorem ZzA(l:List Visit):(l.flatMap Enc.enc).length=l.length*2:=xy l
@[simp high] theorem ZzB(l:List Visit):(l.flatMap Enc.enc).take (l.length*2)=l.flatMap Enc.enc:=YE l
def told:Nat->List zn->List (Stop × Nat)
 | _,[]=>[]
 | i,d :: ds=>d.flatten.map (·,i)++told (i+1) ds
def WD(x:Stop × Nat):List PV:=[.agg [I x.1.c,I x.1.q,I x.2]]
theorem Zqp(p:zA):Pure prog 99 [.agg [L p]] (.fn (.func 135) [] [.ip [L p]]):=by
 refine zr func99 ntmps99 results99 λS nx hd=>?_
 refine D7 ?_;intro v0;refine D7 ?_;refine x7 0 rfl ?_;exact D8 hd
theorem Zqq(p:zA)(hp:p.length<=1048576)(hd:∀d∈p,d.length<=1048576)(ht:∀d∈p,∀t∈d,t.length<=1048576):Qi prog 135 [.ip [L p]] ((told 0 p).map WD):=by
 have yieldX:∀(pre rest:List (Stop × Nat)) (x:Stop × Nat),told 0 p=pre++x :: rest->((told 0 p).map WD)[pre.length]?=some (WD x):=by
  intro pre rest x e;rw[e];simp
 refine Wf func135 D3 rfl ntmps135 (congrArg Array.toList results135) DZ λl V keep nx J hJd hY A0 hA0=>?_
 refine D7 ?_;refine zj (jC (σ:=Nat × Store × List (Stop × Nat)) (λs=>s.1<=p.length/\J s.2.2.length s.2.1/\told 0 p=s.2.2++told s.1 (p.drop s.1)) (λs=>[(0,jV l),(10,L p),(11,I p.length),(12,I s.1)]) (λs=>s.2.1) (λs=>[]) (λs=>p.length-s.1) (zT (0,A0,[]) [] (by simp[hA0]) DZ rfl DZ) ?_);rintro⟨a,A,pre⟩ ⟨ha,hJ,hr⟩;simp only at ha hJ hr ⊢;refine D7 ?_;refine za (zv rfl (λhc=>?_) (λhc=>?_))
 ·simp at hc;obtain⟨d,tl,a1,a2,a3,e0⟩:=zF rfl p a hc;have hdm:=Ab a1;have hdl:=hd d hdm;rw[a2]at hr;simp only[told]at hr;refine zh (za (zj (za (ze [] (zo e0 hc) ?_))));intro v0;refine D7 ?_;refine zj (jC (σ:=Nat × Store × List (Stop × Nat)) (λs=>s.1<=d.length/\J s.2.2.length s.2.1/\told 0 p=s.2.2++((d.drop s.1).flatten.map (·,a)++told (a+1) (p.drop (a+1)))) (λs=>[(0,jV l),(3,I a),(10,L p),(11,I p.length),(12,I a),(18,L d),(19,I d.length),(20,I s.1)]) (λs=>s.2.1) (λs=>[]) (λs=>d.length-s.1) (zT (0,A,pre) [_] (by simp[hJ,hr]) DZ rfl rfl) ?_);rintro⟨b,A,pre⟩ ⟨hb,hJ,hr⟩;simp only at hb hJ hr ⊢;refine D7 ?_;refine za (zv rfl (λhc2=>?_) (λhc2=>?_))
  ·simp at hc2;obtain⟨t,tl2,b1,b2,b3,e2⟩:=zF rfl d b hc2;have htl:=ht d hdm t (Ab b1);rw[b2]at hr;simp only[BJ,List.map_append,List.append_assoc]at hr;refine zh (za (zj (za (ze [] (zo e2 hc2) ?_))));intro v1;refine D7 ?_;refine zj (jC (σ:=Nat × Store × List (Stop × Nat)) (λs=>s.1<=t.length/\J s.2.2.length s.2.1/\told 0 p=s.2.2++((t.drop s.1).map (·,a)++((d.drop (b+1)).flatten.map (·,a)++told (a+1) (p.drop (a+1))))) (λs=>[(0,jV l),(3,I a),(10,L p),(11,I p.length),(12,I a),(18,L d),(19,I d.length),(20,I b),(25,L t),(26,I t.length),(27,I s.1)]) (λs=>s.2.1) (λs=>[]) (λs=>t.length-s.1) (zT (0,A,pre) [_] (by simp[hJ,hr]) DZ rfl rfl) ?_);rintro⟨j,A,pre⟩ ⟨hj,hJ,hr⟩;simp only at hj hJ hr ⊢;refine D7 ?_;refine za (zv rfl (λhc3=>?_) (λhc3=>?_))
   ·simp at hc3;obtain⟨s,tl3,c1,c2,c3,_,e3⟩:=el 2 rfl t j hc3;rw[c2]at hr;simp only[Az,List.cons_append]at hr;refine zh (za (zj (za (ze [] (zo e3 hc3) ?_))));intro v2;refine D7 ?_;refine λhsuf=>JZ rfl rfl rfl (hY _ _ _ _ (yieldX pre _ (s,a) hr) hJ) ?_
    rintro _ ⟨A',hJ',rfl⟩;refine⟨_,_,rfl,zL hsuf ?_⟩;refine zk rfl (zh (zb ?_));exact zq (j+1,A',pre++[(s,a)]) [_] ⟨hc3,by simpa using hJ',by simp[hr]⟩ D2 (by simp[zu j (by omega)]) rfl rfl
   ·simp at hc3;have:j=t.length:=DY
    subst this;simp only[BA,Bo,AK]at hr;refine zx (zb ?_);exact zq (b+1,A,pre) [] ⟨hc2,hJ,hr⟩ D2 (by simp[zu b (by omega)]) rfl DZ
  ·simp at hc2;have:b=d.length:=DY
   subst this;simp only[BA,List.flatten_nil,Bo,AK]at hr;refine zx (zb ?_);exact zq (a+1,A,pre) [] ⟨hc,hJ,hr⟩ D2 (by simp[zu a (by omega)]) rfl DZ
 ·simp at hc;have:a=p.length:=DY
  subst this;simp only[BA,told,AC]at hr;refine zx (u5 (hJd _ _ hJ) rfl ?_);simpa[hr] using hJ
open Go
def yf(c:Int)(l:List (Stop × Nat)):List Visit:=(l.filter λx=>decide (x.1.c=c)).map λx=>⟨x.2,x.1.q⟩
theorem QA(c:Int)(l m:List (Stop × Nat)):yf c (l++m)=yf c l++yf c m:=by simp[yf]
theorem Xp(c:Int)(x:Stop × Nat):yf c [x]=if x.1.c=c then [⟨x.2,x.1.q⟩] else []:=by
 by_cases h:x.1.c=c<;>simp[yf,h]
theorem ZcQ(c:Int)(l:List (Stop × Nat)):(yf c l).length<=l.length:=by
 simp only[yf,List.length_map];exact BI _ _
structure PlanOk (p:zA):Prop where
 n:p.length<=1048576
 d:∀d∈p,d.length<=1048576
 t:∀d∈p,∀t∈d,t.length<=1048576
 told:(told 0 p).length<=1048576
theorem ZcR(p:zA)(c:Int)(hp:PlanOk p):Pure prog 158 [.agg [L p],I c] (L (yf c (told 0 p))):=by
 have hlen:=hp.told;refine zr func158 ntmps158 results158 λS nx hd=>?_
 refine D7 ?_;intro v0 v1;refine D7 ?_;intro v2
 repeat apply za
 refine zb ?_;refine zt (Zqp p) ?_;refine je 2 0 104 2 rfl rfl λv3=>?_
 refine zj (J1 (xs:=(told 0 p).map WD) (σ:=List Visit × Nat) (λi s=>s.1=yf c ((told 0 p).take i)/\s.1.length<=i/\i<=(told 0 p).length) [(3,.ptr (nx+1) v1 0),(5,.ptr (nx+2) v2 0)] (λ_=>S)
  (λ(out,v3)=>[.cells v0 30 [L p],.cells v1 3 [I c],.cells v2 101 [.sl (nx+3) v3 2 0 out.length],.cells v3 104 (out.flatMap Enc.enc)]) ([],v3)
  (Zqq p hp.n hp.d hp.t) rfl (by intro x hx;obtain⟨y,_,rfl⟩:=Am.1 hx;rfl) D4 DZ ⟨by simp[yf],by simp,by simp⟩ rfl DZ DZ ?_ ?_)
 ·rintro l i ⟨out,v3⟩ more x ⟨ho,hl,hi⟩ hx;simp only at ho hl hi ⊢;rw[Aj]at hx;obtain⟨y,hy,rfl⟩:=Ao.1 hx;obtain⟨s,d⟩:=y;obtain⟨hil,hyi⟩:=Ac.1 hy;have htk:(told 0 p).take (i+1)=(told 0 p).take i++[(s,d)]:=by rw[AP hil,hyi]
  refine xx [] D3 D3 λK Gc Gh hK hGc hGh X hX0 hX=>?_
  simp -implicitDefEqProofs [hX0,hX,WD]
  try clear hX0 hX X
  intro v4;refine hK _ _ _ ?_;clear hK hGc hGh;clear K Gc Gh;refine zj (D7 ?_);refine zv rfl (λhc=>?_) (λhc=>?_)
  ·simp at hc;refine zb ?_;refine⟨by omega,?_⟩;simp only[jL];exact wZ (out++[⟨d,s.q⟩],v3+1) [_] ⟨by rw[htk,QA,Xp,if_pos hc,ho],by simp;omega,by omega⟩ rfl D0
  ·simp at hc;refine zh ?_;simp only[jL];exact wZ (out,v3) [_] ⟨by rw[htk,QA,Xp,if_neg hc,ho,AC],Nat.le_succ_of_le hl,by omega⟩ rfl D0
 ·rintro⟨out,v3⟩ ⟨ho,hl,-⟩;simp only[List.length_map,Ai]at ho hl ⊢;refine D7 ?_;refine zX 3 rfl ?_;exact zg (zi hd D0 (by rw[ho];rfl))
open Go
theorem Zqr(p:zA)(c:Int)(hp:PlanOk p):Pure prog 198 [.agg [L p],I c] (L ((yf c (told 0 p)).map (·.d))):=by
 have hlen:=AD (ZcQ c (told 0 p)) hp.told;have hvis:=ZcR p c hp;generalize yf c (told 0 p)=vs at hlen hvis ⊢;refine zr func198 ntmps198 results198 λS nx hd=>?_
 refine D7 ?_;intro v0;refine D7 ?_;refine za (qx 5 3 1 rfl λv1=>?_);refine D7 ?_;refine zt hvis ?_;refine zj (zC (λs:Nat × List Int × Nat=>s.1<=vs.length/\s.2.1=(vs.take s.1).map (·.d)) (λ(k,out,v1)=>[(5,.sl (nx+1) v1 1 0 out.length),(10,L vs),(11,I vs.length),(12,I k)]) (λ(k,out,v1)=>[.cells v0 30 [L p],.cells v1 3 (out.flatMap Enc.enc)]) (λs=>vs.length-s.1) (0,[],v1) [] DZ DZ DZ ?_);rintro⟨k,out,v1⟩ ⟨hk,ho⟩;simp only at hk ho ⊢;have hol:out.length=k:=by rw[ho];simp;omega
 refine D7 ?_;refine za (zv rfl (λhc=>?_) (λhc=>?_))
 ·simp at hc;obtain⟨s,tl,a1,a2,a3,_,e0⟩:=el 2 rfl vs k hc;refine zh (za (zj (za (ze [] (zo e0 hc) ?_))));intro v2;refine zb ?_;refine⟨by omega,?_⟩;refine zb ?_;exact zq (k+1,out++[s.d],v1+1) [_] ⟨hc,by rw[a3,ho];simp⟩ D2 (by simp[zu k (by omega)]) rfl D0
 ·simp at hc;have:k=vs.length:=DY
  subst this;rw[Ai]at ho;refine zx (D7 ?_);refine zX 1 rfl ?_;exact zg (zi hd D0 (by simp[ho,zp]))
def qK(n:Nat)(d:Int):Nat:=if 0<=d/\d<64 then n ||| 2 ^ d.toNat else n
theorem Zao(n:Nat)(d:Int)(hn:n<2 ^ 64):qK n d<2 ^ 64:=by
 unfold qK;split
 ·exact Nat.or_lt_two_pow hn (CB D4 DY)
 ·exact hn
def Ya(l:List Int):Nat:=l.foldl qK 0
theorem Zqs(l:List Int):Ya l<2 ^ 64:=by
 have:∀(l:List Int) (n:Nat),n<2 ^ 64->l.foldl qK n<2 ^ 64:=by
  intro l;induction l with
  | nil=>intro n h;exact h
  | cons d l ih=>intro n h;exact ih _ (Zao n d h)
 exact this l 0 D4
theorem ZcS(d:Int):Pure prog 260 [I d] (B (decide (0<=d/\d<64))):=by
 refine zr func260 ntmps260 results260 λS nx hd=>?_
 refine D7 ?_
 by_cases h1:0<=d
 ·refine za (ze [(2,5)] h1 ?_);exact zg (zi hd D0 (by simp[h1,zp]))
 ·refine za (ze [(2,5)] (zo h1 zH) ?_);exact zg (zi hd D0 (by simp[h1,zp]))
theorem Zhg(d:Nat)(h:d<64):IntKind.u64.wrap (2 ^ d)=((2 ^ d:Nat):Int):=by
 have h2:(2:Nat) ^ d<2 ^ 64:=CB D4 h;have h3:((2 ^ d:Nat):Int)<2 ^ 64:=by exact_mod_cast h2
 have h4:(2:Int) ^ d=((2 ^ d:Nat):Int):=DZ
 rw[h4];generalize (2 ^ d:Nat)=m at h3 ⊢;simp only[IntKind.wrap,IntKind.bits,IntKind.signed];simp;omega
theorem Zhh(n:Nat)(d:Int)(hn:n<2 ^ 64):Pure prog 226 [U n,I d] (U (qK n d)):=by
 refine zr func226 ntmps226 results226 λS nx hd=>?_
 refine D7 ?_
 repeat apply za
 refine zb ?_;refine zt (ZcS d) ?_
 by_cases h:0<=d/\d<64
 ·repeat apply za
  refine zk (by simp[h]) ?_;refine zh ?_;have h1:¬d<0:=DY
  have h2:min d.toNat 64=d.toNat:=DY
  have h3:=Zhg d.toNat DY;have h4:bits BinOp.or IntKind.u64 (n:Int) (2 ^ d.toNat)=((n ||| 2 ^ d.toNat:Nat):Int):=by
   have:=bits_or_u64_nat n (2 ^ d.toNat) DY (by have:(2:Nat) ^ d.toNat<2 ^ 64:=CB (by decide) (by omega);omega);simpa using this
  refine za (xx [] D3 D3 λK Gc Gh hK hGc hGh X hX0 hX=>?_);simp -implicitDefEqProofs [hX0,hX,h1,h2,IntKind.bits,h3,h4]
  try clear hX0 hX X
  refine hK _ _ _ ?_;clear hK hGc hGh;clear K Gc Gh;exact zg (zi hd D0 (by simp[qK,h,zp]))
 ·repeat apply za
  refine zm D2 ?_;refine D7 ?_;exact zg (zi hd D0 (by simp[qK,h,zp]))
theorem Zqt(l:List Int)(hl:l.length<=1048576):Pure prog 197 [L l] (U (Ya l)):=by
 refine zr func197 ntmps197 results197 λS nx hd=>?_
 refine D7 ?_;refine D7 ?_
 repeat apply za
 refine zb ?_;refine zj (zC (λs:Nat × Nat=>s.1<=l.length/\s.2=Ya (l.take s.1)) (λ(k,n)=>[(3,U n),(6,L l),(7,I l.length),(8,I k)]) (λ_=>[]) (λs=>l.length-s.1) (0,0) [] (by simp[Ya]) DZ DZ ?_);rintro⟨k,n⟩ ⟨hk,ho⟩;simp only at hk ho ⊢;refine D7 ?_;refine za (zv rfl (λhc=>?_) (λhc=>?_))
 ·simp at hc;obtain⟨d,tl,a1,a2,a3,e0⟩:=zF rfl l k hc;refine zh (za (zj (za (ze [] (zo e0 hc) ?_))));refine zb ?_;refine zt (Zhh n d (by rw[ho];exact Zqs _)) ?_;refine zb ?_;exact zq (k+1,qK n d) [] ⟨hc,by rw[a3,ho];simp[Ya,BE]⟩ D2 (by simp[zu k (by omega)]) rfl DZ
 ·simp at hc;have:k=l.length:=DY
  subst this;rw[Ai]at ho;refine zx (D7 ?_);exact zg (zi hd D0 (by simp[ho,zp]))
def WE(l:List Nat)(v:Nat):Int:=if v∈l then (l.findIdx (·=v):Nat) else -1
theorem Zqu(l:List Nat)(v:Nat)(hl:l.length<=1048576):Pure prog 242 [L l,U v] (I (WE l v)):=by
 refine zr func242 ntmps242 results242 λS nx hd=>?_
 refine D7 ?_
 repeat apply za
 refine zb ?_;refine zj (zC (λs:Nat=>s<=l.length/\v ∉ l.take s) (λk=>[(0,L l),(1,U v),(6,L l),(7,I l.length),(8,I k)]) (λ_=>[]) (λs=>l.length-s) 0 [] DZ DZ DZ ?_);rintro k ⟨hk,ho⟩;refine D7 ?_;refine za (zv rfl (λhc=>?_) (λhc=>?_))
 ·simp at hc;obtain⟨d,tl,a1,a2,a3,e0⟩:=zF rfl l k hc;refine zh (za (zj (D7 ?_)));refine za (ze [] (zo hc e0) ?_);refine zv rfl (λh=>?_) (λh=>?_)
  ·obtain rfl:v=d:=by simp at h;omega
   have hres:WE l v=k:=by
    have hm:=Ab a1;have:l.findIdx (·=v)=k:=by
     rw[List.findIdx_eq DY];obtain⟨q1,q2⟩:=Ac.1 a1;refine⟨by simp[q2],λj hj=>?_⟩;simp only[decide_eq_false_iff_not];intro e;apply ho;rw[List.mem_take_iff_getElem];exact⟨j,by omega,e⟩
    simp[WE,hm,this]
   refine D7 ?_;exact zg (zi hd D0 (by simp[hres,zp]))
  ·simp at h;refine zh (zb ?_);exact zq (k+1) [] ⟨hc,by rw[a3];simp;exact⟨ho,λe=>h DY⟩⟩ DY (by simp[zu k (by omega)]) rfl DZ
 ·simp at hc;have:k=l.length:=DY
  subst this;rw[Ai]at ho;refine zx (D7 ?_);exact zg (zi hd D0 (by simp[WE,ho,zp]))
theorem Zqv(l:List Nat)(v:Nat)(hl:l.length<=1048576):Pure prog 199 [L l,U v] (B (decide (v∈l))):=by
 refine zr func199 ntmps199 results199 λS nx hd=>?_
 refine D7 ?_;refine D7 ?_;refine zt (Zqu l v hl) ?_;exact zg (zi hd D0 (by by_cases h:v∈l<;>simp[WE,h,zp]))
open Go
structure CustFits (c:Cust):Prop where
 rate:0<=c.rate/\c.rate<=2147483648
 size:0<=c.size/\c.size<=2147483648
 start:0<=c.start/\c.start<=2147483648
def xF(q:Int):Bool:=decide (q<0\/2147483648<q)
def yN(size rate:Int):Int->List Int->Option (List Int)
 | _,[]=>some []
 | there,q :: l=>if size<there+q\/there+q<rate then none else (yN size rate (there+q-rate) l).map ((there+q-rate) :: ·)
def yZ(c:Cust)(q:List Int):List Int × Int :=
 if q.any xF then ([],1) else match yN c.size c.rate c.start q with
 | none=>([],8)
 | some l=>(l,0)
theorem Zhi(c:Cust){S:Store}{nx:Nat}(hd:zS nx S):Spec prog 156 [.agg (yb c)] S (λp S'=>∃v,p=.fn (.func 201) [] [.ptr (nx+1) v 0,.ip (yb c)]/\S'=S.set (nx+1) (.cells v 3 [I c.start])):=by
 refine u6 hd func156 ntmps156 results156 ?_;refine D7 ?_;intro v0;refine D7 ?_;intro v1;refine D7 ?_;refine x7 0 rfl ?_;refine zg ⟨_,_,rfl,⟨v1,by simp[zp],rfl⟩,Q8 (j:=1) hd DZ⟩
theorem Zhj(c:Cust)(q there:Int){S:Store}{id v:Nat}(hid:S id=.cells v 3 [I there])(h1:-4611686018427387904<=there+q/\there+q<=4611686018427387904)(h2:-4611686018427387904<=there+q-c.rate/\there+q-c.rate<=4611686018427387904):
  Spec prog 201 [I q,.ptr id v 0,.ip (yb c)] S (λp S'=>p=.tup [I (there+q),I (there+q-c.rate)]/\S'=S.set id (.cells v 3 [I (there+q-c.rate)])):=by
 refine yn func201 ntmps201 results201 λnx hd=>?_
 have hlt:id<nx:=by
  rcases Bi id nx with h | h
  ·exact h
  ·rw[hd id h]at hid;cases hid
 have hge:¬nx<=id:=DY
 have hE:∀obs,ext S nx obs id=.cells v 3 [I there]:=λobs=>(zB hlt).trans hid
 have hE2:∀obs x,ext (S.set id x) nx obs id=x:=λobs x=>(zB hlt).trans (q11 _ _ _)
 have hd2:∀x,zS nx (S.set id x):=λx i hi=>by rw[q10 _ _ _ _ DY];exact hd i hi
 have w1:IntKind.i64.wrap (there+q)=there+q:=wr _ DY DY;have w2:IntKind.i64.wrap (there+q-c.rate)=there+q-c.rate:=wr _ DY DY;refine D7 ?_;refine za (ze [] (zo hE w1) ?_);refine za (ze [] (zD hE hge w2) ?_);refine za (zz none (Row.pures [0,1,2,3] .done) mixed hE2 ?_);refine zg ⟨_,_,rfl,⟨rfl,rfl⟩,zO (hd2 _)⟩
theorem Zhk{size rate there q:Int}{l:List Int}{out:List Int}{r:Option (List Int)}(h:r=(yN size rate there (q :: l)).map (out++·))(hs:¬size<there+q)(hr:¬there+q<rate):
  r=(yN size rate (there+q-rate) l).map ((out++[there+q-rate])++·):=by
 rw[h];simp only[yN,hs,hr,or_self,if_false,Option.map_map];congr 1;funext x;simp
theorem ZcT(c:Cust)(q:List Int)(hc:CustFits c)(hq:q.length<=1048576):Pure prog 113 [.agg (yb c),L q] (.tup [L (yZ c q).1,I (yZ c q).2]):=by
 obtain⟨hr,hsz,hst⟩:=hc;refine zr func113 ntmps113 results113 λS nx hd=>?_
 refine D7 ?_;intro v0
 repeat apply za
 refine zb ?_;refine qz (nx:=nx) (σ:=Nat) (λv0=>q.any xF=false) (λv0=>[(1,L q),(2,.ptr nx v0 0)]) (λ_=>S) (λv0=>[.cells v0 87 (yb c)]) ?_ ?_
 ·refine zj (zC (λs:Nat=>s<=q.length/\(q.take s).any xF=false) (λk=>[(1,L q),(2,.ptr nx v0 0),(14,L q),(15,I q.length),(16,I k)]) (λ_=>[.cells v0 87 (yb c)]) (λs=>q.length-s) 0 [] DZ DZ DZ ?_);rintro k ⟨hk,ho⟩;refine D7 ?_;refine za (zv rfl (λhc=>?_) (λhc=>?_))
  ·simp at hc;obtain⟨z,tl,a1,a2,a3,e0⟩:=zF rfl q k hc;have bad:xF z=true->yZ c q=([],1):=λh=>by
    have:q.any xF=true:=by rw[BT];exact⟨z,Ab a1,h⟩
    simp[yZ,this]
   refine zh (za (zj (za (ze [] (zo e0 hc) ?_))))
   by_cases h1:z<0
   ·refine za (ze [(2,22)] (zo h1 zH) ?_);refine zm rfl (D7 ?_);refine ue 4 rfl ?_;exact zg (zi hd D0 (by rw[bad (by simp[xF,h1])];rfl))
   by_cases h2:(2147483648:Int)<z
   ·refine za (ze [(2,22)] (zo h1 h2) ?_);refine zm rfl (D7 ?_);refine ue 4 rfl ?_;exact zg (zi hd D0 (by rw[bad (by simp[xF,h2])];rfl))
   refine za (ze [(2,22)] (zo h1 h2) ?_);refine zk rfl (zh (zb ?_));exact zq (k+1) [] ⟨hc,by rw[a3,DJ,ho];simp[xF];omega⟩ DY (by simp[zu k (by omega)]) rfl DZ
  ·simp at hc;obtain rfl:k=q.length:=DY
   rw[Ai]at ho;exact zx (zT v0 [] ho DZ rfl DZ)
 ·intro v0 hb;have hq0:∀z∈q,0<=z/\z<=2147483648:=by
   intro z hz;rw[Cf]at hb;have:=hb z hz;simp[xF]at this;omega
  have hres:yZ c q=match yN c.size c.rate c.start q with | none=>([],8) | some l=>(l,0):=by simp[yZ,hb]
  refine D7 ?_;refine λhsuf=>((Zhi c jU).mono ?_).v
  rintro p T ⟨v1,rfl,rfl⟩;refine⟨_,_,JY _,zL hsuf ?_⟩;refine D7 ?_;refine⟨by omega,λv2=>?_⟩;refine Zlz 3 0 rfl ?_;simp only[CV,AX,Bc,List.append_eq,List.cons_append,AK,Ad,Ah]
  repeat apply za
  refine zb ?_;refine zj (zC (λs:Nat × Int × List Int × Nat=>s.1<=q.length/\s.2.2.1.length=s.1/\(0<=s.2.1/\s.2.1<=2147483648)/\yN c.size c.rate c.start q=(yN c.size c.rate s.2.1 (q.drop s.1)).map (s.2.2.1++·))
   (λ(k,there,out,v2)=>[(2,.ptr nx v0 0),(8,.fn (.func 201) [] [.ptr (nx+2) v1 0,.ip (yb c)]),(9,.sl (nx+3) v2 1 0 out.length),(32,L q),(33,I q.length),(34,I k)])
   (λ(k,there,out,v2)=>[.cells v0 87 (yb c),.dead,.cells v1 3 [I there],.cells v2 3 (out.flatMap Enc.enc)]) (λs=>q.length-s.1) (0,c.start,[],v2) [] ?_ DZ DZ ?_)
  ·refine⟨by simp,by simp,hst,?_⟩;simp
  rintro⟨k,there,out,v2⟩ ⟨hk,hol,hth,ho⟩;simp only at hk hol hth ho ⊢;refine D7 ?_;refine za (zv rfl (λhc=>?_) (λhc=>?_))
  ·simp at hc;obtain⟨z,tl,a1,a2,a3,e0⟩:=zF rfl q k hc;have hz:=hq0 z (Ab a1);rw[a2]at ho;refine zh (za (zj (za (ze [] (zo e0 hc) ?_))));refine D7 ?_;refine λhsuf=>((Zhj c z there (id:=nx+2) (v:=v1) DZ DY DY).mono ?_).v
   rintro p T ⟨rfl,rfl⟩;refine⟨_,_,yl _ DY DZ,zL hsuf ?_⟩;have bad:(c.size<there+z\/there+z<c.rate)->yZ c q=([],8):=λh=>by
    rw[hres,ho];simp only[yN,if_pos h,Option.map_none]
   by_cases h1:c.size<there+z
   ·repeat apply za
    refine ze [(4,48)] (zo h1 zH) ?_;refine zm rfl (D7 ?_);refine ue 4 rfl ?_;exact zg (zi hd D0 (by rw[bad (.inl h1)];rfl))
   by_cases h2:there+z<c.rate
   ·repeat apply za
    refine ze [(4,48)] (zo h1 h2) ?_;refine zm rfl (D7 ?_);refine ue 4 rfl ?_;exact zg (zi hd D0 (by rw[bad (.inr h2)];rfl))
   repeat apply za
   refine ze [(4,48)] (zo h1 h2) ?_;refine zk rfl (zh (zb ?_));refine⟨by omega,?_⟩;refine zb ?_;exact zq (k+1,there+z-c.rate,out++[there+z-c.rate],v2+1) [] ⟨hc,by simp[hol],by dsimp only;omega,Zhk ho h1 h2⟩ D2 (by simp[zu k (by omega)]) rfl DZ
  ·simp at hc;obtain rfl:k=q.length:=DY
   rw[BA]at ho;simp only[yN,A3,AC]at ho;refine zx (D7 ?_);refine zX 3 rfl ?_;exact zg (zi hd D0 (by rw[hres,ho];simp[zp]))
open Go
def wh(rate size:Int):List Int->List Int->Bool
 | z :: q,n :: l=>decide (0<z/\n+rate≠size) || wh rate size q l
 | _,_=>false
def uq(c:Cust)(q:List Int):Int :=
 if (yZ c q).2≠0 then (yZ c q).2 else if c.rule≠1 then 0 else if wh c.rate c.size q (yZ c q).1 then 9 else 0
def Yb(c:Cust)(ns:List Int):Int:=W (c.hold*W ns.sum)
theorem Xq(l:List Int)(x:Int):(l++[x]).sum=l.sum+x:=DZ
theorem ZcU(c:Cust)(ns:List Int)(hn:ns.length<=1048576):Pure prog 115 [.agg (yb c),L ns] (I (Yb c ns)):=by
 refine zr func115 ntmps115 results115 λS nx hd=>?_
 refine D7 ?_;intro v0;refine D7 ?_
 repeat apply za
 refine zb ?_;refine zj (zC (λs:Nat=>s<=ns.length) (λk=>[(2,.ptr nx v0 0),(5,I (W (ns.take k).sum)),(8,L ns),(9,I ns.length),(10,I k)]) (λ_=>[.cells v0 87 (yb c)]) (λs=>ns.length-s) 0 [] DZ DZ DZ ?_);rintro k hk;refine D7 ?_;refine za (zv rfl (λhc=>?_) (λhc=>?_))
 ·simp at hc;obtain⟨z,tl,a1,a2,a3,e0⟩:=zF rfl ns k hc;refine zh (za (zj (za (ze [] (zo e0 hc) ?_))));refine zb ?_;refine zb ?_;have hw:W (W (ns.take k).sum+z)=W (ns.take (k+1)).sum:=by rw[a3,Xq,vK]
  exact zq (k+1) [] hc DY (by simp[zu k (by omega)];exact hw) rfl DZ
 ·simp at hc;obtain rfl:k=ns.length:=DY
  rw[Ai];refine zx (D7 ?_);exact D8 hd
theorem Zhl(c:Cust)(q:List Int)(hc:CustFits c)(hq:q.length<=1048576):Pure prog 200 [.agg (yb c),L q] (I (uq c q)):=by
 have hni:=ZcT c q hc hq;obtain⟨hr,hsz,hst⟩:=hc;refine zr func200 ntmps200 results200 λS nx hd=>?_
 refine D7 ?_;intro v0
 repeat apply za
 refine zb ?_;refine zt hni ?_
 by_cases he:(yZ c q).2=0
 case neg =>
  refine za (ze [] he ?_);refine zm (by simp[he]) ?_;refine D7 ?_;exact zg (zi hd D0 (by simp[uq,he,zp]))
 refine za (ze [] he ?_);refine zk (by simp[he]) ?_;refine zh ?_
 by_cases hru:c.rule=1
 case neg =>
  repeat apply za
  refine ze [] hru ?_;refine zm (by simp[hru]) ?_;refine D7 ?_;exact zg (zi hd D0 (by simp[uq,he,hru,zp]))
 repeat apply za
 refine ze [] hru ?_;refine zk (by simp[hru]) ?_;refine zh ?_;have hres:uq c q=if wh c.rate c.size q (yZ c q).1 then 9 else 0:=by simp[uq,he,hru]
 obtain⟨l,hl,hq0⟩:∃l,yN c.size c.rate c.start q=some l/\(yZ c q).1=l/\∀z∈q,0<=z/\z<=2147483648:=by
  unfold yZ at he ⊢;split at he
  ·simp at he
  ·rename_i hb;cases hrn:yN c.size c.rate c.start q with
   | none=>simp[hrn]at he
   | some l =>
    refine⟨l,rfl,by simp[hb],λz hz=>?_⟩;simp only[Bool.not_eq_true,Cf]at hb;have:=hb z hz;simp[xF]at this;omega
 obtain⟨hl1,hq0⟩:=hq0;rw[hl1]at hres;refine D7 ?_;refine λhsuf=>((Zhi c jU).mono ?_).v
 rintro p T ⟨v1,rfl,rfl⟩;refine⟨_,_,JY _,zL hsuf ?_⟩
 repeat apply za
 refine zb ?_;refine zj (zC (λs:Nat × Int=>s.1<=q.length/\(0<=s.2/\s.2<=2147483648)/\yN c.size c.rate s.2 (q.drop s.1)=some (l.drop s.1)/\wh c.rate c.size q l=wh c.rate c.size (q.drop s.1) (l.drop s.1))
  (λ(k,there)=>[(2,.ptr nx v0 0),(7,.fn (.func 201) [] [.ptr (nx+2) v1 0,.ip (yb c)]),(26,L q),(27,I q.length),(28,I k)])
  (λ(k,there)=>[.cells v0 87 (yb c),.dead,.cells v1 3 [I there]]) (λs=>q.length-s.1) (0,c.start) [] ⟨by simp,hst,by simpa using hl,by simp⟩ DZ DZ ?_)
 rintro⟨k,there⟩ ⟨hk,hth,hrn,ho⟩;simp only at hk hth hrn ho ⊢;refine D7 ?_;refine za (zv rfl (λhc=>?_) (λhc=>?_))
 ·simp at hc;obtain⟨z,tl,a1,a2,a3,e0⟩:=zF rfl q k hc;have hz:=hq0 z (Ab a1);rw[a2]at hrn ho;simp only[yN]at hrn;split at hrn
  ·cases hrn
  rename_i hno;obtain⟨l2,hl2,hl3⟩:=Ao.1 hrn;rw[<-hl3]at ho;simp only[wh]at ho;have hl4:l.drop (k+1)=l2:=by rw[<-List.drop_drop,<-hl3];rfl
  have hs1:there+z-c.rate+c.rate=there+z:=DY
  rw[hs1]at ho;refine zh (za (zj (za (ze [] (zo e0 hc) ?_))));refine D7 ?_;refine λhsuf=>((Zhj c z there (id:=nx+2) (v:=v1) DZ DY DY).mono ?_).v
  rintro p T ⟨rfl,rfl⟩;refine⟨_,_,yl _ DY DZ,zL hsuf ?_⟩
  by_cases h1:0<z
  ·by_cases h2:there+z=c.size
   ·refine za (ze [(2,40)] (zo h1 h2) ?_);refine zk (by simp[h2]) ?_;refine zh (zb ?_);exact zq (k+1,there+z-c.rate) [] ⟨hc,by dsimp only;omega,by rw[hl4];exact hl2,by rw[ho,hl4,decide_eq_false DY,DR]⟩ D2 (by simp[zu k (by omega)]) rfl (by simp[h2])
   ·refine za (ze [(2,40)] (zo h1 h2) ?_);refine zm (by simp[h2]) ?_;refine D7 ?_;exact zg (zi hd D0 (by rw[hres,ho];simp[h1,h2,zp]))
  ·refine za (ze [(2,40)] (zo h1 zH) ?_);refine zk rfl (zh (zb ?_));exact zq (k+1,there+z-c.rate) [] ⟨hc,by dsimp only;omega,by rw[hl4];exact hl2,by rw[ho,hl4,decide_eq_false DY,DR]⟩ D2 (by simp[zu k (by omega)]) rfl DZ
 ·simp at hc;obtain rfl:k=q.length:=DY
  rw[BA]at ho;simp only[wh]at ho;refine zx (D7 ?_);exact zg (zi hd D0 (by rw[hres,ho];rfl))
def vu(a b:Int):Int:=if a+b < -9223372036854775808 then -9223372036854775808 else if 9223372036854775807<a+b then 9223372036854775807 else a+b
theorem Zqw(a b:Int)(ha:zM a)(hb:zM b):Pure prog 167 [I a,I b] (if -9223372036854775808<=a+b/\a+b<=9223372036854775807 then .tup [I (a+b),B true] else .tup [I 0,B false]):=by
 unfold zM at ha hb;refine zr func167 ntmps167 results167 λS nx hd=>?_
 refine D7 ?_
 by_cases h:-9223372036854775808<=a+b/\a+b<=9223372036854775807
 ·have w1:IntKind.i64.wrap (a+b)=a+b:=wr _ h.1 h.2;refine za (ze [] w1 ?_)
  by_cases h1:b<0
  ·have h2:a+b<a:=DY
   repeat apply za
   refine ze [] (zo h1 h2) ?_;refine zk DZ ?_;refine zh (D7 ?_);exact zg (zi hd D0 (by simp[h,zp]))
  ·have h2:¬a+b<a:=DY
   repeat apply za
   refine ze [] (zo h1 h2) ?_;refine zk DZ ?_;refine zh (D7 ?_);exact zg (zi hd D0 (by simp[h,zp]))
 ·by_cases h0:a+b < -9223372036854775808
  ·have w1:IntKind.i64.wrap (a+b)=a+b+18446744073709551616:=by rw[AG];omega
   have h1:b<0:=DY
   have h2:¬a+b+18446744073709551616<a:=DY
   refine za (ze [] w1 ?_)
   repeat apply za
   refine ze [] (zo h1 h2) ?_;refine zm DZ ?_;refine D7 ?_;exact zg (zi hd D0 (by simp only[h,if_false];rfl))
  ·have w1:IntKind.i64.wrap (a+b)=a+b-18446744073709551616:=by rw[AG];omega
   have h1:¬b<0:=DY
   have h2:a+b-18446744073709551616<a:=DY
   refine za (ze [] w1 ?_)
   repeat apply za
   refine ze [] (zo h1 h2) ?_;refine zm DZ ?_;refine D7 ?_;exact zg (zi hd D0 (by simp only[h,if_false];rfl))
theorem Zap(a b:Int)(ha:zM a)(hb:zM b):Pure prog 123 [I a,I b] (I (vu a b)):=by
 have hadd:=Zqw a b ha hb;unfold zM at ha hb;refine zr func123 ntmps123 results123 λS nx hd=>?_
 refine D7 ?_
 by_cases h:-9223372036854775808<=a+b/\a+b<=9223372036854775807
 ·rw[if_pos h]at hadd;refine D7 ?_;refine zt hadd ?_;refine za (zj (D7 ?_));refine zm rfl (D7 ?_);exact zg (zi hd D0 (by simp only[vu,zp];rw[if_neg (by omega),if_neg (by omega)]))
 ·rw[if_neg h]at hadd;refine D7 ?_;refine zt hadd ?_;refine za (zj (D7 ?_));refine zk rfl (D7 ?_);refine zv rfl (λh1=>?_) (λh1=>?_)
  ·simp at h1;refine D7 ?_;exact zg (zi hd D0 (by simp only[vu,zp];rw[if_pos (by omega)]))
  ·simp at h1;refine zh (D7 ?_);exact zg (zi hd D0 (by simp only[vu,zp];rw[if_neg (by omega),if_pos (by omega)]))
theorem Xr(a lo hi:Int):Pure prog 80 [I a,I lo,I hi] (I (min (max a lo) hi)):=by
 have h1:xv (jm a lo) hi=min (max a lo) hi:=by unfold xv jm;split<;>split<;>omega
 refine zr func80 ntmps80 results80 λS nx hd=>?_
 refine D7 ?_;refine za (ze [] h1 ?_);exact D8 hd
def z8(v:List Visit)(n:Int):List Int:=(List.range (min (max n 0) 64).toNat).map λ(d:Nat)=>((v.filter λs=>decide (s.d=(d:Int))).map (·.q)).sum
theorem WF(v:List Visit)(n:Int):(z8 v n).length=(min (max n 0) 64).toNat:=by simp[z8]
theorem Zhm(n:Int):z8 [] n=List.replicate (min (max n 0) 64).toNat 0:=by
 apply Bd
 ·simp[z8]
 ·intro i h1 h2;simp[z8]
theorem Zqx(v:List Visit)(n:Int)(s:Visit)(h:¬(0<=s.d/\s.d<((min (max n 0) 64).toNat:Int))):z8 (v++[s]) n=z8 v n:=by
 unfold z8;apply AN;intro d hd;have hdl:=AL.1 hd;have:¬s.d=(d:Int):=DY
 simp[this]
theorem Zqy(v:List Visit)(n:Int)(s:Visit)(d:Nat)(hs:s.d=(d:Int))(b:Int)(hb:(z8 v n)[d]?=some b):z8 (v++[s]) n=(z8 v n).set d (b+s.q):=by
 obtain⟨hdl,hbe⟩:=Ac.1 hb;apply Bd
 ·simp[z8]
 ·intro i h1 h2;rw[C5];have hil:i<(z8 v n).length:=by simpa using h2
  by_cases q:d=i
  ·subst q;rw[if_pos rfl,<-hbe];simp[z8,hs]
  ·rw[if_neg q];have:¬s.d=(i:Int):=DY
   simp[z8,this]
structure VisOk (v:List Visit):Prop where
 n:v.length<=1048576
 q:∀s∈v,0<=s.q/\s.q<=2147483648
 d:∀s∈v,zM s.d
theorem Zhn(v:List Visit)(p:Visit->Bool)(h:∀s∈v,0<=s.q/\s.q<=2147483648):0<=((v.filter p).map (·.q)).sum/\((v.filter p).map (·.q)).sum<=2147483648*v.length:=by
 induction v with
 | nil=>simp
 | cons s v ih =>
  have h1:=ih λx hx=>h x (by simp[hx])
  have h2:=h s DZ;rw[BN];split
  ·simp only[Az,BP,Ad];omega
  ·simp only[Ad];omega
theorem Zqz{v:List Visit}(hv:∀s∈v,0<=s.q/\s.q<=2147483648)(n:Int):∀b∈z8 v n,0<=b/\b<=2147483648*v.length:=by
 intro b hb;simp only[z8,Am]at hb;obtain⟨d,_,rfl⟩:=hb;exact Zhn v _ hv
theorem Zho(v:List Visit)(n:Int)(hv:VisOk v):Pure prog 157 [L v,I n] (L (z8 v n)):=by
 have hvn:=hv.n;have hm:min (max n 0) 64=(((min (max n 0) 64).toNat:Nat):Int):=DY
 have hm64:(min (max n 0) 64).toNat<=64:=DY
 refine zr func157 ntmps157 results157 λS nx hd=>?_
 refine D7 ?_;refine D7 ?_;refine zt (Xr n 0 64) ?_;refine⟨by omega,λv1=>?_⟩;generalize hmm:(min (max n 0) 64).toNat=m at hm hm64;have hz:=Zhm n;rw[hmm]at hz
 repeat apply za
 refine zb ?_;refine zj (zC (λs:Nat=>s<=v.length) (λk=>[(5,.sl nx v1 1 0 m),(11,L v),(12,I v.length),(13,I k)]) (λk=>[.cells v1 3 ((z8 (v.take k) n).flatMap Enc.enc)]) (λs=>v.length-s) 0 [] DZ (by simp[hmm]) (by simp[hz,hmm,ZbR]) ?_);rintro k hk;have hbl:=WF (v.take k) n;rw[hmm]at hbl;refine D7 ?_;refine za (zv rfl (λhc=>?_) (λhc=>?_))
 ·simp at hc;obtain⟨s,tl,a1,a2,a3,_,e0⟩:=el 2 rfl v k hc;have hsm:=Ab a1;have hsq:=hv.q s hsm;have hout:=Zqx (v.take k) n s;rw[hmm]at hout;refine zh (za (zj (za (ze [] (zo e0 hc) ?_))));intro v2
  by_cases h1:0<=s.d
  ·by_cases h2:s.d<(m:Int)
   ·obtain⟨d,hd⟩:=Au h1;have hdm:d<m:=DY
    obtain⟨b,tl2,b1,b2,b3,e2⟩:=zF rfl (z8 (v.take k) n) d DY;have hbm:=Zqz (λx hx=>hv.q x (Bq hx)) n b (Ab b1);have htl:(v.take k).length<=1048576:=D2
    have hin:=Zqy (v.take k) n s d hd b b1;have hsp:=VS (z8 (v.take k) n) d (b+s.q) DY;have hsat:vu b s.q=b+s.q:=by unfold vu;rw[if_neg DY,if_neg DY]
    have hflen:((z8 (v.take k) n).flatMap Enc.enc).length=m:=by rw[jf,hbl]
    refine za (ze [(3,20)] (zo h1 h2) ?_);refine zm rfl (zz (some [nx+1]) (Row.pures [0,1,2,3,4,5,6,8,9] (.alt 7 (Row.pures [10,11] (.alt 12 (.done) .stop)) .stop)) mixed (zN hd hdm e2 hbl) ?_);refine zG (Zap b s.q (by unfold zM;omega) (by unfold zM;omega)) (yF hsat hsp hbl hdm hd) ?_;refine⟨by omega,?_⟩;refine zb ?_;exact zq (k+1) [_] hc DY (by simp[zu k (by omega)]) rfl (by rw[a3,hin];rfl)
   ·refine za (ze [(3,20)] (zo h1 h2) ?_);refine zk rfl (zh (zb ?_));exact zq (k+1) [_] hc DY (by simp[zu k (by omega)]) rfl (by rw[a3,hout (by omega)];rfl)
  ·refine za (ze [(3,20)] (zo h1 zH) ?_);refine zk rfl (zh (zb ?_));exact zq (k+1) [_] hc DY (by simp[zu k (by omega)]) rfl (by rw[a3,hout (by omega)];rfl)
 ·simp at hc;obtain rfl:k=v.length:=DY
  rw[Ai]at hbl ⊢;refine zx (D7 ?_);refine zX 0 rfl ?_;exact zg (zi hd D0 (by simp[hbl,zp]))
open Go
def yH(n:Nat):List Int:=if h:n=0 then [] else ((n % 65536:Nat):Int) :: yH (n / 65536)
termination_by n
decreasing_by omega
theorem QB:yH 0=[]:=by rw[yH];simp
theorem QC{n:Nat}(h:n≠0):yH n=((n % 65536:Nat):Int) :: yH (n / 65536):=by rw[yH];simp[h]
def yp:List Int->Int
 | []=>0
 | d :: l=>d+65536*yp l
def wQ(l:List Int):Prop:=∀d∈l,0<=d/\d<65536
def Jq:List Int->Prop
 | []=>True
 | [d]=>d≠0
 | _ :: e :: l=>Jq (e :: l)
theorem QD:∀n:Nat,wQ (yH n)/\yp (yH n)=n/\Jq (yH n)/\(n<65536 ^ 4->(yH n).length<=4):=by
 intro n
 induction n using Nat.strongRecOn with
 | _ n ih =>
  by_cases h:n=0
  ·subst h;rw[QB];exact⟨λd hd=>(nomatch hd),rfl,trivial,by simp⟩
  ·obtain⟨h1,h2,h3,_⟩:=ih (n / 65536) DY;rw[QC h];refine⟨?_,?_,?_,?_⟩
   ·intro d hd;rcases As.1 hd with rfl | hd
    ·omega
    ·exact h1 d hd
   ·simp only[yp,h2];omega
   ·cases hl:yH (n / 65536) with
    | nil =>
     rw[hl]at h2;simp only[yp]at h2;simp only[Jq];omega
    | cons e l=>rw[hl]at h3;exact h3
   ·intro hlt;have:∀m:Nat,∀k:Nat,m<65536 ^ k->(yH m).length<=k:=by
     intro m k
     induction k generalizing m with
     | zero=>intro hm;simp at hm;subst hm;rw[QB];simp
     | succ k ihk =>
      intro hm
      by_cases h0:m=0
      ·subst h0;rw[QB];simp
      ·rw[QC h0];have:=ihk (m / 65536) (by rw[Nat.pow_succ]at hm;exact Nat.div_lt_of_lt_mul (by rw[DV];exact hm));simp;exact this
    have:=this n 4 hlt;rw[QC h]at this;exact this
theorem ZcV{l:List Int}(h:wQ l):0<=yp l:=by
 induction l with
 | nil=>simp[yp]
 | cons d l ih =>
  have h1:=h d DZ;have h2:=ih λx hx=>h x (by simp[hx])
  simp only[yp];omega
theorem Zaq(a b:List Int):yp (a++b)=yp a+65536 ^ a.length*yp b:=by
 induction a with
 | nil=>simp[yp]
 | cons d a ih=>simp only[List.cons_append,yp,ih,Ad,DW];rw[Df,Int.mul_comm (65536 ^ a.length) 65536,Int.mul_assoc];omega
theorem ZqA:∀{l:List Int},wQ l->Jq l->l=yH (yp l).toNat:=by
 intro l
 induction l with
 | nil=>intro _ _;simp only[yp];exact QB.symm
 | cons d l ih =>
  intro h ht;have h1:=h d DZ;have hl:wQ l:=λx hx=>h x (by simp[hx])
  have h2:=ZcV hl;cases l with
  | nil =>
   simp only[Jq]at ht;simp only[yp];rw[QC DY];have e1:(d+65536*0).toNat / 65536=0:=DY
   rw[e1,QB];congr 1;omega
  | cons e l =>
   have:=ih hl ht;have hpos:yp (e :: l)≠0:=by
    intro h0;rw[h0]at this;rw[show (0:Int).toNat=0 from rfl,QB]at this;cases this
   have ev:yp (d :: e :: l)=d+65536*yp (e :: l):=rfl;rw[ev,QC DY];have e1:(d+65536*yp (e :: l)).toNat / 65536=(yp (e :: l)).toNat:=DY
   rw[e1,<-this];congr 1;omega
theorem Zar(n:Int)(hn:zM n):Pure prog 186 [I n] (.agg [L (yH n.natAbs),B (decide (n<0))]):=by
 unfold zM at hn;have hd4:=(QD n.natAbs).2.2.2 (by rw[show (65536:Nat) ^ 4=18446744073709551616 from by decide];omega);refine zr func186 ntmps186 results186 λS nx hd=>?_
 refine D7 ?_;intro v0;refine D7 ?_;intro v1;refine D7 ?_;refine za (je 1 0 3 1 rfl rfl λv2=>?_);refine zj (zC (λs:Int × List Int × Nat=>yH n.natAbs=s.2.1++yH s.1.natAbs/\(-9223372036854775808<=s.1/\s.1<=9223372036854775807)) (λ(m,out,v2)=>[(0,I m),(2,.ptr nx v0 0),(3,.ptr (nx+1) v1 0)])
  (λ(m,out,v2)=>[.cells v0 249 [.sc (.slice none 0 0),B false],.cells v1 249 [.sl (nx+2) v2 1 0 out.length,B (decide (n<0))],.cells v2 3 (out.flatMap Enc.enc)]) (λs=>s.1.natAbs) (n,[],v2) [] (by simp;exact hn) DZ DZ ?_)
 rintro⟨m,out,v2⟩ ⟨ho,hm⟩;simp only at ho hm ⊢
 by_cases h0:m=0
 ·subst h0;rw[show (0:Int).natAbs=0 from rfl,QB,AC]at ho
  repeat apply za
  refine zb ?_;refine zk rfl (zx (D7 ?_));refine zX 2 rfl ?_;exact zg (zi hd D0 (by rw[ho];simp[zp]))
 ·repeat apply za
  refine ze [] h0 ?_;refine zm (by simp[h0]) ?_;refine zh (zj ?_);have hdm:yH m.natAbs=((m.natAbs % 65536:Nat):Int) :: yH (m.tdiv 65536).natAbs:=by
   rw[QC DY];congr 2;rw[Int.natAbs_tdiv];rfl
  rw[hdm]at ho;have hol:out.length<=4:=by rw[ho]at hd4;simp at hd4;omega
  have hq:(m.tdiv 65536).natAbs=m.natAbs / 65536:=by rw[Int.natAbs_tdiv];rfl
  have hq2:-9223372036854775808<=m.tdiv 65536/\m.tdiv 65536<=9223372036854775807:=DY
  have w1:IntKind.i64.wrap (m.tdiv 65536)=m.tdiv 65536:=wr _ hq2.1 hq2.2;refine D7 ?_
  repeat apply za
  refine zb ?_
  by_cases hneg:m.tmod 65536<0
  ·have e1:-(m.tmod 65536)=((m.natAbs % 65536:Nat):Int):=by
    have:=Int.natAbs_tmod m 65536;have e:(65536:Int).natAbs=65536:=rfl;rw[e]at this;omega
   have w2:IntKind.i64.wrap (-(m.tmod 65536))=((m.natAbs % 65536:Nat):Int):=by rw[wr _ DY DY];exact e1
   refine zm (by simp[hneg]) ?_;refine ze [] w2 ?_;refine D7 ?_;refine⟨by omega,?_⟩;refine ze [] w1 ?_;exact zq (m.tdiv 65536,out++[((m.natAbs % 65536:Nat):Int)],v2+1) [] ⟨by rw[ho];simp,hq2⟩ (by dsimp only;omega) DZ rfl DZ
  ·have e1:m.tmod 65536=((m.natAbs % 65536:Nat):Int):=by
    have:=Int.natAbs_tmod m 65536;have e:(65536:Int).natAbs=65536:=rfl;rw[e]at this;omega
   refine zk D2 ?_;refine zh (za (ze [] e1 ?_));refine⟨by omega,?_⟩;refine ze [] w1 ?_;exact zq (m.tdiv 65536,out++[((m.natAbs % 65536:Nat):Int)],v2+1) [] ⟨by rw[ho];simp,hq2⟩ (by dsimp only;omega) DZ rfl DZ
def qY:List Int->List Int->Int->List Int
 | [],[],c=>if 0<c then [c] else []
 | a :: u,[],c=>(a+c) % 65536 :: qY u [] ((a+c) / 65536)
 | [],b :: bs,c=>(b+c) % 65536 :: qY [] bs ((b+c) / 65536)
 | a :: u,b :: bs,c=>(a+b+c) % 65536 :: qY u bs ((a+b+c) / 65536)
theorem ZqB:∀(a b:List Int) (c:Int),wQ a->wQ b->0<=c->c<=1->wQ (qY a b c)/\yp (qY a b c)=yp a+yp b+c/\(qY a b c).length<=max a.length b.length+1:=by
 intro a
 induction a with
 | nil =>
  intro b
  induction b with
  | nil =>
   intro c _ _ h0 h1;simp only[qY];split
   ·refine⟨?_,by simp[yp],by simp⟩;intro d hd;simp at hd;omega
   ·refine⟨by intro d hd;simp at hd,by simp[yp];omega,by simp⟩
  | cons b bs ih =>
   intro c ha hb h0 h1;have hb1:=hb b DZ;obtain⟨q1,q2,q3⟩:=ih ((b+c) / 65536) ha (λx hx=>hb x (by simp[hx])) DY DY;simp only[qY];refine⟨?_,by simp only[yp]at q2 ⊢;rw[q2];omega,by simp at q3 ⊢;omega⟩;intro d hd;rcases As.1 hd with rfl | hd
   ·omega
   ·exact q1 d hd
 | cons a u iha =>
  intro b;cases b with
  | nil =>
   intro c ha hb h0 h1;have ha1:=ha a DZ;obtain⟨q1,q2,q3⟩:=iha [] ((a+c) / 65536) (λx hx=>ha x (by simp[hx])) hb DY DY;simp only[qY];refine⟨?_,by simp only[yp]at q2 ⊢;rw[q2];omega,by simp at q3 ⊢;omega⟩;intro d hd;rcases As.1 hd with rfl | hd
   ·omega
   ·exact q1 d hd
  | cons b bs =>
   intro c ha hb h0 h1;have ha1:=ha a DZ;have hb1:=hb b DZ;obtain⟨q1,q2,q3⟩:=iha bs ((a+b+c) / 65536) (λx hx=>ha x (by simp[hx])) (λx hx=>hb x (by simp[hx])) DY DY;simp only[qY];refine⟨?_,by simp only[yp]at q2 ⊢;rw[q2];omega,by simp at q3 ⊢;omega⟩;intro d hd;rcases As.1 hd with rfl | hd
   ·omega
   ·exact q1 d hd
theorem ZqC(a b:List Int)(c:Int)(h:a≠[]\/b≠[]\/0<c):qY a b c=(a.headD 0+b.headD 0+c) % 65536 :: qY a.tail b.tail ((a.headD 0+b.headD 0+c) / 65536)\/(a=[]/\b=[]/\qY a b c=[c]):=by
 cases a with
 | nil =>
  cases b with
  | nil=>right;simp at h;simp[qY,h]
  | cons b bs=>left;simp[qY]
 | cons a u =>
  cases b with
  | nil=>left;simp[qY]
  | cons b bs=>left;simp[qY]
theorem Zas(l:List Int)(k:Nat):(l.drop k).headD 0=l.getD k 0:=by simp[List.headD_eq_head?_getD,List.head?_drop,Aa]
theorem ZqD(a b:List Int)(ha:wQ a)(hb:wQ b)(hal:a.length<=1000)(hbl:b.length<=1000):Pure prog 219 [L a,L b] (L (qY a b 0)):=by
 refine zr func219 ntmps219 results219 λS nx hd=>?_
 refine D7 ?_;refine D7 ?_;refine za (qx 5 3 1 rfl λv1=>?_);refine zb ?_
 repeat apply za
 refine zb ?_;refine zj (zC (λs:Nat × Int × List Int × Nat=>s.1<=max a.length b.length+1/\(0<=s.2.1/\s.2.1<=1)/\s.2.2.1.length=s.1/\qY a b 0=s.2.2.1++qY (a.drop s.1) (b.drop s.1) s.2.1/\(s.1=max a.length b.length+1->s.2.1=0)) (λ(k,c,out,v1)=>[(0,L a),(1,L b),(5,.sl nx v1 1 0 out.length),(6,I c),(7,I k)])
  (λ(k,c,out,v1)=>[.cells v1 3 (out.flatMap Enc.enc)]) (λs=>max a.length b.length+1-s.1) (0,0,[],v1) [] DZ DZ DZ ?_)
 rintro⟨k,c,out,v1⟩ ⟨hk,hc,hol,ho,hend⟩;simp only at hk hc hol ho hend ⊢
 by_cases hlive:k<a.length\/k<b.length\/0<c
 ·have hkl:k<max a.length b.length+1:=by
   rcases Bi k (max a.length b.length+1) with h | h
   ·exact h
   ·have:=hend DY;omega
  -- the sum at this place
  have hx:0<=a.getD k 0/\a.getD k 0<65536:=by
   rw[Aa];cases h:a[k]? with
   | none=>simp
   | some x=>exact ha x (Ab h)
  have hy:0<=b.getD k 0/\b.getD k 0<65536:=by
   rw[Aa];cases h:b[k]? with
   | none=>simp
   | some x=>exact hb x (Ab h)
  generalize hxx:a.getD k 0=x at hx;generalize hyy:b.getD k 0=y at hy;have hnext:∀s,s=c+x+y->qY a b 0=(out++[s % 65536])++qY (a.drop (k+1)) (b.drop (k+1)) (s / 65536)/\(k+1=max a.length b.length+1->s / 65536=0):=by
   rintro s rfl;have hne:a.drop k≠[]\/b.drop k≠[]\/0<c:=by
    rcases hlive with h | h | h
    ·left;intro e;have:=List.drop_eq_nil_iff.1 e;omega
    ·right;left;intro e;have:=List.drop_eq_nil_iff.1 e;omega
    ·exact .inr (.inr h)
   have hsum:(a.drop k).headD 0+(b.drop k).headD 0+c=c+x+y:=by rw[Zas,Zas,hxx,hyy];omega
   have h0:k+1=max a.length b.length+1->c+x+y=c:=by
    intro q;have e1:x=0:=by rw[<-hxx,Aa,Ak DY];rfl
    have e2:y=0:=by rw[<-hyy,Aa,Ak DY];rfl
    omega
   refine⟨?_,λq=>by have:=h0 q;omega⟩;rcases ZqC (a.drop k) (b.drop k) c hne with e | ⟨e1,e2,e3⟩
   ·rw[ho,e,hsum];simp[List.tail_drop]
   ·have hx0:x=0:=by rw[<-hxx,<-Zas,e1];rfl
    have hy0:y=0:=by rw[<-hyy,<-Zas,e2];rfl
    have d1:a.drop (k+1)=[]:=by rw[<-List.drop_drop,e1];rfl
    have d2:b.drop (k+1)=[]:=by rw[<-List.drop_drop,e2];rfl
    have z1:(c+x+y) % 65536=c:=DY
    have z2:(c+x+y) / 65536=0:=DY
    rw[ho,e3,d1,d2,z1,z2];simp[qY]
  have fin:∀s:Int,s=c+x+y->s.tmod 65536=s % 65536/\IntKind.i64.wrap (s.tdiv 65536)=s / 65536:=by
   intro s hs;refine⟨Bj DY,?_⟩;rw[Cj DY,wr _ DY DY]
  obtain⟨f1,f2⟩:=fin _ rfl;obtain⟨g1,g2⟩:=hnext _ rfl;have wa:IntKind.i64.wrap (c+x)=c+x:=wr _ DY DY;have wb:IntKind.i64.wrap (c+x+y)=c+x+y:=wr _ DY DY
  by_cases h1:k<a.length
  ·obtain⟨x',tl,a1,a2,a3,e0⟩:=zF rfl a k h1;obtain rfl:x'=x:=by rw[<-hxx,Aa,a1];rfl
   repeat apply za
   refine ze [(4,12),(10,18)] (zo h1 zH) ?_;refine zm DZ ?_;refine zh (za (zj ?_))
   repeat apply za
   refine zb ?_;refine zm (by simp[h1]) ?_;refine ze [] (zD e0 h1 wa) ?_
   by_cases h2:k<b.length
   ·obtain⟨y',tl2,b1,b2,b3,e2⟩:=zF rfl b k h2;obtain rfl:y'=y:=by rw[<-hyy,Aa,b1];rfl
    repeat apply za
    refine zb ?_;refine zm (by simp[h2]) ?_;refine ze [] (zD e2 h2 wb) ?_;refine za (ze [] f1 ?_);refine⟨by omega,?_⟩;refine ze [] f2 ?_;refine zb ?_;exact zq (k+1,(c+x'+y') / 65536,out++[(c+x'+y') % 65536],v1+1) [] ⟨by omega,by dsimp only;omega,by simp[hol],g1,g2⟩ D2 (by simp[zu k (by omega)]) rfl DZ
   ·obtain rfl:y=0:=by rw[<-hyy,Aa,Ak DY];rfl
    rw[CZ]at f1 f2 g1 g2
    repeat apply za
    refine zb ?_;refine zk D2 ?_;refine zh (za (ze [] f1 ?_));refine⟨by omega,?_⟩;refine ze [] f2 ?_;refine zb ?_;exact zq (k+1,(c+x') / 65536,out++[(c+x') % 65536],v1+1) [] ⟨by omega,by dsimp only;omega,by simp[hol],g1,g2⟩ D2 (by simp[zu k (by omega)]) rfl DZ
  ·obtain rfl:x=0:=by rw[<-hxx,Aa,Ak DY];rfl
   by_cases h2:k<b.length
   ·obtain⟨y',tl2,b1,b2,b3,e2⟩:=zF rfl b k h2;obtain rfl:y'=y:=by rw[<-hyy,Aa,b1];rfl
    have f1':(c+y').tmod 65536=(c+y') % 65536:=by rw[show c+y'=c+0+y' by omega];exact f1
    have f2':IntKind.i64.wrap ((c+y').tdiv 65536)=(c+y') / 65536:=by rw[show c+y'=c+0+y' by omega];exact f2
    have wb':IntKind.i64.wrap (c+y')=c+y':=wr _ DY DY;rw[show c+0+y'=c+y' by omega]at g1 g2
    repeat apply za
    refine ze [(4,12),(10,18)] (zD h1 h2 zH) ?_;refine zm DZ ?_;refine zh (za (zj ?_))
    repeat apply za
    refine zb ?_;refine zk D2 ?_;refine zh ?_
    repeat apply za
    refine zb ?_;refine zm (by simp[h2]) ?_;refine ze [] (zD e2 h2 wb') ?_;refine za (ze [] f1' ?_);refine⟨by omega,?_⟩;refine ze [] f2' ?_;refine zb ?_;exact zq (k+1,(c+y') / 65536,out++[(c+y') % 65536],v1+1) [] ⟨by omega,by dsimp only;omega,by simp[hol],g1,g2⟩ D2 (by simp[zu k (by omega)]) rfl DZ
   ·obtain rfl:y=0:=by rw[<-hyy,Aa,Ak DY];rfl
    have h3:0<c:=DY
    obtain rfl:c=1:=DY
    rw[show (1:Int)+0+0=1 by rfl]at f1 f2 g1 g2
    repeat apply za
    refine ze [(4,12),(10,18)] (zo h1 h2) ?_;refine zm DZ ?_;refine zh (za (zj ?_))
    repeat apply za
    refine zb ?_;refine zk D2 ?_;refine zh ?_
    repeat apply za
    refine zb ?_;refine zk D2 ?_;refine zh (za (ze [] f1 ?_));refine⟨by omega,?_⟩;refine ze [] f2 ?_;refine zb ?_;exact zq (k+1,(1:Int) / 65536,out++[(1:Int) % 65536],v1+1) [] ⟨by omega,by dsimp only;omega,by simp[hol],g1,g2⟩ D2 (by simp[zu k (by omega)]) rfl DZ
 ·have h1:¬k<a.length:=DY
  have h2:¬k<b.length:=DY
  have h3:¬0<c:=DY
  rw[AZ DY,AZ DY]at ho;simp only[qY,h3,if_false,AC]at ho
  repeat apply za
  refine ze [(4,12),(10,18)] (zD h1 h2 h3) ?_;refine zk DZ ?_;refine zx (D7 ?_);refine zX 0 rfl ?_;exact zg (zi hd D0 (by rw[ho];simp[zp]))
open Go
theorem ZqE{l:List Int}(h:l=[]\/∃m x,l=m++[x]/\x≠0):Jq l:=by
 rcases h with rfl | ⟨m,x,rfl,hx⟩
 ·trivial
 ·induction m with
  | nil=>exact hx
  | cons a m ih =>
   cases m with
   | nil=>exact hx
   | cons b m=>exact ih
theorem ZqF(l:List Int)(k:Nat)(h:∀d∈l.drop k,d=0):yp l=yp (l.take k):=by
 have hz:∀m:List Int,(∀d∈m,d=0)->yp m=0:=by
  intro m;induction m with
  | nil=>intro _;rfl
  | cons a m ih=>intro h;simp only[yp];rw[ih λd hd=>h d (by simp[hd]),h a DZ];rfl
 conv=>lhs;rw[<-List.take_append_drop k l]
 rw[Zaq,hz _ h];simp
theorem ZqG(l:List Int)(neg:Bool)(hl:wQ l)(hn:l.length<=1000):Pure prog 218 [.agg [L l,B neg]] (.agg [L (yH (yp l).toNat),B (if yH (yp l).toNat=[] then false else neg)]):=by
 refine zr func218 ntmps218 results218 λS nx hd=>?_
 refine D7 ?_;intro v0 v1;have fl:∀k,k<=l.length->((l.flatMap Enc.enc).take k)=((l.take k).flatMap Enc.enc):=λk _=>by
  have:=Qf (α:=Int) Enc.enc 1 (λ_=>rfl) l k;rw[B7]at this;exact this
 refine za (qz (nx:=nx) (σ:=Unit) (λ_=>True) (λ_=>[(1,.ptr nx v0 0),(2,.ptr (nx+1) v1 0)]) (λ_=>S) (λ_=>[.cells v0 249 [L (yH (yp l).toNat),B neg],.cells v1 249 [.sc (.slice none 0 0),B false]]) ?_ ?_)
 ·refine zj (zC (λs:Nat=>s<=l.length/\(∀d∈l.drop s,d=0)) (λk=>[(1,.ptr nx v0 0),(2,.ptr (nx+1) v1 0)]) (λk=>[.cells v0 249 [L (l.take k),B neg],.cells v1 249 [.sc (.slice none 0 0),B false]]) (λs=>s) l.length [] DZ DZ DZ ?_);rintro k ⟨hk,ho⟩;have htk:(l.take k).length=k:=D2
  have stop:Jq (l.take k)->L (l.take k)=L (yH (yp l).toNat):=by
   intro h;rw[ZqF l k ho,<-ZqA (λd hd=>hl d (Bq hd)) h]
  match k,hk with
  | 0,_ =>
   repeat apply za
   refine ze [(4,7)] zH ?_;refine zk rfl (zx (zT () [] trivial DZ rfl ?_));have:=stop trivial;simp only[CV]at this;simp[this]
  | j+1,hk =>
   obtain⟨d,tl,a1,a2,a3,e0⟩:=zF rfl l j DY;have hw:IntKind.i64.wrap ((j:Int)+1-1)=(j:Int):=by rw[wr _ DY DY];omega
   have hw':IntKind.i64.wrap (j:Int)=(j:Int):=wr _ DY DY;have hlast:((l.take (j+1)).flatMap Enc.enc).drop j=[I d]:=by
    rw[a3,Ap,B8 (by rw[jf];simp;omega),AZ (by rw[jf];simp;omega)];rfl
   have hjj:(j:Int)<(j:Int)+1:=DY
   by_cases h0:d=0
   ·repeat apply za
    refine ze [(4,7)] (yd htk hw hw' hlast hjj h0) ?_;refine zm DZ ?_;refine zh (zj ?_);have hft:((l.take (j+1)).flatMap Enc.enc).take j=(l.take j).flatMap Enc.enc:=by rw[<-fl (j+1) hk,Dl,fl _ DY];congr 2;omega
    have hjl:(l.take j).length=j:=D2
    refine ze [] (zN htk hw hw' hft) ?_;exact zq j [] ⟨by omega,λe he=>by rw[a2]at he;rcases As.1 he with q | q;exact q.trans h0;exact ho e q⟩ DY DZ rfl (by simp[hjl,hft])
   ·repeat apply za
    refine ze [(4,7)] (yd htk hw hw' hlast hjj h0) ?_;refine zk DZ ?_;have:=stop (ZqE (.inr ⟨l.take j,d,a3,h0⟩));refine zx (zT () [] trivial DZ rfl (by rw[this];rfl))
 ·intro _ _;have hdl:=QD (yp l).toNat;generalize yH (yp l).toNat=m at hdl ⊢;cases m with
  | nil =>
   repeat apply za
   refine zb ?_;refine zm DZ ?_;refine zb ?_;refine D7 ?_;exact D8 hd
  | cons a m =>
   have h1:¬((m.length:Int)+1=0):=DY
   repeat apply za
   refine ze [] h1 ?_;refine zk DZ ?_;refine zh (D7 ?_);exact D8 hd
def Yc:List Int->List Int->Int
 | x :: a,y :: b=>if x<y then -1 else if y<x then 1 else Yc a b
 | _,_=>0
def QE(a b:List Int):Int:=if a.length<b.length then -1 else if b.length<a.length then 1 else Yc a.reverse b.reverse
theorem ZqH(a b:List Int)(ha:a.length<=1000)(hb:b.length<=1000):Pure prog 217 [L a,L b] (I (QE a b)):=by
 refine zr func217 ntmps217 results217 λS nx hd=>?_
 refine D7 ?_
 by_cases h1:a.length=b.length
 case neg =>
  have h1':¬((a.length:Int)=b.length):=DY
  repeat apply za
  refine ze [] h1' ?_;refine zm (by simp[h1']) ?_
  by_cases h2:a.length<b.length
  ·repeat apply za
   refine zb ?_;refine zm (by simp[h2]) ?_;refine D7 ?_;exact zg (zi hd D0 (by simp[QE,h2,zp]))
  ·repeat apply za
   refine zb ?_;refine zk D2 ?_;refine zh (D7 ?_);exact zg (zi hd D0 (by simp[QE,h2,show b.length<a.length by omega,zp]))
 have hres:QE a b=Yc a.reverse b.reverse:=by simp[QE,h1]
 rw[hres];have h1':((a.length:Int)=b.length):=DY
 repeat apply za
 refine ze [] h1' ?_;refine zk (by simp[h1']) ?_;refine zh ?_
 repeat apply za
 refine zb ?_;have w0:IntKind.i64.wrap ((a.length:Int)-1)=(a.length:Int)-1:=wr _ DY DY;refine zj (zC (λm:Nat=>m<=a.length/\Yc a.reverse b.reverse=Yc (a.take m).reverse (b.take m).reverse) (λm=>[(0,L a),(1,L b),(5,I ((m:Int)-1))]) (λ_=>[]) (λm=>m) a.length [] ⟨Ag _,by rw[Ai,Af DY]⟩ (by simp[w0]) DZ ?_);rintro m ⟨hm,ho⟩
 match m,hm with
 | 0,_ =>
  repeat apply za
  refine zb ?_;refine zk DZ ?_;refine zx (D7 ?_);exact zg (zi hd D0 (by rw[ho];simp[Yc,zp]))
 | j+1,hm =>
  have s1:((j+1:Nat):Int)-1=(j:Int):=DY
  obtain⟨x,tl,a1,a2,a3,e0⟩:=zF rfl a j DY;obtain⟨y,tl2,b1,b2,b3,e2⟩:=zF rfl b j DY;rw[a3,b3]at ho;simp only[Dd,Cz,DA,AK,List.cons_append,Yc]at ho;have g1:j<a.length:=DY
  have g2:j<b.length:=DY
  have s2:(j:Int)+1-1=(j:Int):=DY
  repeat apply za
  refine ze [] (zo s1 s2) ?_;refine zm DZ ?_;refine zh (za (zj ?_))
  repeat apply za
  refine zz none (Row.pures [0,1,2,3,4,5,6,7,8] .done) mixed (yd s1 s2 g1 g2 e0 e2) ?_
  by_cases h3:x<y
  ·repeat apply za
   refine zm (by simp[h3]) ?_;refine D7 ?_;exact zg (zi hd D0 (by rw[ho,if_pos h3];rfl))
  ·repeat apply za
   refine zk D2 ?_;refine zh (za (zz none (Row.pures [0,1,2,3,4,5,6,7,8] .done) mixed (yd s1 s2 g1 g2 e0 e2) ?_))
   by_cases h4:y<x
   ·repeat apply za
    refine zm (by simp[h4]) ?_;refine D7 ?_;exact zg (zi hd D0 (by rw[ho,if_neg h3,if_pos h4];rfl))
   ·repeat apply za
    refine zk D2 ?_;refine zh ?_;have w1:IntKind.i64.wrap ((j:Int)-1)=(j:Int)-1:=wr _ DY DY;refine ze [] (zD s1 s2 w1) ?_;exact zq j [] ⟨by omega,by rw[ho,if_neg h3,if_neg h4]⟩ DY DZ rfl DZ
theorem ZcW(l:List Int)(h:wQ l)(k:Nat):0<=yp (l.take k)/\yp (l.take k)<65536 ^ k:=by
 have hd:wQ (l.take k):=λd hd=>h d (Bq hd)
 refine⟨ZcV hd,?_⟩;have main:∀(k:Nat) (m:List Int),wQ m->m.length<=k->yp m<65536 ^ k:=by
  intro k
  induction k with
  | zero=>intro m _ hm;simp at hm;subst hm;simp[yp]
  | succ k ih =>
   intro m hm hl;cases m with
   | nil=>simp only[yp];exact Int.pow_pos D4
   | cons d m =>
    have h1:=hm d DZ;have h2:=ih m (λx hx=>hm x (by simp[hx])) (by simpa using hl);simp only[yp,DW];omega
 exact main k _ hd D2
theorem ZqI:∀(m:Nat) (a b:List Int),wQ a->wQ b->a.length=m->b.length=m->yp a<=yp b->Yc a.reverse b.reverse<=0:=by
 intro m
 induction m with
 | zero=>intro a b _ _ ha hb _;rw[Av ha];simp[Yc]
 | succ m ih =>
  intro a b ha hb hal hbl hv;have hane:a≠[]:=by intro e;subst e;cases hal
  have hbne:b≠[]:=by intro e;subst e;cases hbl
  obtain⟨a',x,rfl⟩:∃a' x,a=a'++[x]:=⟨a.dropLast,a.getLast hane,(C9 hane).symm⟩;obtain⟨b',y,rfl⟩:∃b' y,b=b'++[y]:=⟨b.dropLast,b.getLast hbne,(C9 hbne).symm⟩;have hal':a'.length=m:=by simpa using hal
  have hbl':b'.length=m:=by simpa using hbl
  have ha':wQ a':=λd hd=>ha d (by simp[hd])
  have hb':wQ b':=λd hd=>hb d (by simp[hd])
  have p1:=ZcW (b'++[y]) hb m;have p2:=ZcW (a'++[x]) ha m;rw[Bz DY,Af DY]at p1 p2;rw[Zaq,Zaq,hal',hbl']at hv;simp only[yp,Int.mul_zero,CZ]at hv;simp only[Dd,Cz,DA,AK,List.cons_append,Yc]
  by_cases h1:x<y
  ·rw[if_pos h1];omega
  ·rw[if_neg h1]
   by_cases h2:y<x
   ·exfalso;have:(65536:Int) ^ m*x>=65536 ^ m*(y+1):=Int.mul_le_mul_of_nonneg_left DY DY;rw[Df]at this;omega
   ·rw[if_neg h2];have hxy:x=y:=DY
    subst hxy;exact ih a' b' ha' hb' hal' hbl' DY
theorem ZqJ{a b:Nat}(h:a<=b):(yH a).length<=(yH b).length:=by
 induction b using Nat.strongRecOn generalizing a with
 | _ b ih =>
  by_cases h0:a=0
  ·subst h0;rw[QB];simp
  ·rw[QC h0,QC (show b≠0 by omega)];have:=ih (b / 65536) DY (a:=a / 65536) (Nat.div_le_div_right h);simpa using this
theorem ZqK{a b:Nat}(h:a<=b):QE (yH a) (yH b)<=0:=by
 have hl:=ZqJ h;unfold QE;split
 ·omega
 ·rw[if_neg DY];have h1:=QD a;have h2:=QD b;exact ZqI _ _ _ h1.1 h2.1 rfl DY (by rw[h1.2.1,h2.2.1];omega)
theorem Zat{n:Nat}(h:n<=18446744073709551615):(yH n).length<=4:=(QD n).2.2.2 (by rw[show (65536:Nat) ^ 4=18446744073709551616 from by decide];omega)
theorem ZqL(a b:Nat)(ha:a<=9223372036854775807)(hb:b<=9223372036854775807):Pure prog 185 [.agg [L (yH a),B false],.agg [L (yH b),B false]] (.agg [L (yH (a+b)),B false]):=by
 have h1:=QD a;have h2:=QD b;have l1:=Zat (n:=a) DY;have l2:=Zat (n:=b) DY;obtain⟨p1,p2,p3⟩:=ZqB (yH a) (yH b) 0 h1.1 h2.1 DY DY;have hv:(yp (qY (yH a) (yH b) 0)).toNat=a+b:=by rw[p2,h1.2.1,h2.2.1];omega
 have hpl:=ZqD (yH a) (yH b) h1.1 h2.1 DY DY;have htr:=ZqG (qY (yH a) (yH b) 0) false p1 DY;rw[hv,ite_self]at htr;generalize yH a=x at *;generalize yH b=y at *;generalize qY x y 0=z at *;refine zr func185 ntmps185 results185 λS nx hd=>?_
 refine D7 ?_;intro v0 v1 v2
 repeat apply za
 refine zb ?_;refine zm DZ ?_;refine za (zz (some [nx,nx+1]) (Row.pures [0,1,2,3,4,5,6,7,8] (.alt 9 (.done) .stop)) mixed trivial ?_);refine zG (hpl) trivial ?_;refine zG (htr) trivial ?_;exact D8 hd
theorem ZqM(n:Nat)(hn:n<=9223372036854775807):Pure prog 184 [.agg [L (yH n),B false]] (.tup [I n,B true]):=by
 have h1:=QD n;have l1:=Zat (n:=n) DY;have hsz:=ZqK (a:=n) (b:=9223372036854775807) hn;have hs:=ZqH (yH n) (yH 9223372036854775807) DY (by have:=Zat (n:=9223372036854775807) (by omega);omega);have o1:=Zar 9223372036854775807 (by unfold zM;omega);have o2:=Zar (-9223372036854775808) (by unfold zM;omega);rw[show ((9223372036854775807:Int)).natAbs=9223372036854775807 from rfl,show decide ((9223372036854775807:Int)<0)=false from rfl]at o1;rw[show decide ((-9223372036854775808:Int)<0)=true from rfl]at o2;generalize yH (-9223372036854775808:Int).natAbs=lo at *;generalize yH 9223372036854775807=hi at *;generalize hdn:yH n=l at *;have hg:¬0<QE l hi:=DY
 refine zr func184 ntmps184 results184 λS nx hd=>?_
 refine D7 ?_;intro v0;refine D7 ?_;refine zt o1 ?_;intro v1;refine D7 ?_;refine zt o2 ?_;intro v2
 repeat apply za
 refine ze [(3,13)] trivial ?_;refine qt [(3,13)] hs hg ?_;refine zk DZ ?_;refine zh ?_
 repeat apply za
 refine ze [(2,23)] zH ?_;refine zk DZ ?_;refine zh (D7 ?_);have w0:IntKind.i64.wrap ((l.length:Int)-1)=(l.length:Int)-1:=wr _ DY DY
 repeat apply za
 refine ze [] w0 ?_;refine zj (zC (λm:Nat=>m<=l.length) (λm=>[(1,.ptr nx v0 0),(6,I (yp (l.drop m))),(7,I ((m:Int)-1))]) (λ_=>[.cells v0 249 [L l,B false]]) (λm=>m) l.length [_,_] (Ag _) (by simp[yp]) rfl ?_);rintro m hm
 match m,hm with
 | 0,_ =>
  repeat apply za
  refine zb ?_;refine zk DZ ?_;refine zx (D7 ?_);exact zg (zi hd D0 (by simp[h1.2.1,zp]))
 | j+1,hm =>
  have s1:((j+1:Nat):Int)-1=(j:Int):=DY
  have s2:(j:Int)+1-1=(j:Int):=DY
  obtain⟨x,tl,a1,a2,a3,e0⟩:=zF rfl l j DY;have g1:j<l.length:=DY
  have hx:=h1.1 x (Ab a1);have hv0:0<=yp (l.drop (j+1)):=ZcV λd hd=>h1.1 d (Ca hd)
  have hvj:yp (l.drop j)=x+65536*yp (l.drop (j+1)):=by rw[a2];rfl
  have hvle:yp (l.drop j)<=n:=by
   have e:=Zaq (l.take j) (l.drop j);rw[List.take_append_drop,h1.2.1]at e;have t0:=(ZcW l h1.1 j).1;have hp:(1:Int)<=65536 ^ (l.take j).length:=by have:=Int.pow_pos (n:=65536) (m:=(l.take j).length) D4;omega
   have hd0:0<=yp (l.drop j):=DY
   have:=Int.mul_le_mul_of_nonneg_right hp hd0;rw[Int.one_mul]at this;omega
  have w1:IntKind.i64.wrap (yp (l.drop (j+1))*65536)=yp (l.drop (j+1))*65536:=wr _ DY DY;have w2:IntKind.i64.wrap (yp (l.drop (j+1))*65536+x)=yp (l.drop j):=by rw[wr _ DY DY];omega
  have w3:IntKind.i64.wrap ((j:Int)-1)=(j:Int)-1:=wr _ DY DY
  repeat apply za
  refine ze [] (zo s1 s2) ?_;refine zm DZ ?_;refine zh (za (zj (za (ze [] w1 ?_))));refine D7 ?_;refine zk DZ ?_;refine ze [] (yF s1 s2 g1 e0 w2) ?_;refine ze [] (zD s1 s2 w3) ?_;exact zq j [] DY DY DZ rfl DZ
theorem ZqN(a b:Int)(ha:0<=a)(hb:0<=b)(hab:a+b<=9223372036854775807):Pure prog 130 [I a,I b] (I (a+b)):=by
 obtain⟨x,rfl⟩:=Au ha;obtain⟨y,rfl⟩:=Au hb;have o1:=Zar (x:Int) (by unfold zM;omega);have o2:=Zar (y:Int) (by unfold zM;omega);rw[Int.natAbs_natCast,decide_eq_false DY]at o1 o2;have h3:=ZqL x y DY DY;have h4:=ZqM (x+y) DY;rw[show ((x+y:Nat):Int)=(x:Int)+(y:Int) by omega]at h4;refine zr func130 ntmps130 results130 λS nx hd=>?_
 refine D7 ?_;refine D7 ?_;refine zt o1 ?_;refine zt o2 ?_;refine zt h3 ?_;refine zt h4 ?_
 repeat apply za
 refine zb ?_;refine zm DZ ?_;refine D7 ?_;exact D8 hd
open Go
theorem ZqO(c:Cust)(ns:List Int)(hn:ns.length<=1048576):Pure prog 88 [.agg (yb c),L ns] (I (Yb c ns)):=by
 refine zr func88 ntmps88 results88 λS nx hd=>?_
 refine D7 ?_;intro v0;refine D7 ?_
 repeat apply za
 refine zb ?_;refine zj (zC (λs:Nat=>s<=ns.length) (λk=>[(1,L ns),(2,.ptr nx v0 0),(5,I (W (ns.take k).sum)),(6,I k)]) (λ_=>[.cells v0 87 (yb c)]) (λs=>ns.length-s) 0 [] DZ DZ DZ ?_);rintro k hk
 repeat apply za
 refine zb ?_;refine zv rfl (λhc=>?_) (λhc=>?_)
 ·simp at hc;obtain⟨z,tl,a1,a2,a3,e0⟩:=zF rfl ns k hc;refine zh (za (zj ?_));have hw:W (W (ns.take k).sum+z)=W (ns.take (k+1)).sum:=by rw[a3,Xq,vK]
  refine ze [] (zo e0 hc) ?_;refine zb ?_;exact zq (k+1) [] hc DY (by simp[zu k (by omega)];exact hw) rfl DZ
 ·simp at hc;obtain rfl:k=ns.length:=DY
  rw[Ai];refine zx (D7 ?_);exact D8 hd
theorem ZcX{q:List Int}(h:∀z∈q,0<=z/\z<=2147483648):∀k:Nat,k<=q.length->0<=(q.take k).sum/\(q.take k).sum<=2147483648*k:=by
 intro k
 induction k with
 | zero=>intro _;simp
 | succ k ih =>
  intro hk;have:=ih DY;have hz:=h q[k] (A6 DY);rw[AP DY,Xq];omega
theorem ZqP(c:Cust)(q:List Int)(hc:CustFits c)(hq:q.length<=1048576):Pure prog 86 [.agg (yb c),L q] (.tup [L (yZ c q).1,I (yZ c q).2]):=by
 obtain⟨hr,hsz,hst⟩:=hc;refine zr func86 ntmps86 results86 λS nx hd=>?_
 refine D7 ?_;intro v0
 repeat apply za
 refine zb ?_;refine qz (nx:=nx) (σ:=Nat) (λv0=>q.any xF=false) (λv0=>[(1,L q),(2,.ptr nx v0 0)]) (λ_=>S) (λv0=>[.cells v0 87 (yb c)]) ?_ ?_
 ·refine zj (zC (λs:Nat=>s<=q.length/\(q.take s).any xF=false) (λk=>[(1,L q),(2,.ptr nx v0 0),(6,I k)]) (λ_=>[.cells v0 87 (yb c)]) (λs=>q.length-s) 0 [] DZ DZ DZ ?_);rintro k ⟨hk,ho⟩
  repeat apply za
  refine zb ?_;refine zv rfl (λhc=>?_) (λhc=>?_)
  ·simp at hc;obtain⟨z,tl,a1,a2,a3,e0⟩:=zF rfl q k hc;have bad:xF z=true->yZ c q=([],1):=λh=>by
    have:q.any xF=true:=by rw[BT];exact⟨z,Ab a1,h⟩
    simp[yZ,this]
   refine zh (za (zj ?_))
   by_cases h1:z<0
   ·refine za (ze [(5,23)] (zN e0 hc h1 zH) ?_);refine zm rfl (D7 ?_);refine ue 4 rfl ?_;exact zg (zi hd D0 (by rw[bad (by simp[xF,h1])];rfl))
   by_cases h2:(2147483648:Int)<z
   ·refine za (ze [(5,23)] (zN e0 hc h1 h2) ?_);refine zm rfl (D7 ?_);refine ue 4 rfl ?_;exact zg (zi hd D0 (by rw[bad (by simp[xF,h2])];rfl))
   refine za (ze [(5,23)] (zN e0 hc h1 h2) ?_);refine zk rfl (zh (zb ?_));exact zq (k+1) [] ⟨hc,by rw[a3,DJ,ho];simp[xF];omega⟩ DY (by simp[zu k (by omega)]) rfl DZ
  ·simp at hc;obtain rfl:k=q.length:=DY
   rw[Ai]at ho;exact zx (zT v0 [] ho DZ rfl DZ)
 ·intro v0 hb;have hq0:∀z∈q,0<=z/\z<=2147483648:=by
   intro z hz;rw[Cf]at hb;have:=hb z hz;simp[xF]at this;omega
  have hres:yZ c q=match yN c.size c.rate c.start q with | none=>([],8) | some l=>(l,0):=by unfold yZ;rw[hb];rfl
  refine D7 ?_;refine qx 7 3 1 rfl λv1=>?_
  repeat apply za
  refine zb ?_;refine zj (zC (λs:Nat × List Int × Nat=>s.1<=q.length/\s.2.1.length=s.1/\(0<=c.start+(q.take s.1).sum-c.rate*s.1/\c.start+(q.take s.1).sum-c.rate*s.1<=2147483648)/\yN c.size c.rate c.start q=(yN c.size c.rate (c.start+(q.take s.1).sum-c.rate*s.1) (q.drop s.1)).map (s.2.1++·))
   (λ(k,out,v1)=>[(1,L q),(2,.ptr nx v0 0),(7,.sl (nx+1) v1 1 0 out.length),(8,I k)])
   (λ(k,out,v1)=>[.cells v0 87 (yb c),.cells v1 3 (out.flatMap Enc.enc)]) (λs=>q.length-s.1) (0,[],v1) [] ?_ DZ DZ ?_)
  ·refine⟨by simp,by simp,by simpa using hst,?_⟩;simp
  rintro⟨k,out,v1⟩ ⟨hk,hol,hth,ho⟩;simp only at hk hol hth ho ⊢
  repeat apply za
  refine zb ?_;refine zv rfl (λhc=>?_) (λhc=>?_)
  ·simp at hc;obtain⟨z,tl,a1,a2,a3,e0⟩:=zF rfl q k hc;have hz:=hq0 z (Ab a1);have hst1:=ZcX hq0 k hk;have hst2:=ZcX hq0 (k+1) hc;have hsum:(q.take (k+1)).sum=(q.take k).sum+z:=by rw[a3,Xq]
   have hrk:0<=c.rate*k/\c.rate*k<=2147483648*1048576:=⟨CW hr.1 DY,DM hr.2 DY DY DY⟩;rw[a2]at ho;refine zh (za (zj (D7 ?_)))
   repeat apply za
   refine zb ?_;refine qz (nx:=nx) (σ:=Nat) (λ_=>True) (λv1=>[(1,L q),(2,.ptr nx v0 0),(7,.sl (nx+1) v1 1 0 out.length),(8,I k),(9,I (c.start+(q.take (k+1)).sum))]) (λ_=>S) (λv1=>[.cells v0 87 (yb c),.cells v1 3 (out.flatMap Enc.enc)]) ?_ ?_
   ·refine zj (zC (λs:Nat=>s<=k+1) (λj=>[(1,L q),(2,.ptr nx v0 0),(7,.sl (nx+1) v1 1 0 out.length),(8,I k),(9,I (c.start+(q.take j).sum)),(10,I j)]) (λ_=>[.cells v0 87 (yb c),.cells v1 3 (out.flatMap Enc.enc)]) (λs=>k+1-s) 0 [] DZ DZ DZ ?_);rintro j hj
    repeat apply za
    refine zb ?_;refine zv rfl (λhc2=>?_) (λhc2=>?_)
    ·simp at hc2;obtain⟨y,tl2,b1,b2,b3,e2⟩:=zF rfl q j DY;have hsj:=ZcX hq0 (j+1) DY;have hjq:j<q.length:=DY
     have hsum2:c.start+(q.take j).sum+y=c.start+(q.take (j+1)).sum:=by rw[b3,Xq];omega
     have w1:IntKind.i64.wrap (c.start+(q.take (j+1)).sum)=c.start+(q.take (j+1)).sum:=wr _ DY DY;refine zh (za (zj (ze [] (zN e2 hjq hsum2 w1) ?_)));refine zb ?_;exact zq (j+1) [] DY DY (by simp[zu j (by omega)]) rfl DZ
    ·simp at hc2;obtain rfl:j=k+1:=DY
     exact zx (zT v1 [] trivial DZ rfl DZ)
   ·intro v1 _;have w1:IntKind.i64.wrap (c.rate*(k:Int))=c.rate*(k:Int):=wr _ DY DY;have hbe:c.start+(q.take (k+1)).sum-c.rate*(k:Int)=(c.start+(q.take k).sum-c.rate*(k:Int))+z:=DY
    generalize hth':c.start+(q.take k).sum-c.rate*(k:Int)=there at hth ho hbe;have w2:IntKind.i64.wrap (there+z)=there+z:=wr _ DY DY;have w3:IntKind.i64.wrap (there+z-c.rate)=there+z-c.rate:=wr _ DY DY;have bad:(c.size<there+z\/there+z<c.rate)->yZ c q=([],8):=λh=>by
     rw[hres,ho];simp only[yN,if_pos h,Option.map_none]
    refine za (ze [] (zD w1 hbe w2) ?_)
    by_cases h1:c.size<there+z
    ·repeat apply za
     refine ze [(4,59)] (zo h1 zH) ?_;refine zm rfl (D7 ?_);refine ue 4 rfl ?_;exact zg (zi hd D0 (by rw[bad (.inl h1)];rfl))
    by_cases h2:there+z-c.rate<0
    ·repeat apply za
     refine ze [(4,59)] (zD h1 h2 w3) ?_;refine zm rfl (D7 ?_);refine ue 4 rfl ?_;exact zg (zi hd D0 (by rw[bad (.inr DY)];rfl))
    repeat apply za
    refine ze [(4,59)] (zD h1 h2 w3) ?_;refine zk rfl (zh (ze [] w3 ?_));refine⟨by omega,?_⟩;refine zb ?_;have hnext:c.start+(q.take (k+1)).sum-c.rate*((k+1:Nat):Int)=there+z-c.rate:=by
     have:c.rate*((k+1:Nat):Int)=c.rate*(k:Int)+c.rate:=by rw[show ((k+1:Nat):Int)=(k:Int)+1 by omega,Df,Int.mul_one]
     omega
    exact zq (k+1,out++[there+z-c.rate],v1+1) [] ⟨hc,by simp[hol],by dsimp only;rw[hnext];omega,by dsimp only;rw[hnext];exact Zhk ho h1 DY⟩ D2 (by simp[zu k (by omega)]) rfl DZ
  ·simp at hc;obtain rfl:k=q.length:=DY
   rw[BA]at ho;simp only[yN,A3,AC]at ho;refine zx (D7 ?_);refine zX 1 rfl ?_;exact zg (zi hd D0 (by rw[hres,ho];simp[zp]))
theorem ZqQ{size rate:Int}:∀{q:List Int} {there:Int} {l:List Int},yN size rate there q=some l->l.length=q.length:=by
 intro q
 induction q with
 | nil=>intro there l h;simp only[yN,Option.some.injEq]at h;subst h;rfl
 | cons z q ih =>
  intro there l h;simp only[yN]at h;split at h
  ·cases h
  ·obtain⟨l2,h2,rfl⟩:=Ao.1 h;simp[ih h2]
end Go.Proofs.YtcocagkbfpgmiaaGreatDoor.Pv
