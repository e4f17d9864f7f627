/- Part of a proof, packed. -/
import Derived.Test.YtcocagkbfpgmiaaGreatDoorD5
open Go.Proofs.Tryz
set_option maxRecDepth 100000
set_option maxHeartbeats 3200000
namespace Go.Proofs.YtcocagkbfpgmiaaGreatDoor.Pv
open Go Go.Proofs Hp
section
variable {P:Program} {r:Rd} {n N:Nat} {Q:Exit->(Nat->PV)->Store->Prop} {F:Nat->PV} {c:Code}
theorem Zr3{S:Store}{nx:Nat}{obs:List Ob}(j:Nat){ver e:Nat}{cs:List PV}(hj:obs[j]?=some (.cells ver e cs)){id v e2:Nat}{ds:List PV}(hlt:id<nx)(hs:S id=.cells v e2 ds)
  (h:PW P r n N c Q F (ext (S.set id (.cells v e2 (ds.map (qz (nx+j) ver cs)))) nx (obs.set j .dead))):PW P r n N c Q F (ext S nx obs):=by
 have hjl:j<obs.length:=(Ac.1 hj).1;refine ZqL (id:=nx+j) (ver:=ver) (e:=e) (cs:=cs) (G:=F) (by rw[yb,Aa,hj];rfl) (by rw[yb,Aa,AV hjl];rfl) (λo=>?_) (λ_=>.inl rfl) h
 by_cases ho:o<nx
 ·rw[zD ho,zD ho]
  by_cases hoi:o=id
  ·subst hoi;rw[q11,hs];exact .inr (.inr rfl)
  ·rw[q10 _ _ _ _ hoi];exact .inr (.inl rfl)
 ·simp only[ext];rw[if_neg ho,if_neg ho,Aa,Aa,Bv];split
  ·simp[hjl]
  ·exact .inr (.inl rfl)
theorem ZaB{S T:Store}{nx nz:Nat}{obs:List Ob}(hd:zW nx S)(hle:nx<=nz)(h:∀o,o<nx->T o=S o)(o:Nat):S o=ext T nz obs o\/S o=.dead:=by
 by_cases ho:o<nx
 ·rw[zD DQ,h o ho];exact .inl rfl
 ·exact .inr (hd o DQ)
end
def ZD(x:Inst)(sol:Cust->List Int->List Visit × Bool)(b:Int)(n:Nat):Nat->List (List Int)->zF × Int
 | 0,_=>([],15)
 | k+1,pr =>
  if (qN x sol pr).2≠0 then ([],15)
  else if qL (js x (qN x sol pr).1 b n)=0 then (xT x (qN x sol pr).1 b n,0)
  else if (js x (qN x sol pr).1 b n).any Z9=true then ([],15)
  else ZD x sol b n k (Xr (js x (qN x sol pr).1 b n) pr n)
def WI(x:Inst)(sol:Cust->List Int->List Visit × Bool)(b:Int)(n:Nat):zF × Int:=ZD x sol b n 8 (jJ x n 0)
def Zig(x:Inst)(n:Nat)(sol:Cust->List Int->List Visit × Bool):Prop:=∀pr,Zd x.cust.length n pr->(qN x sol pr).2=0->VsOk x.cust.length n (qN x sol pr).1
theorem Zr4{x:Inst}{sol:Cust->List Int->List Visit × Bool}{b:Int}{n:Nat}(hx:InstH x)(hn:x.days=n)(hn2:n<=1000)(hs:Zdd x n sol)(hv:Zig x n sol)(hb:b<=9223372036854775807):
  Pure prog 128 [.agg (zy x),I b] (.tup [.agg [L (WI x sol b n).1],I (WI x sol b n).2]):=by
 have hm:=hx.cust;unfold WI;have hPo:=ZhV x n;refine zr func128 ntmps128 results128 λS nx hd=>?_
 refine D0 ?_;intro v0 v1;refine za (zz (some [nx]) (Row.pures [0,1,2,3,4] (.alt 5 (Row.pures [6] (.alt 7 (Row.pures [8] .done) .stop)) .stop)) mixed trivial ?_);refine⟨by omega,?_⟩;intro v2 v3;rw[ZqS];refine ZqN (α:=Int) (nx+2) v2 26 (nx+4) 3 1 x.cust.length DR (jP (obs:=[_,_,_,_])) λT ws hR hT hdT=>?_
 have hT0:T nx=.cells v0 25 (zy x):=by rw[hT nx DQ DQ];simp
 have hT1:T (nx+1)=.cells v1 30 [.sc (.slice none 0 0)]:=by rw[hT (nx+1) DQ DQ];simp
 have hT3:T (nx+3)=.cells v3 235 (xy x (.sc (.slice none 0 0)) b (.sc (.slice none 0 0)) (.sc (.slice none 0 0)) (.sl (nx+2) v2 1 0 x.cust.length)):=by rw[hT (nx+3) DQ DQ];simp
 have hTS:∀o,o<nx->T o=S o:=λo ho=>by rw[hT o DQ DQ,zD ho]
 clear hT;obtain⟨nz,hnz⟩:∃nz,nz=nx+4+x.cust.length:=⟨_,rfl⟩;rw[<-hnz]at hdT;rw[show List.replicate x.cust.length ([]:List Int)=jJ x 0 0 from (A6 λj=>by
  by_cases h:j<x.cust.length
  ·simp[jJ,h]
  ·rw[Ak DV,Ak (by rw[Jp];omega)])]at hR
 rw[<-qJ hdT];refine za (xk [] DW DW λK Gc Gh hK hGc hGh X hX0 hX=>?_);simp -implicitDefEqProofs [hX0,hX]
 try clear hX0 hX X
 refine hGc _ _ _ _ _ _ _ λhsuf=>(Spec.mono (ZhS (nx:=nz) (by rw[qJ hdT];exact hdT) x _ _ _ _ _ _ _ n hn hn2 (by rw[qJ hdT];exact hT3)
  (λk T'=>(∃ws',RowsAt T' (nx+2) v2 26 (nx+4) 3 1 ws' (jJ x k 0))/\(∀o,o≠nx+2->(o<nx+4\/nx+4+x.cust.length<=o)->T' o=T o)) ⟨⟨ws,by rw[qJ hdT];exact hR⟩,λo _ _=>by rw[qJ hdT]⟩
  (λk T' h o ho=>by rw[h.2 o DQ (.inr DQ)];exact hdT o ho) (λk hk T' h=>?_)) ?_).v
 ·obtain⟨⟨ws',h1⟩,h2⟩:=h;refine(Zrj k hm DQ DQ DQ ((h2 (nx+3) DQ (.inl DQ)).trans hT3) h1).mono ?_;rintro _ T2 ⟨g1,g2⟩;exact⟨g1,λo o1 o2=>(g2 o o1 o2).trans (h2 o o1 o2)⟩
 rintro _ T' ⟨⟨ws',hR'⟩,hT'⟩;have hdT':zW nz T':=λo ho=>by rw[hT' o DQ (.inr DQ)];exact hdT o ho
 refine⟨T',[],(qJ hdT').symm,?_⟩;clear hGc hGh;clear Gc Gh;refine xN hsuf (D:=[]) DW λGc Gh hGc hGh X hX0 hX=>?_
 simp -implicitDefEqProofs [hX0,hX];clear hX0 hX X;refine hK _ _ _ ?_;clear hK hGc hGh;clear K Gc Gh
 replace hT0:=(hT' nx DQ (.inl DQ)).trans hT0
 replace hT1:=(hT' (nx+1) DQ (.inl DQ)).trans hT1
 replace hT3:=(hT' (nx+3) DQ (.inl DQ)).trans hT3
 replace hTS:∀o,o<nx->T' o=S o:=λo ho=>(hT' o DQ (.inl DQ)).trans (hTS o ho)
 clear hT' hR hdT;generalize jJ x n 0=pr0 at *
 repeat apply za
 refine zb ?_;refine zj (jx (σ:=Nat × Store × List (List Int)) (λs=>s.1<=8/\Zd x.cust.length n s.2.2/\ZD x sol b n 8 pr0=ZD x sol b n (8-s.1) s.2.2/\(∃ws',RowsAt s.2.1 (nx+2) v2 26 (nx+4) 3 1 ws' s.2.2)/\s.2.1 nx=.cells v0 25 (zy x)/\s.2.1 (nx+1)=.cells v1 30 [.sc (.slice none 0 0)] /\
  (∃vP pP fP,s.2.1 (nx+3)=.cells v3 235 (xy x vP b pP fP (.sl (nx+2) v2 1 0 x.cust.length)))/\(∀o,o<nx->s.2.1 o=S o)/\zW nz s.2.1)
  (λs=>[(2,.ptr nx v0 0),(4,.ptr (nx+1) v1 0),(6,.ptr (nx+3) v3 0),(21,I s.1)]) (λs=>s.2.1) (λ_=>[]) (λs=>8-s.1) (zS (0,T',pr0) [] ⟨by simp,hPo,rfl,⟨ws',hR'⟩,hT0,hT1,⟨_,_,_,hT3⟩,hTS,hdT'⟩ DR rfl DR) ?_)
 clear hR' hT0 hT1 hT3 hTS hdT' hPo T';rintro⟨k,T,pr⟩ ⟨hk,hP,hst,⟨ws,hR⟩,hT0,hT1,⟨vP,pP,fP,hT3⟩,hTS,hdT⟩;simp only at hk hP hst hR hT0 hT1 hT3 hTS hdT ⊢;have x0:=λobs=>(zD (S:=T) (nx:=nz) (obs:=obs) (i:=nx) DQ).trans hT0
 have x3:=λobs=>(zD (S:=T) (nx:=nz) (obs:=obs) (i:=nx+3) DQ).trans hT3
 have g1:¬nz<=nx+1:=DQ
 have x1:=λobs=>(zD (S:=T) (nx:=nz) (obs:=obs) (i:=nx+1) DQ).trans hT1
 refine D0 ?_;refine za (zv rfl (λhc=>?_) (λhc=>?_))
 ·simp at hc;rw[show 8-k=(7-k)+1 from by omega]at hst;have hvs:=hv pr hP;have hch:=Zrt (S:=T) hm hP hR hs;rw[show ZD x sol b n (7-k+1) pr=(if (qN x sol pr).2≠0 then ([],15) else if qL (js x (qN x sol pr).1 b n)=0 then (xT x (qN x sol pr).1 b n,0) else if (js x (qN x sol pr).1 b n).any Z9=true then ([],15) else ZD x sol b n (7-k) (Xr (js x (qN x sol pr).1 b n) pr n)) from rfl]at hst;generalize qN x sol pr=cz at hst hvs hch;obtain⟨v,e⟩:=cz;simp only at hst hvs hch;refine zh (za (zj (za (ZkM none (Row.pures [0,1,2,3,4] (.alt 5 (Row.pures [6,7,8,9,10] .done) .stop)) mixed DW DW DW λK Gp Gc Gh hK hGp hGc hGh X hX0 hX1 hX2 hX=>?_))));simp -implicitDefEqProofs [hX0,hX1,hX2,hX,x0,x3]
  try clear hX0 hX1 hX2 hX X
  refine hGc _ _ _ _ _ _ _ (Spec.mono (by rw[qJ hdT];exact hch) ?_).v;rintro _ S2 ⟨rfl,hS2⟩;have hS3:S2=ext T nz []:=hS2.trans (qJ hdT).symm;subst hS3;clear hS2;refine⟨by simp[yK],?_⟩;clear hGp hGc hGh;clear Gp Gc Gh;refine Zex λGp Gc Gh hGp hGc hGh X hX0 hX1 hX2 hX=>?_
  simp -implicitDefEqProofs [hX0,hX1,hX2,hX]
  try clear hX0 hX1 hX2 hX X
  refine hK _ _ _ ?_;clear hK hGp hGc hGh;clear K Gp Gc Gh
  repeat apply za
  refine zb ?_
  by_cases he:e=0
  case neg =>
   rw[if_pos he]at hst;rw[hst];refine zk (by simp[he]) ?_;refine za (ze [] (zA x0 x1 g1) ?_)
   show PW _ _ _ _ _ _ _ (ext _ _ _)
   refine V1 (o:=nx+1) 0 (by rw[zD (by omega)];first | exact q11 _ _ _ | exact hT1) rfl ?_;rw[y9 _ DQ]
   try rw[Store.set_set]
   refine zg ⟨_,S,(by simp[zD (show nx+1<nz from by omega),q11];rfl),⟨by simp[zn],rfl⟩,?_⟩;exact ZaB hd DQ λo ho=>by rw[q10 _ _ _ _ DQ];exact hTS o ho
  rw[if_neg (by simpa using he)]at hst;have hvs:=hvs he;refine zm (by simp[he]) ?_;refine zh ?_
  repeat apply za
  refine xk [] DW DW λK Gc Gh hK hGc hGh X hX0 hX=>?_
  simp -implicitDefEqProofs [hX0,hX]
  try clear hX0 hX X
  refine hGc _ _ _ _ _ _ _ λhsuf=>(Spec.mono (ZqR (nx:=nz) (n:=n) (by rw[qJ hdT];exact hdT) (by rw[qJ hdT];exact hT3) hx hn hn2 hvs hb) ?_).v
  rintro _ _ ⟨rfl,vD,vF,rfl⟩;rw[qJ hdT];refine⟨_,_,rfl,?_⟩;clear hGc hGh;clear Gc Gh;refine xN hsuf (D:=[]) DW λGc Gh hGc hGh X hX0 hX=>?_
  simp -implicitDefEqProofs [hX0,hX];clear hX0 hX X;refine hK _ _ _ ?_;clear hK hGc hGh;clear K Gc Gh;have hfl:=Zhq x v b n;have hpl:=ZcZ x v b n;generalize js x v b n=fs at *;generalize xT x v b n=pl at *
  by_cases hf:qL fs=0
  ·rw[if_pos hf]at hst;rw[hst];refine zk (by simp[hf]) ?_
   show PW _ _ _ _ _ _ _ (ext _ _ _)
   refine Zr3 0 (id:=nx+3) rfl DQ (q11 _ _ _) ?_;rw[Store.set_set];have hfz:([I x.days,I x.veh,I x.cap,I x.len,L x.cust,L x.dist,L v,I b,.sl nz vD 1 0 pl.length,.sl (nz+1) vF 1 0 fs.length,.sl (nx+2) v2 1 0 x.cust.length]:List PV).map (qz (nz+0) vD (pl.flatMap Enc.enc))=xy x (L v) b (L pl) (.sl (nz+1) vF 1 0 fs.length) (.sl (nx+2) v2 1 0 x.cust.length):=by
    simp[qz];omega
   rw[hfz];have y3:=λ(o:Ob) obs=>(zD (S:=T.set (nx+3) o) (nx:=nz) (obs:=obs) (i:=nx+3) DQ).trans (q11 _ _ _)
   have y1:=λ(o:Ob) obs=>(zD (S:=T.set (nx+3) o) (nx:=nz) (obs:=obs) (i:=nx+1) DQ).trans ((q10 _ _ _ _ DQ).trans hT1)
   refine za (ze [] (zA y3 y1 g1) ?_);refine zg ⟨_,S,(by simp[zD (show nx+1<nz from by omega),q11];rfl),⟨by simp[zn],rfl⟩,?_⟩;exact ZaB hd DQ λo ho=>by rw[q10 _ _ _ _ DQ,q10 _ _ _ _ DQ];exact hTS o ho
  rw[if_neg hf]at hst;refine zm (by simp[hf]) ?_;refine zh ?_;have y3:=λ(o:Ob) obs=>(zD (S:=T.set (nx+3) o) (nx:=nz) (obs:=obs) (i:=nx+3) DQ).trans (q11 _ _ _)
  have y1:=λ(o:Ob) obs=>(zD (S:=T.set (nx+3) o) (nx:=nz) (obs:=obs) (i:=nx+1) DQ).trans ((q10 _ _ _ _ DQ).trans hT1)
  repeat apply za
  refine xk [] DW DW λK Gc Gh hK hGc hGh X hX0 hX=>?_
  simp -implicitDefEqProofs [hX0,hX,y3]
  try clear hX0 hX X
  refine hGc _ _ _ _ _ _ _ λhsuf=>((Zrr (idF:=nz+1) (vF:=vF) fs (by rw[yb];rfl) DQ).mono ?_).v
  rintro _ _ ⟨rfl,rfl⟩;refine⟨_,_,rfl,?_⟩;clear hGc hGh;clear Gc Gh;refine xN hsuf (D:=[]) DW λGc Gh hGc hGh X hX0 hX=>?_
  simp -implicitDefEqProofs [hX0,hX];clear hX0 hX X;refine hK _ _ _ ?_;clear hK hGc hGh;clear K Gc Gh;cases hbad:fs.any Z9 with
  | true =>
   rw[if_pos hbad]at hst;rw[hst];refine zk rfl (za (ze [] (zo y1 g1) ?_))
   show PW _ _ _ _ _ _ _ (ext _ _ _)
   refine V1 (o:=nx+1) 0 (by rw[zD DQ];first | exact q11 _ _ _ | exact(q10 _ _ _ _ DQ).trans hT1) rfl ?_;rw[y9 _ DQ]
   try rw[Store.set_set]
   refine zg ⟨_,S,(by simp[zD (show nx+1<nz from by omega),q11];rfl),⟨by simp[zn],rfl⟩,?_⟩;exact ZaB hd DQ λo ho=>by rw[q10 _ _ _ _ DQ,q10 _ _ _ _ DQ];exact hTS o ho
  | false =>
   rw[if_neg (by rw[hbad];decide)]at hst;refine zm rfl (zh ?_);generalize hT2:ext (T.set (nx+3) (.cells v3 235 (xy x (L v) b (.sl nz vD 1 0 pl.length) (.sl (nz+1) vF 1 0 fs.length) (.sl (nx+2) v2 1 0 x.cust.length)))) nz [.cells vD 39 (pl.flatMap Enc.enc),.cells vF 47 (fs.flatMap Enc.enc)]=T2;have q3:T2 (nx+3)=.cells v3 235 (xy x (L v) b (.sl nz vD 1 0 pl.length) (.sl (nz+1) vF 1 0 fs.length) (.sl (nx+2) v2 1 0 x.cust.length)):=by rw[<-hT2,zD DQ,q11]
   have qF:T2 (nz+1)=.cells vF 47 (fs.flatMap Enc.enc):=by rw[<-hT2,yb];rfl
   have qo:∀o,o<nz->o≠nx+3->T2 o=T o:=λo h1 h2=>by rw[<-hT2,zD h1,q10 _ _ _ _ h2]
   have qd:zW (nz+2) T2:=by rw[<-hT2];exact jP (obs:=[_,_])
   have qR:RowsAt T2 (nx+2) v2 26 (nx+4) 3 1 ws pr:=hR.other λo ho=>by
    rw[hP.1]at ho;exact qo o DQ DQ
   clear hT2;rw[<-qJ qd];refine xk [] DW DW λK Gc Gh hK hGc hGh X hX0 hX=>?_
   simp -implicitDefEqProofs [hX0,hX]
   try clear hX0 hX X
   refine hGc _ _ _ _ _ _ _ λhsuf=>(Spec.mono (ZhS (nx:=nz+2) (by rw[qJ qd];exact qd) x _ _ _ _ _ _ _ n hn hn2 (by rw[qJ qd];exact q3)
    (λk T'=>RowsAt T' (nx+2) v2 26 (nx+4) 3 1 ws (Xr fs pr k)/\(∀o,(o<nx+4\/nx+4+x.cust.length<=o)->T' o=T2 o)) ⟨by rw[qJ qd];exact qR,λo _=>by rw[qJ qd]⟩
    (λk T' h o ho=>by rw[h.2 o (.inr DQ)];exact qd o ho) (λj hj T' h=>?_)) ?_).v
   ·obtain⟨h1,h2⟩:=h;refine(Zro (n:=n) j hm hn2 hj DQ DQ ((h2 (nz+1) (.inr DQ)).trans qF) hfl ((h2 (nx+3) (.inl DQ)).trans q3) (WC fs hP j) h1).mono ?_;rintro _ T3 ⟨r1,r2⟩;exact⟨r1,λo o1=>(r2 o o1).trans (h2 o o1)⟩
   rintro _ T3 ⟨hR3,hT3'⟩;have hd3:zW (nz+2) T3:=λo ho=>by rw[hT3' o (.inr DQ)];exact qd o ho
   refine⟨T3,[],(qJ hd3).symm,?_⟩;clear hGc hGh;clear Gc Gh;refine xN hsuf (D:=[]) DW λGc Gh hGc hGh X hX0 hX=>?_
   simp -implicitDefEqProofs [hX0,hX];clear hX0 hX X;refine hK _ _ _ ?_;clear hK hGc hGh;clear K Gc Gh;rw[qJ hd3];refine X3 (T':=λo=>if o<nz then T3 o else .dead) (λo=>by by_cases ho:o<nz<;>simp[ho]) ?_;generalize hT4:(λo=>if o<nz then T3 o else Ob.dead)=T4;have q4:∀o,o<nz->T4 o=T3 o:=λo ho=>by rw[<-hT4];simp[ho]
   have qd4:zW nz T4:=λo ho=>by rw[<-hT4];simp;omega
   clear hT4;rw[<-qJ qd4];refine zb ?_;refine zq (k+1,T4,Xr fs pr n) [] ⟨by dsimp only;omega,WC fs hP n,by rw[hst,show 8-(k+1)=7-k from by omega],⟨ws,hR3.other λo ho=>q4 o (by rw[(WC fs hP n).1]at ho;omega)⟩,?_,?_,⟨L v,.sl nz vD 1 0 pl.length,.sl (nz+1) vF 1 0 fs.length,?_⟩,λo ho=>?_,qd4⟩ DV (by simp[zu k (by omega)]) rfl DR
   ·dsimp only;rw[q4 _ DQ,hT3' _ (.inl DQ),qo _ DQ DQ];exact hT0
   ·dsimp only;rw[q4 _ DQ,hT3' _ (.inl DQ),qo _ DQ DQ];exact hT1
   ·dsimp only;rw[q4 _ DQ,hT3' _ (.inl DQ)];exact q3
   ·dsimp only;rw[q4 _ DQ,hT3' _ (.inl DQ),qo _ DQ DQ];exact hTS o ho
 ·simp at hc;obtain rfl:k=8:=DQ
  rw[hst];refine zx (za (ze [] (zo x1 g1) ?_))
  show PW _ _ _ _ _ _ _ (ext _ _ _)
  refine V1 (o:=nx+1) 0 (by rw[zD (by omega)];first | exact q11 _ _ _ | exact hT1) rfl ?_;rw[y9 _ DQ]
  try rw[Store.set_set]
  refine zg ⟨_,S,(by simp[zD (show nx+1<nz from by omega),q11];rfl),⟨by simp[zn,ZD],rfl⟩,?_⟩;exact ZaB hd DQ λo ho=>by rw[q10 _ _ _ _ DQ];exact hTS o ho
open Go Go.Proofs Hp
def QD:List Int->Int
 | []=>-1
 | d :: ds=>(d :: ds).getLast DR
theorem Zdn(ds:List Int)(d:Int):QD (ds++[d])=d:=by
 cases ds with
 | nil=>rfl
 | cons a ds=>show (a :: (ds++[d])).getLast _=d;grind
def Zih(c:Cust)(cap:Int)(last d:Int):Prop:=0<=(je c last d).1/\vS c (je c last d).1 cap≠0
inductive FilS (c:Cust) (cap:Int) (n:Nat):List Int->Prop where
 | nil:FilS c cap n []
 | snoc {ds:List Int} {d:Int} (h:FilS c cap n ds) (h1:QD ds<d) (h2:d<n) (h3:Zih c cap (QD ds) d):FilS c cap n (ds++[d])
theorem FilS.lo{c:Cust}{cap:Int}{n:Nat}{ds:List Int}(h:FilS c cap n ds):-1<=QD ds/\(∀d∈ds,0<=d/\d<n/\d<=QD ds):=by
 induction h with
 | nil=>exact⟨by decide,by simp⟩
 | snoc h h1 h2 h3 ih =>
  grind[Zdn]
theorem FilS.inc{c:Cust}{cap:Int}{n:Nat}{ds:List Int}(h:FilS c cap n ds):ds.Pairwise (· < ·):=by
 induction h with
 | nil=>simp
 | snoc h h1 h2 h3 ih =>
  rw[List.pairwise_append];refine⟨ih,by simp,λa ha b hb=>?_⟩;rw[AY.1 hb];have:=h.lo.2 a ha;omega
theorem Zr5(c:Cust)(ds:List Int):(jK c ds).2=QD ds:=by
 rcases List.eq_nil_or_concat ds with rfl | ⟨l,d,rfl⟩
 ·rfl
 ·rw[List.concat_eq_append,Zay,Zdn];rfl
theorem Zr6(c:Cust):∀ds:List Int,(jK c ds).1.map (·.d)=ds:=by
 have:∀(ds:List Int) (st:List Visit × Int),(ds.foldl (YN c) st).1.map (·.d)=st.1.map (·.d)++ds:=by
  intro ds
  induction ds with
  | nil=>intro st;simp
  | cons d ds ih=>intro st;rw[A3,ih];simp[YN]
 simp_all[jK]
theorem Zr7{c:Cust}(hc:CustFits c){cap last d:Int}(h:Zih c cap last d):W (c.size-(je c last d).1)=c.size-(je c last d).1/\1<=c.size-(je c last d).1/\c.size-(je c last d).1<=2147483648/\(c.rule=1->c.size-(je c last d).1<=cap):=by
 obtain⟨h1,h2⟩:=h;have hs:=hc.size
 grind[vS,wr]
theorem Zr8{c:Cust}(hc:CustFits c){cap:Int}{n:Nat}(hn:n<=60){ds:List Int}(h:FilS c cap n ds):GoodV n (jK c ds).1:=by
 have hlen:ds.length<=64:=by
  have h1:=Zh4 (m:=n) ds (h.inc.imp λh=>DD h) (λd hd=>by have:=h.lo.2 d hd;omega);omega
 refine⟨by simp_all[Zib],?_,by rw[Zr6];exact h.inc.imp λh=>DD h⟩
 induction h with
 | nil=>intro s hs;cases hs
 | @snoc ds d h h1 h2 h3 ih =>
  intro s hs;rw[Zay]at hs;simp only[YN]at hs;rcases Ay.1 hs with hs | hs
  ·grind
  ·rw[AY.1 hs];rw[Zr5];obtain⟨q1,q2,q3,-⟩:=Zr7 hc h3;have:=h.lo.1
   grind
def QE(tab:List Stp):Nat->Int->List Int
 | 0,_=>[]
 | f+1,d=>if d<0 then [] else d :: QE tab f (tab.getD d.toNat zs).l
def ZaC(c:Cust)(n:Nat)(cap:Int)(tab:List Stp):Prop:=∀(d:Nat) (e:Stp),tab[d]?=some e->e≠zs->-1<=e.l/\e.l<d/\(0<=e.l->tab.getD e.l.toNat zs≠zs)/\0<=(je c e.l d).1/\(d<n->vS c (je c e.l d).1 cap≠0)
theorem Zii(c:Cust)(n:Nat)(cap:Int)(price:List Int):∀k,ZaC c n cap (jC c n cap price k)
 | 0=>by intro d e h;cases h
 | k+1=>by
  have ih:=Zii c n cap price k;have hl:=WH c n cap price k;have he:=Zaz c n cap price (jC c n cap price k) k (k+1);have hok:=Zdm c n cap price (k+1);intro d e h hne;have hok:=hok d e h;simp only[jC]at h hok ⊢;rcases hok with q | ⟨-,q2,q3,q4⟩
  ·simp_all
  refine⟨q2,q3,q4,?_⟩
  by_cases hd:d<k
  ·rw[Ap DQ]at h;exact(ih d e h hne).2.2.2
  ·rw[Am DQ,hl]at h;obtain rfl:d=k:=DY
   rw[BA]at h;simp only[Ba,Option.some.injEq]at h;subst h;rcases he with q | ⟨-,-,-,p4⟩
   ·simp_all
   ·have:=p4.2;omega
theorem Zdo{c:Cust}{n:Nat}{cap:Int}{tab:List Stp}(h:ZaC c n cap tab):∀(f:Nat) (d:Int),-1<=d->d<f->d<n->(0<=d->tab.getD d.toNat zs≠zs)->FilS c cap n (QE tab f d).reverse/\QD (QE tab f d).reverse=d
 | 0,d,h1,h2,_,_=>by
  obtain rfl:d=-1:=DQ
  exact⟨.nil,rfl⟩
 | f+1,d,h1,h2,h3,h4=>by
  unfold QE
  by_cases hd:d<0
  ·rw[if_pos hd];obtain rfl:d=-1:=DQ
   exact⟨.nil,rfl⟩
  ·rw[if_neg hd,Cu];have h4:=h4 DQ;obtain⟨i,rfl⟩:=Au (show 0<=d by omega);rw[AJ]at h4 ⊢;have he:∃e,tab[i]?=some e/\tab.getD i zs=e:=by
    cases hq:tab[i]? with
    | none=>simp_all
    | some e=>simp_all
   obtain⟨e,he1,he2⟩:=he;rw[he2]at h4 ⊢;obtain⟨g1,g2,g3,g4,g5⟩:=h i e he1 h4;obtain⟨p1,p2⟩:=Zdo h f e.l g1 DQ DQ g3;exact⟨.snoc p1 DQ h3 (by rw[p2];exact⟨g4,g5 (by omega)⟩),Zdn _ _⟩
theorem Zr9(s:Nat)(d i:Nat)(hd:d<64):yF (qk s d) i=1<->yF s i=1\/i=d:=by
 have h:((qk s d).testBit i)=(s.testBit i || decide (d=i)):=by
  unfold qk;rw[if_pos DQ,AJ,De,Cz]
 grind[yF]
theorem Zij{c:Cust}{n:Nat}{cap:Int}{tab:List Stp}(h:ZaC c n cap tab)(hn:n<=60):∀(f s:Nat) (d:Int),-1<=d->d<n->(0<=d->tab.getD d.toNat zs≠zs)->∀i:Nat,yF (ur tab f s d) i=1<->yF s i=1\/(i:Int)∈QE tab f d
 | 0,s,d,_,_,_=>λi=>by simp[ur,QE]
 | f+1,s,d,h1,h3,h4=>λi=>by
  unfold ur QE
  by_cases hd:d<0
  ·simp_all
  ·rw[if_neg hd,if_neg hd];have h4:=h4 DQ;obtain⟨k,rfl⟩:=Au (show 0<=d by omega);rw[AJ]at h4 ⊢;have he:∃e,tab[k]?=some e/\tab.getD k zs=e:=by
    cases hq:tab[k]? with
    | none=>simp_all
    | some e=>simp_all
   obtain⟨e,he1,he2⟩:=he;rw[he2]at h4 ⊢;obtain⟨g1,g2,g3,-⟩:=h k e he1 h4;rw[Zij h hn f _ e.l g1 DQ g3 i,Zr9 s k i DQ,As,Int.natCast_inj,or_assoc]
theorem Zsa:∀{a b:List Int},a.Pairwise (· < ·)->b.Pairwise (· < ·)->(∀z,z∈a<->z∈b)->a=b:=by
 intro a b ha hb h;have hp:a.Perm b:=(C9 (ha.imp λh=>DD h) (hb.imp λh=>DD h)).2 h;exact Zgg hp (ha.imp λh=>Int.le_of_lt h) (hb.imp λh=>Int.le_of_lt h)
theorem Zsb(s a k:Nat):(yy s a k).Pairwise (· < ·):=by
 unfold yy;rw[CJ];have h:(List.range k).Pairwise (· < ·):=List.pairwise_lt_range;exact(h.sublist List.filter_sublist).imp λh=>by omega
theorem Zsc{c:Cust}{n:Nat}{cap:Int}{tab:List Stp}(h:ZaC c n cap tab)(hn:n<=60){d:Int}(h1:-1<=d)(h3:d<n)(h4:0<=d->tab.getD d.toNat zs≠zs):yy (ur tab 65 0 d) 0 64=(QE tab 65 d).reverse:=by
 obtain⟨hf,-⟩:=Zdo h 65 d h1 DQ h3 h4;refine Zsa (Zsb _ _ _) hf.inc λz=>?_
 have hb:=Zij h hn 65 0 d h1 h3 h4;have h0:∀i,¬yF 0 i=1:=by intro i;simp[yF]
 rw[List.mem_reverse];constructor
 ·grind[WD]
 ·intro hz;have hlo:=hf.lo.2 z (List.mem_reverse.2 hz)
  grind[Int.eq_ofNat_of_zero_le,yy]
theorem Zsd{c:Cust}{n:Nat}(hn:n<=60){cap:Int}{price:List Int}(h:(YO c n cap price).2=true):∃ds,FilS c cap n ds/\0<=(je c (QD ds) n).1/\(YO c n cap price).1=(jK c ds).1:=by
 have hfit:=Zii c n cap price (n+1);have hl:=WH c n cap price (n+1);unfold YO at h ⊢;generalize jC c n cap price (n+1)=tab at *;split at h
 ·cases h
 rename_i hne;rw[if_neg hne];have he:∃e,tab[n]?=some e/\tab.getD n zs=e:=⟨_,Af DQ,by rw[Aa,Af DQ];rfl⟩;obtain⟨e,he1,he2⟩:=he;rw[he2]at hne ⊢;obtain⟨g1,g2,g3,g4,-⟩:=hfit n e he1 hne
 grind[Zdo,Zsc]
def qE(n:Nat)(cap:Int)(c:Cust)(price:List Int):List Visit × Bool :=
 if c.kind=1 then ZB c cap price else if c.rule=1 then YO c n cap price else Jq c n cap price
theorem Zdp{S:Store}{pl:PV}{price:List Int}(c:Cust)(n:Nat)(cap:Int)(hR:RowOf S pl price)(hp:∀z∈price,zO z)(hpl:price.length<=1000)(hm:CustMade c n)(hpc:c.pats.length<=1000)(hn:n<=60):
  Spec prog 207 [.agg (zV c),I n,I cap,pl] S (λq S'=>q=.tup [L (qE n cap c price).1,B (qE n cap c price).2]/\S'=S):=by
 unfold qE
 by_cases hk:c.kind=1
 ·rw[if_pos hk];exact ZrN c n cap hk hR hp hpl hpc hm.pats
 rw[if_neg hk]
 by_cases hr:c.rule=1
 ·rw[if_pos hr];have hs:=λS (hR:RowOf S pl price)=>Zr2 c n cap hR hm.fits hn
  generalize YO c n cap price=r at *;obtain⟨v,ok⟩:=r;simp only at hs ⊢;refine yl func207 ntmps207 results207 λnx hd=>?_
  refine D0 ?_;intro v0;refine za (zj (za (ze [] hk ?_)));refine zm DR ?_;refine za (ze [] hr ?_);refine zk DR ?_;refine D0 ?_;refine λhsuf=>((hs _ (hR.ext hd _)).mono ?_).v
  rintro _ _ ⟨rfl,rfl⟩;refine⟨_,_,rfl,zN hsuf ?_⟩;exact zg ⟨_,S,DT,⟨by simp,rfl⟩,zR hd⟩
 ·rw[if_neg hr];have hs:=λS (hR:RowOf S pl price)=>ZrT c n cap hR hm.fits DQ
  generalize Jq c n cap price=r at *;obtain⟨v,ok⟩:=r;simp only at hs ⊢;refine yl func207 ntmps207 results207 λnx hd=>?_
  refine D0 ?_;intro v0;refine za (zj (za (ze [] hk ?_)));refine zm DR ?_;refine za (ze [] hr ?_);refine zm DR ?_;refine zh (D0 ?_);refine λhsuf=>((hs _ (hR.ext hd _)).mono ?_).v
  rintro _ _ ⟨rfl,rfl⟩;refine⟨_,_,rfl,zN hsuf ?_⟩;exact zg ⟨_,S,DT,⟨by simp,rfl⟩,zR hd⟩
theorem Zse{c:Cust}{n:Nat}(hm:CustMade c n)(hk:c.kind=1){p:Nat}(hp:p∈c.pats):GoodV n (Qz c p):=by
 obtain⟨h1,h2⟩:=hm.per hk;refine⟨by simp only[Qz,List.length_map];exact Qx _ _ _,λs hs=>?_,by simp only[Qz,BT];exact(by simpa[Function.comp_def] using Zrg p 0 64)⟩
 grind[Qz,yy]
theorem Zsf{c:Cust}{cap:Int}{price:List Int}(h:(ZB c cap price).2=true):∃p∈c.pats,(p=0\/c.demand<=cap)/\(ZB c cap price).1=Qz c p:=by
 unfold ZB at h ⊢;split at h
 ·cases h
 rename_i hn;rw[if_neg hn];have hb:=Zdg price (uR c cap) (uR c cap).length
 grind[uR,List.getElem_mem]
theorem ZaD{c:Cust}{n:Nat}(hm:CustMade c n)(hn:n<=60)(cap:Int)(price:List Int)(h:(qE n cap c price).2=true):GoodV n (qE n cap c price).1:=by
 unfold qE at h ⊢
 by_cases hk:c.kind=1
 ·grind[Zsf,Zse]
 rw[if_neg hk]at h ⊢
 by_cases hr:c.rule=1
 ·rw[if_pos hr]at h ⊢;obtain⟨ds,h1,-,e⟩:=Zsd hn h;rw[e];exact Zr8 hm.fits hn h1
 ·rw[if_neg hr]at h ⊢;have hD:GoodV n (yZ 0 (ZC c n cap).1):=ZhR (Xv hm.fits (Zdj hm.fits cap) n).2 (Cq (Xu _ _ _)) DQ;have hL:GoodV n (yZ 0 (Ya c n cap).1):=ZhR (Xv hm.fits (Zdk hm.fits cap) n).2 (Cq (Xu _ _ _)) DQ
  grind[Jq]
structure InstA (x:Inst) (n:Nat):Prop where
 h:InstH x
 days:x.days=n
 n60:n<=60
 made:∀c∈x.cust,CustMade c n
 pats:∀c∈x.cust,c.pats.length<=1000
theorem Zsg{x:Inst}{n:Nat}(h:InstA x n):Zdd x n (qE n x.cap):=by
 intro c hc l hl hi S pl hR;rw[h.days];have:=h.n60;exact Zdp c n x.cap hR hi DQ (h.made c hc) (h.pats c hc) h.n60
theorem Zik{x:Inst}{sol:Cust->List Int->List Visit × Bool}{pr:List (List Int)}(h:(qN x sol pr).2=0):(qN x sol pr).1.length=x.cust.length/\∀i c,x.cust[i]?=some c->(qN x sol pr).1[i]?=some (sol c (pr.getD i [])).1/\(sol c (pr.getD i [])).2=true:=by
 unfold qN at h ⊢;split at h
 ·rename_i hall;rw[if_pos hall];refine⟨by simp[Ze],λi c hc=>?_⟩;have hi:=(Ac.1 hc).1;have hg:x.cust.getD i default=c:=by rw[Aa,hc];rfl
  refine⟨by simp only[Ze,BT,Aj,Bc hi,AZ,Function.comp_apply,hg],?_⟩;have:=Ax.1 hall _ (ZhW x sol pr hi);rw[hg]at this;exact this
 omega
theorem Zil{x:Inst}{n:Nat}(h:InstA x n):Zig x n (qE n x.cap):=by
 intro pr hP h0;obtain⟨h1,h2⟩:=Zik h0;have key:∀l∈(qN x (qE n x.cap) pr).1,GoodV n l:=by
  intro l hl;obtain⟨i,hi,rfl⟩:=List.getElem_of_mem hl;have hic:i<x.cust.length:=DQ
  obtain⟨e1,e2⟩:=h2 i _ (Af hic);rw[Af hi]at e1;rw[Option.some.inj e1];exact ZaD (h.made _ (A9 hic)) h.n60 _ _ e2
 exact⟨h1,λl hl w hw=>(key l hl).ok w hw,λl hl=>(key l hl).nd,λl hl=>by have:=(key l hl).len;omega⟩
def jL(x:Inst)(b:Int):zF × Int:=WI x (qE x.days.toNat x.cap) b x.days.toNat
theorem Zsh{x:Inst}{n:Nat}(h:InstA x n){b:Int}(hb:b<=9223372036854775807):Pure prog 128 [.agg (zy x),I b] (.tup [.agg [L (jL x b).1],I (jL x b).2]):=by
 have hd:x.days.toNat=n:=by rw[h.days];rfl
 unfold jL;rw[hd];exact Zr4 h.h h.days (by have:=h.n60;omega) (Zsg h) (Zil h) hb
theorem Zsi(x:Inst)(c l:Int):InstA (ZrE x 6 c l) (yI x).days.toNat:=by
 have hd:=WE x;refine⟨⟨AB (Zcc x) DX,ZgY x,ZgR x,by show (0:Int)<=6;decide⟩,?_,by omega,λc hc=>?_,λc hc=>?_⟩
 ·show (yI x).days=_;omega
 ·obtain⟨c0,rfl⟩:=Zde x hc
  simp_all[Zh3]
 ·obtain⟨c0,rfl⟩:=Zde x hc
  grind[jz,Zp]
theorem Zsj(x:Inst):InstA (yI x) (yI x).days.toNat:=by
 have hd:=WE x;have h:=Zsi x (yI x).cap (yI x).len;exact⟨⟨AB (Zcc x) DX,ZgY x,ZgR x,Zpx x⟩,by omega,h.n60,h.made,h.pats⟩
open Go Go.Proofs Hp
def Js(c:Int)(p:zF):zF:=p.map (j7 c)
theorem Zsk(p:zF)(c:Int)(hp:p.length<=1000)(hd0:∀d∈p,d.length<=1048576)(ht:∀d∈p,∀t∈d,t.length<=1048576):Pure prog 287 [.agg [L p],I c] (.agg [L (Js c p)]):=by
 unfold Js;refine zr func287 ntmps287 results287 λS nx hd=>?_
 refine D0 ?_;intro v0 v1;refine D0 ?_;intro v2;refine jg 2 0 39 1 rfl rfl λv3=>?_
 repeat apply za
 refine zb ?_;refine zj (zC (λs:Nat × zF × Nat=>s.1<=p.length/\s.2.1=(p.take s.1).map (j7 c)) (λ(k,q,w)=>[(1,I c),(4,.ptr (nx+1) v1 0),(5,.ptr (nx+2) v2 0),(11,L p),(12,I p.length),(13,I k)]) (λ(k,q,w)=>[.cells v0 30 [L p],.cells v1 30 [yu],.cells v2 30 [.sl (nx+3) w 1 0 q.length],.cells w 39 (q.flatMap Enc.enc)]) (λs=>p.length-s.1) (0,[],v3) [] DR DR DR ?_);rintro⟨k,q,w⟩ ⟨hk,hq⟩;simp only at hk hq ⊢;have hql:q.length=k:=by rw[hq];simp;omega
 refine D0 ?_;refine za (zv rfl (λhc=>?_) (λhc=>?_))
 ·simp at hc;obtain⟨d,tl,a1,a2,a3,e0⟩:=zE rfl p k hc;have hdm:=Ab a1;have hr:=ZoF d c (hd0 d hdm) (ht d hdm);generalize hrd:j7 c d=rd at hr;have hk1:1<=p.length-k:=DQ
  have hqf:(q.flatMap Enc.enc:List PV).length=q.length:=jR q;have hqt:(q.flatMap Enc.enc:List PV).take q.length=q.flatMap Enc.enc:=Ae DQ;refine zh (za (zj (za (ze [] (zA hc e0 hk1) ?_))));intro v4;refine D0 ?_;refine zt hr ?_;intro v5;refine ze [] (zo hqf hqt) ?_;refine⟨by omega,?_⟩;refine zb ?_;exact zq (k+1,q++[rd],w+1) [_,_] ⟨hc,by rw[a3,List.map_append,hq,<-hrd];rfl⟩ DV (by simp[zu k (by omega)]) rfl (by simp;exact⟨rfl,rfl⟩)
 ·simp at hc;obtain rfl:k=p.length:=DQ
  rw[Ai]at hq;refine zx (zZ 3 rfl ?_);refine D0 ?_;exact zg (zi hd DT (by simp[zn,hq]))
open Go Go.Proofs Hp
def vT(x:Inst)(c:Nat):Stop:=⟨c,if (x.cust.getD c default).kind=1 then (x.cust.getD c default).demand else 1⟩
def vn(x:Inst)(s:Stop)(d:zp):Int:=if (yN x d s).2=true then max 0 (W (W (yA x (yN x d s).1)-W (yA x d))) else 4294967296
theorem Zim(x:Inst)(c:Int):Pure prog 286 [.agg (zy x),I c] (B (decide (0<=c) && decide (c<x.cust.length))):=by
 refine zr func286 ntmps286 results286 λS nx hd=>?_
 refine D0 ?_;intro v0
 by_cases h:0<=c
 ·by_cases h2:c<x.cust.length
  ·refine za (ze [(2,7)] (zo h h2) ?_);exact zg (zi hd rfl (by simp[zn,h,h2]))
  ·refine za (ze [(2,7)] (zo h h2) ?_);exact zg (zi hd rfl (by simp[zn,h,h2]))
 ·refine za (ze [(2,7)] (zo h zB) ?_);exact zg (zi hd rfl (by simp[zn,h]))
open Go Go.Proofs Hp
theorem Zsl{x:Inst}{p:zF}(h:wJ x p=0):yM x=true/\(p.length:Int)=x.days/\(∀d∈p,yg x d=0)/\∀i,i<x.cust.length->xI x p i=0:=by
 unfold wJ at h;split at h
 ·cases h
 split at h
 ·cases h
 rename_i h1 h2;split at h
 ·rename_i h3;exact absurd h h3
 rename_i h3;refine⟨by simpa using h1,Classical.not_not.1 h2,λd hd=>(ZcV _).1 (Classical.not_not.1 h3) _ (Al.2 ⟨d,hd,rfl⟩),λi hi=>(ZcV _).1 h _ (Al.2 ⟨i,AL.2 hi,rfl⟩)⟩
theorem ZaE{x:Inst}(hx:x.cust.length<=900){d:zp}(h:yg x d=0):d.flatten.length<=x.cust.length/\d.length<=x.cust.length/\RgOk x d [⟨0,0⟩]:=by
 obtain⟨h1,h2,h3⟩:=(wC x d).1 h;have hg:=ZcX h;have hl:=Zh4 (m:=x.cust.length) _ h2 (λc hc=>by
  obtain⟨s,hs,rfl⟩:=Al.1 hc;have:=hg s hs;simp[qZ]at this;omega)
 rw[List.length_map]at hl;have hn:=Zgd h;have hd:=Zh1 d hn;refine⟨hl,by omega,⟨by omega,λt ht=>?_,λt ht s hs=>?_⟩,h,by rw[Bp];omega⟩
 ·have:=Zax d t ht;omega
 ·have:=hg s (ZrF ht hs);simp[qZ]at this;unfold qb;omega
theorem Zin{x:Inst}(hx:x.cust.length<=900)(ha:q9 x)(hv:0<=x.veh){d:zp}(h:yg x d=0):SOk x d.flatten/\SG x d.flatten d:=by
 obtain⟨h1,h2,h3⟩:=(wC x d).1 h;obtain⟨g1,g2,g3⟩:=ZaE hx h;refine⟨⟨by omega,ha,hv,by omega,λs hs=>?_,h2⟩,⟨h1,.refl _⟩⟩;obtain⟨t,ht,hst⟩:=BJ.1 hs;exact g3.ok.s t ht s hst
theorem Zsm(c:Int)(d:zp):(j7 c d).flatten=d.flatten.filter λs=>decide (s.c≠c):=by
 unfold j7;have:∀l:zp,(l.filter λt=>!t.isEmpty).flatten=l.flatten:=by
  intro l
  induction l with
  | nil=>rfl
  | cons t l ih=>cases t<;>simp[Cc,ih]
 rw[this]
 induction d with
 | nil=>rfl
 | cons t d ih=>simp only[AA,Bx,B1,ih];rfl
open Go Go.Proofs Hp
theorem Zio{x:Inst}{sol:Cust->List Int->List Visit × Bool}{b:Int}{n:Nat}:∀(k:Nat) (pr:List (List Int)),Zd x.cust.length n pr->(ZD x sol b n k pr).2=0->∃pr',Zd x.cust.length n pr'/\(qN x sol pr').2=0/\qL (js x (qN x sol pr').1 b n)=0/\(ZD x sol b n k pr).1=xT x (qN x sol pr').1 b n
 | 0,_,_,h=>by simp[ZD]at h
 | k+1,pr,hp,h=>by
  unfold ZD at h ⊢
  by_cases h1:(qN x sol pr).2≠0
  ·rw[if_pos h1]at h;cases h
  rw[if_neg h1]at h ⊢
  by_cases h2:qL (js x (qN x sol pr).1 b n)=0
  ·rw[if_pos h2]at h ⊢;exact⟨pr,hp,by simpa using h1,h2,rfl⟩
  rw[if_neg h2]at h ⊢
  by_cases h3:(js x (qN x sol pr).1 b n).any Z9=true
  ·rw[if_pos h3]at h;cases h
  rw[if_neg h3]at h ⊢;exact Zio k _ (WC _ hp n) h
open Go Go.Proofs Hp
theorem Zsn{x:Inst}{n:Nat}(h:InstA x n){b:Int}(h0:(jL x b).2=0):∃v pr,VsOk x.cust.length n v/\Zd x.cust.length n pr/\(jL x b).1=xT x v b n/\(∀d:Nat,d<n->(uN x b (xe v d x.cust.length)).2=0)/\∀i c,x.cust[i]?=some c->v[i]?=some (qE n x.cap c (pr.getD i [])).1/\(qE n x.cap c (pr.getD i [])).2=true:=by
 have hd:x.days.toNat=n:=by rw[h.days];rfl
 unfold jL WI at h0 ⊢;rw[hd]at h0 ⊢;obtain⟨pr,hp,e1,e2,e3⟩:=Zio 8 _ (ZhV x n) h0;have hv:=Zil h pr hp e1;obtain⟨c1,c2⟩:=Zik e1;refine⟨_,pr,hv,hp,e3,λd hdn=>?_,c2⟩;refine(ZcV _).1 e2 _ (Al.2 ⟨_,Al.2 ⟨d,AL.2 hdn,rfl⟩,rfl⟩)
open Go Go.Proofs Hp
theorem Zso(c:Cust)(d:Int)(h1:1<=d)(h7:d<=7):jB (jz c d) d=true:=by
 have hm:=Zh3 c d h1 h7
 by_cases hk:c.kind.tmod 2=0
 ·have e:jz c d=⟨2,0,[],yD c.rate 0 9,yD c.size 1 30,yD c.start 0 (yD c.size 1 30),yD c.rule 1 2,yD c.hold 0 4⟩:=by unfold jz;rw[if_pos hk]
  have a:=xp c.rate 0 9 DQ;have b:=xp c.size 1 30 DQ;have s:=xp c.start 0 (yD c.size 1 30) DQ;have r:=xp c.rule 1 2 DQ;have h:=xp c.hold 0 4 DQ;rw[e];simp[jB,zM,vO,uo];omega
 ·have e:jz c d=⟨1,yD c.demand 1 15,Zp c.pats d,0,0,0,0,0⟩:=by unfold jz;rw[if_neg hk]
  have a:=xp c.demand 1 15 DQ;rw[e]at hm ⊢;obtain⟨hp,-⟩:=hm.per rfl;have hl:1<=(Zp c.pats d).length/\(Zp c.pats d).length<=64:=by
   unfold Zp;split
   ·simp
   ·rename_i hn;have:0<c.pats.length:=BS.2 hn;simp only[List.length_map,Aw];omega
  simp only[jB,if_true,Av,zM,decide_eq_true_eq,xx,vN,Ax];refine⟨⟨by omega,λp hpm=>?_,by omega⟩,by simp⟩;unfold wH;have:yy p d.toNat 64=[]:=by
   rw[ZcR,Ca];intro z hz;have:=hp p hpm z hz;simp;omega
  rw[this];decide
theorem Zip(n:Nat)(row:Nat->List Int)(h:∀a,a<n->(row a).length=n/\(row a).getD a 0=0/\∀z∈row a,0<=z/\z<=2147483648):∀k a:Nat,a+k<=n->wI n a ((List.range' a k).map row)=true
 | 0,_,_=>rfl
 | k+1,a,ha=>by
  obtain⟨h1,h2,h3⟩:=h a DQ;rw[List.range'_succ,AA];simp only[wI,Zip n row h k (a+1) DQ,DL,h1,h2,decide_true,CY,Ax,zM,decide_eq_true_eq];exact h3
theorem Zsp(x:Inst):yM (yI x)=true:=by
 have h1:=WE x;have h2:=ZrA x;have h3:=ZrB x;have h4:=ZrC x;have h5:=ZrD x;unfold yM;simp only[Av,Ax,decide_eq_true_eq,zM];refine⟨⟨⟨⟨⟨⟨by omega,by omega⟩,by omega⟩,by omega⟩,by omega⟩,λc hc=>?_⟩,?_⟩
 ·obtain⟨c0,rfl⟩:=Zde x hc;exact Zso c0 _ h1.1 h1.2
 ·have e:(yI x).cust.length=(x.cust.take 6).length:=by simp[yI]
  rw[e];unfold uQ;have e2:(yI x).dist=(List.range' 0 ((x.cust.take 6).length+1)).map λa=>ud x (x.cust.take 6).length a:=by rw[<-List.range_eq_range'];rfl
  rw[e2,Zip _ _ (λa ha=>?_) _ _ DQ]
  ·simp
  ·refine⟨by simp[ud],?_,λz hz=>?_⟩
   ·unfold ud;rw[Aa,Aj,Bc ha];simp
   ·unfold ud at hz;obtain⟨b,-,rfl⟩:=Al.1 hz;split
    ·have:=xp (arc x a b) 0 60 DQ;omega
    ·omega
open Go Go.Proofs Hp
theorem Zsq(s:Nat)(d:Int)(i:Nat)(h:0<=d/\d<64):(qk s d).testBit i=(s.testBit i || decide (d=(i:Int))):=by
 obtain⟨k,rfl⟩:=Au h.1;unfold qk;rw[if_pos DQ,AJ,De,Cz];congr 1;rw[decide_eq_decide];omega
def Zsr(c:Cust):Prop:=(c.kind=1/\c.rule=0)\/(c.kind=2/\(c.rule=1\/c.rule=2))
open Go Go.Proofs
abbrev Wd:=List UInt8
abbrev Ln:=List Wd
abbrev xX:Wd:=[116,114,97,110,116,101,114]
abbrev xY:Wd:=[100,97,121,115]
abbrev xZ:Wd:=[118,101,104,105,99,108,101,115]
abbrev x7:Wd:=[99,97,112,97,99,105,116,121]
abbrev x8:Wd:=[108,101,110,103,116,104]
abbrev x9:Wd:=[99,117,115,116,111,109,101,114,115]
abbrev vU:Wd:=[118,105,115,105,116]
abbrev QF:Wd:=[116,97,110,107]
abbrev ut:Wd:=[102,105,108,108]
abbrev uS:Wd:=[97,110,121]
abbrev jt:Wd:=[100,105,115,116,97,110,99,101,115]
def yS(w:Wd):Int:=((jU w).getD 0:Nat)
def jD(l:Ln):Option (List Int):=if l.all (λw=>(jU w).isSome)=true then some (l.map yS) else none
theorem Zss{l:Ln}{k:Nat}{w:Wd}(h:l[k]?=some w)(hw:jU w=none):jD l=none:=by grind[jD]
theorem WJ{l:Ln}(h:∀w∈l,(jU w).isSome=true):jD l=some (l.map yS):=by simp_all[jD]
theorem Ziq{l:Ln}{z:List Int}(h:jD l=some z):z.length=l.length:=by grind[jD]
def xA(l:Ln)(n:Nat):Ln:=(List.range n).map λi=>l.getD (2*i+1) []
def Jt(l names:Ln):Bool:=decide (l.length=2*names.length) && (List.range names.length).all λi=>decide (l.getD (2*i) []=names.getD i [])
def qg(l names:Ln):Option (List Int):=if Jt l names=true then jD (xA l names.length) else none
def xK(w:Wd):Nat->Nat
 | 0=>0
 | k+1=>if w.getD k 0=49 then qk (xK w k) k else xK w k
def wM(w:Wd):Bool:=decide (w≠[]) && w.all λc=>decide (c.toNat=48\/c.toNat=49)
def jV(w:Wd):Nat:=if 64<w.length then 0 else xK w w.length
def Yc(d:Wd)(ps:Ln):Cust:=⟨1,yS d,ps.map jV,0,0,0,0,0⟩
def QG(n:Int)(l:Ln):Option (Cust × Bool):=match l with
 | []=>none
 | d :: ps=>if (jU d).isSome=true/\ps.all wM=true then some (Yc d ps,ps.all λw=>decide ((w.length:Int)=n)) else none
theorem Zdq(n:Int)(d:Wd)(ps:Ln):QG n (d :: ps)=if (jU d).isSome=true/\ps.all wM=true then some (Yc d ps,ps.all λw=>decide ((w.length:Int)=n)) else none:=rfl
def Xw(w:Wd):Int:=if w=ut then 1 else 2
def YP(l:Ln):Option Cust:=match l with
 | [a,b,c,r,h]=>if (jD [a,b,c,h]).isSome=true/\(r=ut\/r=uS) then some ⟨2,0,[],yS a,yS b,yS c,Xw r,yS h⟩ else none
 | _=>none
theorem Zdr(a b c r h:Wd):YP [a,b,c,r,h]=if (jD [a,b,c,h]).isSome=true/\(r=ut\/r=uS) then some ⟨2,0,[],yS a,yS b,yS c,Xw r,yS h⟩ else none:=rfl
def wd(n:Int)(l:Ln):Option (Cust × Bool):=match l with
 | []=>none
 | w :: l=>if w=vU then QG n l else if w=QF then (YP l).map (·,true) else none
instance:Inhabited (Cust × Bool):=⟨(default,false)⟩
def vp(n:Int)(l:Ln):Cust × Bool:=(wd n l).getD default
def vq(m:Nat)(l:Ln):Bool:=(jD l).isSome && decide (l.length=m)
def zT(ls:List Ln)(k:Nat):Ln:=ls.getD k []
def yU(ls:List Ln)(k n:Nat):List Ln:=(List.range n).map λi=>zT ls (k+i)
def YR(ls:List Ln):Option (Inst × Bool) :=
 if zT ls 0=[xX,[49]] then
  match qg (zT ls 1) [xY,xZ,x7,x8] with
  | some [d,v,c,l] =>
   match qg (zT ls 2) [x9] with
   | some [m] =>
    if (yU ls 3 m.toNat).all (λl=>(wd d l).isSome)=true/\zT ls (3+m.toNat)=[jt]/\(yU ls (4+m.toNat) (m.toNat+1)).all (vq (m.toNat+1))=true/\ls.length=5+2*m.toNat then
     some (⟨d,v,c,l,(yU ls 3 m.toNat).map λl=>(vp d l).1,(yU ls (4+m.toNat) (m.toNat+1)).map λl=>l.map yS⟩,(yU ls 3 m.toNat).all λl=>(vp d l).2)
    else none
   | _=>none
  | _=>none
 else none
def zI:Inst:=⟨0,0,0,0,[],[]⟩
def qw(t:List UInt8):Inst × Int:=match xU t with
 | none=>(zI,2)
 | some ls=>match YR ls with
  | none=>(zI,2)
  | some (x,ok)=>if ok=true/\yM x=true then (x,0) else (zI,3)
def zX(z:Int):Wd:=yc z.toNat
theorem ZE{z:Int}(h0:0<=z)(h1:z<100000000000000000):(jU (zX z)).isSome=true/\yS (zX z)=z:=by grind[ZhL,yS,zX]
def qG(n:Nat)(p:Nat):Wd:=(List.range n).map λi=>UInt8.ofNat (48+yF p i)
def qx(n:Nat)(c:Cust):Ln:=if c.kind=1 then vU :: zX c.demand :: c.pats.map (qG n) else [QF,zX c.rate,zX c.size,zX c.start,if c.rule=2 then uS else ut,zX c.hold]
def jW(x:Inst):List Ln :=
 [xX,[49]] :: [xY,zX x.days,xZ,zX x.veh,x7,zX x.cap,x8,zX x.len] :: [x9,yc x.cust.length] :: (x.cust.map (qx x.days.toNat)++[jt] :: x.dist.map (λr:List Int=>r.map zX))
def ZF(z:Int):Prop:=0<=z/\z<100000000000000000
structure CustT (n:Nat) (c:Cust):Prop where
 kind:(c.kind=1/\ZF c.demand/\(∀p∈c.pats,p<2 ^ n)/\c.rate=0/\c.size=0/\c.start=0/\c.rule=0/\c.hold=0)\/(c.kind=2/\c.demand=0/\c.pats=[]/\ZF c.rate/\ZF c.size/\ZF c.start/\(c.rule=1\/c.rule=2)/\ZF c.hold)
structure InstT (x:Inst) (n:Nat):Prop where
 days:x.days=n
 n1:1<=n
 n64:n<=64
 nums:ZF x.veh/\ZF x.cap/\ZF x.len
 ncust:x.cust.length<100000000000000000
 cust:∀c∈x.cust,CustT n c
 rows:x.dist.length=x.cust.length+1
 row:∀r∈x.dist,r.length=x.cust.length+1/\∀z∈r,ZF z
theorem ZaF(w:Wd)(i:Nat):∀k,(xK w k).testBit i=(decide (i<k/\i<64) && decide (w.getD i 0=49))
 | 0=>by simp[xK]
 | k+1=>by
  unfold xK;split
  ·rename_i h
   by_cases hk:k<64
   ·rw[Zsq _ _ _ ⟨by omega,by omega⟩,ZaF w i k]
    grind
   ·have:qk (xK w k) k=xK w k:=by unfold qk;rw[if_neg DQ]
    have e2:decide (i<k+1/\i<64)=decide (i<k/\i<64):=by rw[decide_eq_decide];omega
    rw[this,ZaF w i k,e2]
  ·rename_i h;rw[ZaF w i k]
   grind
theorem ZaG(w:Wd):∀k,xK w k<2 ^ 64
 | 0=>by show 0<2 ^ 64;decide
 | k+1=>by
  unfold xK;split
  ·exact Zah _ _ (ZaG w k)
  ·exact ZaG w k
theorem WK(n p:Nat):(qG n p).length=n:=by simp[qG]
theorem Zst(n p i:Nat)(h:i<n):(qG n p).getD i 0=UInt8.ofNat (48+yF p i):=by simp_all[qG]
theorem Zir(n p:Nat)(h:1<=n):wM (qG n p)=true:=by grind[wM,qG,WK,VM,YJ]
theorem Zsu(n p:Nat)(h1:1<=n)(hn:n<=64)(hp:p<2 ^ n):jV (qG n p)=p:=by
 unfold jV;rw[WK,if_neg DQ];apply Nat.eq_of_testBit_eq;intro i;rw[ZaF]
 by_cases hi:i<n
 ·rw[Zst n p i hi];have hb:=VM p i;have e:(UInt8.ofNat (48+yF p i)=49)<->yF p i=1:=by
   constructor
   ·intro e;have:=congrArg UInt8.toNat e;rw[YJ DQ]at this;have h49:(49:UInt8).toNat=49:=rfl;omega
   ·intro e;rw[e];rfl
  have hd:decide (i<n/\i<64)=true:=DV
  rw[hd,CY,CF];unfold yF at e ⊢;simp only[e]
 grind[Nat.testBit_lt_two_pow,Nat.lt_of_lt_of_le,Nat.pow_le_pow_right]
theorem Zsv{n:Nat}{c:Cust}(h1:1<=n)(hn:n<=64)(h:CustT n c):wd n (qx n c)=some (c,true):=by
 obtain⟨k,dm,ps,ra,si,st,ru,ho⟩:=c;rcases h.kind with ⟨k1,k2,k3,k4,k5,k6,k7,k8⟩ | ⟨k1,k2,k3,k4,k5,k6,k7,k8⟩
 ·simp only at k1 k2 k3 k4 k5 k6 k7 k8;subst k1 k4 k5 k6 k7 k8;obtain⟨d1,d2⟩:=ZE k2.1 k2.2;have e1:(ps.map (qG n)).all wM=true:=by
   rw[Ax];intro w hw;obtain⟨p,hp,rfl⟩:=Al.1 hw;exact Zir n p h1
  have e2:((ps.map (qG n)).all λw=>decide ((w.length:Int)=n))=true:=by
   rw[Ax];intro w hw;obtain⟨p,hp,rfl⟩:=Al.1 hw;simp[WK]
  have e3:(ps.map (qG n)).map jV=ps:=by
   rw[BT];refine(AQ λp hp=>?_).trans (C8 _);exact Zsu n p h1 hn (k3 p hp)
  unfold qx;rw[if_pos rfl]
  show QG n (zX dm :: ps.map (qG n))=_
  simp_all[Zdq,Yc]
 ·simp only at k1 k2 k3 k4 k5 k6 k7 k8;subst k1 k2 k3;obtain⟨a1,a2⟩:=ZE k4.1 k4.2;obtain⟨b1,b2⟩:=ZE k5.1 k5.2;obtain⟨c1,c2⟩:=ZE k6.1 k6.2;obtain⟨d1,d2⟩:=ZE k8.1 k8.2;have e1:(jD [zX ra,zX si,zX st,zX ho]).isSome=true:=by
   rw[WJ DZ];rfl
  have hcw:wd n (qx n ⟨2,0,[],ra,si,st,ru,ho⟩)=(YP [zX ra,zX si,zX st,if ru=2 then uS else ut,zX ho]).map (·,true):=rfl;rw[hcw,Zdr];rcases k7 with k7 | k7
  ·subst k7;rw[if_pos ⟨e1,.inl (if_neg DX)⟩,show (if (1:Int)=2 then uS else ut)=ut from rfl];simp only[AZ,a2,b2,c2,d2];rfl
  ·subst k7;rw[if_pos ⟨e1,.inr (if_pos rfl)⟩,show (if (2:Int)=2 then uS else ut)=uS from rfl];simp only[AZ,a2,b2,c2,d2];rfl
theorem Xx{α:Type}(a b:List α)(d:α)(k:Nat)(h:a.length=k)(i:Nat):(a++b).getD (k+i) d=b.getD i d:=DY
theorem Zis{α:Type}(l m:List α)(d:α):(List.range l.length).map (λi=>(l++m).getD i d)=l:=by apply A7<;>grind
theorem Zsw{x:Inst}{n:Nat}(h:InstT x n):YR (jW x)=some (x,true):=by
 obtain⟨dy,ve,ca,le,cu,di⟩:=x;obtain⟨h1,h2,h3,⟨h4,h5,h6⟩,h7,h8,h9,h10⟩:=h;simp only at h1 h4 h5 h6 h7 h8 h9 h10;subst h1;obtain⟨d1,d2⟩:=ZE (z:=(n:Int)) DQ DQ;obtain⟨v1,v2⟩:=ZE h4.1 h4.2;obtain⟨c1,c2⟩:=ZE h5.1 h5.2;obtain⟨l1,l2⟩:=ZE h6.1 h6.2;have m1:=ZhL cu.length h7;have hW:jW ⟨n,ve,ca,le,cu,di⟩=[xX,[49]] :: [xY,zX n,xZ,zX ve,x7,zX ca,x8,zX le] :: [x9,yc cu.length] :: (cu.map (qx n)++[jt] :: di.map (λr:List Int=>r.map zX)):=rfl;rw[hW];generalize hls:[xX,[49]] :: [xY,zX n,xZ,zX ve,x7,zX ca,x8,zX le] :: [x9,yc cu.length] :: (cu.map (qx n)++[jt] :: di.map (λr:List Int=>r.map zX))=ls;have hls3:ls=[[xX,[49]],[xY,zX n,xZ,zX ve,x7,zX ca,x8,zX le],[x9,yc cu.length]]++(cu.map (qx n)++[jt] :: di.map (λr:List Int=>r.map zX)):=by rw[<-hls];rfl
 have q0:zT ls 0=[xX,[49]]:=by rw[<-hls];rfl
 have q1:zT ls 1=[xY,zX n,xZ,zX ve,x7,zX ca,x8,zX le]:=by rw[<-hls];rfl
 have q2:zT ls 2=[x9,yc cu.length]:=by rw[<-hls];rfl
 have q3:yU ls 3 cu.length=cu.map (qx n):=by
  unfold yU zT;rw[hls3];have:(List.range cu.length).map (λi=>([[xX,[49]],[xY,zX n,xZ,zX ve,x7,zX ca,x8,zX le],[x9,yc cu.length]]++(cu.map (qx n)++[jt] :: di.map (λr:List Int=>r.map zX))).getD (3+i) [])=(List.range (cu.map (qx n)).length).map λi=>(cu.map (qx n)++[jt] :: di.map (λr:List Int=>r.map zX)).getD i []:=by
   rw[List.length_map];refine AQ λi _=>?_
   exact Xx _ _ _ 3 rfl i
  rw[this,Zis]
 have q4:zT ls (3+cu.length)=[jt]:=by
  unfold zT;rw[hls3,Xx _ _ _ 3 rfl];have:=Xx (cu.map (qx n)) ([jt] :: di.map (λr:List Int=>r.map zX)) [] cu.length DR 0;rw[Bz]at this;rw[this];rfl
 have q5:yU ls (4+cu.length) (cu.length+1)=di.map (λr:List Int=>r.map zX):=by
  unfold yU zT;have:(List.range (cu.length+1)).map (λi=>ls.getD (4+cu.length+i) [])=(List.range (di.map (λr:List Int=>r.map zX)).length).map λi=>(di.map (λr:List Int=>r.map zX)++[]).getD i []:=by
   rw[List.length_map,h9];refine AQ λi _=>?_
   rw[hls3,show 4+cu.length+i=3+(cu.length+(1+i)) by omega,Xx _ _ _ 3 rfl,Xx _ _ _ cu.length DR,AD];have:=Xx [[jt]] (di.map (λr:List Int=>r.map zX)) [] 1 rfl i;exact this
  rw[this,Zis]
 have q6:ls.length=5+2*cu.length:=by rw[hls3];simp;omega
 have n1:qg (zT ls 1) [xY,xZ,x7,x8]=some [(n:Int),ve,ca,le]:=by
  rw[q1];unfold qg;rw[if_pos (by simp[Jt,AK]),WJ (by intro w hw;simp[xA,AK]at hw;grind)];simp[xA,AK,d2,v2,c2,l2]
 have n2:qg (zT ls 2) [x9]=some [(cu.length:Int)]:=by
  rw[q2];unfold qg;rw[if_pos (by simp[Jt]),WJ (by intro w hw;simp[xA,AK]at hw;rw[hw,m1];rfl)];simp[xA,AK,yS,m1]
 have hc:∀c∈cu,wd n (qx n c)=some (c,true):=λc hc=>Zsv h2 h3 (h8 c hc)
 have r1:(cu.map (qx n)).all (λl=>(wd n l).isSome)=true:=by
  rw[Ax];intro l hl;obtain⟨c,hcm,rfl⟩:=Al.1 hl;rw[hc c hcm];rfl
 have hrow:∀r∈di,(jD (r.map zX)).isSome=true/\(r.map zX).map yS=r:=by
  intro r hr;have hz:=(h10 r hr).2;refine⟨?_,?_⟩
  ·rw[WJ];rfl;intro w hw;obtain⟨z,hzm,rfl⟩:=Al.1 hw;exact(ZE (hz z hzm).1 (hz z hzm).2).1
  ·rw[BT];refine(AQ λz hzm=>?_).trans (C8 _);exact(ZE (hz z hzm).1 (hz z hzm).2).2
 have r2:(di.map (λr:List Int=>r.map zX)).all (vq (cu.length+1))=true:=by
  rw[Ax];intro l hl;obtain⟨r,hr,rfl⟩:=Al.1 hl;simp[vq,(hrow r hr).1,(h10 r hr).1]
 have tn:((cu.length:Nat):Int).toNat=cu.length:=DR
 unfold YR;rw[if_pos q0,n1];simp only;rw[n2];simp only[tn,q3,q5,q4];rw[if_pos ⟨r1,trivial,r2,q6⟩];have e1:(cu.map (qx n)).map (λl=>(vp n l).1)=cu:=by
  rw[BT];refine(AQ λc hcm=>?_).trans (C8 _);simp only[Function.comp_apply,vp,hc c hcm];rfl
 have e2:(di.map (λr:List Int=>r.map zX)).map (λl=>l.map yS)=di:=by
  rw[BT];refine(AQ λr hr=>?_).trans (C8 _);exact(hrow r hr).2
 have e3:((cu.map (qx n)).all λl=>(vp n l).2)=true:=by
  rw[Ax];intro l hl;obtain⟨c,hcm,rfl⟩:=Al.1 hl;simp only[vp,hc c hcm];rfl
 rw[e1,e2,e3]
theorem Zsx:∀w∈[xX,xY,xZ,x7,x8,x9,vU,QF,ut,uS,jt,[49]],Zz w:=by
 intro w hw;rw[<-Zar];revert w;decide
theorem Zsy(n p:Nat)(h:1<=n):Zz (qG n p):=by
 have:=Zir n p h;simp only[wM,Av,decide_eq_true_eq,Ax]at this;exact⟨this.1,λc hc=>by grind⟩
theorem Zsz{x:Inst}{n:Nat}(h:InstT x n):(∀l∈jW x,l≠[])/\∀l∈jW x,∀w∈l,Zz w:=by
 have A:∀w,w∈[xX,xY,xZ,x7,x8,x9,vU,QF,ut,uS,jt,[49]]->Zz w:=Zsx;have hn1:=h.n1;have hnd:x.days.toNat=n:=by have:=h.days;omega
 constructor
 ·intro l hl;simp only[jW,As,Ay,Al]at hl;rcases hl with rfl | rfl | rfl | ⟨c,hc,rfl⟩ | rfl | ⟨r,hr,rfl⟩
  ·simp
  ·simp
  ·simp
  ·grind[qx]
  ·simp
  ·intro e;have:=(h.row r hr).1
   simp_all
 ·intro l hl w hw;simp only[jW,As,Ay,Al]at hl;rcases hl with rfl | rfl | rfl | ⟨c,hc,rfl⟩ | rfl | ⟨r,hr,rfl⟩
  ·grind
  ·simp only[As,Bi,or_false]at hw;rcases hw with rfl | rfl | rfl | rfl | rfl | rfl | rfl | rfl
   all_goals first | exact Qy _ | simp_all
  ·grind[Qy]
  ·unfold qx at hw;split at hw
   ·simp only[As,Al]at hw;rcases hw with rfl | rfl | ⟨p,hp,rfl⟩
    ·exact A _ DR
    ·exact Qy _
    simp_all[Zsy]
   ·simp only[As,Bi,or_false]at hw;rcases hw with rfl | rfl | rfl | rfl | rfl | rfl
    ·simp_all
    ·exact Qy _
    ·exact Qy _
    ·exact Qy _
    ·split<;>simp_all
    ·exact Qy _
  ·simp_all
  ·obtain⟨z,_,rfl⟩:=Al.1 hw;exact Qy _
theorem ZsA{x:Inst}{n:Nat}(h:InstT x n)(hm:yM x=true):qw (qM (jW x))=(x,0):=by grind[Zsz,qw,Zra,Zsw]
open Go Go.Proofs
abbrev vr:PV:=.sc (.slice none 0 0)
def vt(o:Option (List Int)):PV:=match o with
 | none=>.tup [vr,B false]
 | some l=>.tup [L l,B true]
theorem ZsB(l:List (List UInt8))(hl:l.length<=1048576)(hw:∀w∈l,w.length<=1099511627776):Pure prog 192 [L (l.map bs),.fn (.func 109) [] []] (vt (jD l)):=by
 obtain⟨zs,hzs⟩:∃zs:List Int,zs=l.map yS:=⟨_,rfl⟩;have hzl:zs.length=l.length:=by rw[hzs,List.length_map]
 have hwl:(l.map bs).length=l.length:=DR
 have hat:∀(k:Nat) (w:List UInt8),l[k]?=some w->zs[k]?=some (yS w)/\(l.map bs)[k]?=some (bs w):=λk n e=>⟨by rw[hzs,Aj,e];rfl,by rw[Aj,e];rfl⟩
 have hres:(∀w∈l,(jU w).isSome=true)->jD l=some zs:=λh=>by rw[WJ h,hzs]
 generalize l.map bs=ws at *;refine zr func192 ntmps192 results192 λS nx hd=>?_
 refine D0 ?_;refine D0 ?_;refine⟨by omega,λv0=>?_⟩
 repeat apply za
 refine zb ?_;refine zj (zC (λs:Nat × Nat × List PV=>(s.1<=zs.length/\∀w∈l.take s.1,(jU w).isSome=true)/\s.2.2.take s.1=(zs.take s.1).flatMap Enc.enc/\s.1<=s.2.2.length/\(0<s.1->s.2.2.length=s.1)/\(zs.length=0->s.2.2=[])) (λ(k,w,cs)=>[(1,.fn (.func 109) [] []),(6,.sl nx w 1 0 k),(14,L ws),(15,I ws.length),(16,I k)]) (λ(k,w,cs)=>[.cells w 3 cs]) (λs=>zs.length-s.1) (0,v0,_) [] ⟨⟨by simp,by simp⟩,by simp,by simp,λh=>absurd h (CE _),?_⟩ DR rfl ?_)
 ·intro h;have:ws.length=0:=DQ
  simp[this,y8]
 rintro⟨k,w,cs⟩ ⟨⟨hk,hso⟩,hcs,hkl,hk1,hk0⟩;simp only at hk hso hcs hkl hk1 hk0 ⊢;refine D0 ?_;refine za (zv rfl (λhc=>?_) (λhc=>?_))
 ·simp at hc;obtain⟨u,hu1⟩:∃u,l[k]?=some u:=⟨_,Af DQ⟩;obtain⟨g1,g2⟩:=hat k u hu1;obtain⟨t,tl,b1,b2,b3,f0⟩:=zE rfl ws k hc;obtain rfl:t=bs u:=by rw[b1]at g2;exact Option.some.inj g2
  have hnum:=ZhO u (hw u (Ab hu1));refine zh (za (zj (za (ze [] (zo f0 hc) ?_))));cases hz:jU u with
  | none =>
   rw[hz]at hnum;simp only[Xp]at hnum;refine D0 ?_;refine zt hnum ?_
   repeat apply za
   refine zb ?_;refine zk DR ?_;refine D0 ?_;exact zg (zi hd DT (by rw[Zss hu1 hz];rfl))
  | some n =>
   rw[hz]at hnum;simp only[Xp]at hnum;have hnv:yS u=n:=by unfold yS;rw[hz];rfl
   rw[hnv]at g1;have hnx:(zs.take (k+1)).flatMap Enc.enc=cs.take k++[I n]:=by rw[hcs,AG,g1,Ar];rfl
   have hso':∀w∈l.take (k+1),(jU w).isSome=true:=by
    rw[AG,hu1];intro w hw;rw[Ay]at hw;rcases hw with hw | hw
    ·exact hso w hw
    ·obtain rfl:w=u:=by simpa using hw
     rw[hz];rfl
   refine D0 ?_;refine zt hnum ?_
   repeat apply za
   refine zb ?_;refine zm rfl (zh (ze [] hkl ?_));refine⟨by omega,?_⟩;refine zb ?_;exact zq (k+1,w+1,cs.take k++[I n]) [] ⟨⟨by simp;omega,hso'⟩,by rw[hnx];exact Ae DV,by simp;omega,λ_=>by simp;omega,λh=>by omega⟩ DV (by simp[zu k (by omega)]) rfl DR
 ·simp at hc;obtain rfl:k=zs.length:=DQ
  rw[Ae DQ]at hso;have hcl:cs.length=zs.length:=by
   rcases BX zs.length with h | h
   ·rw[hk0 h,h];rfl
   ·exact hk1 h
  have hcz:cs=zs.flatMap Enc.enc:=by
   rw[Ai,Ae DQ]at hcs;exact hcs
  refine zx (zZ 0 rfl ?_);refine za (ze [] hcl ?_);exact zg (zi hd DT (by simp[zn,hcz,hres hso,vt]))
theorem Zds(l:List (List UInt8))(hl:l.length<=1048576)(hw:∀w∈l,w.length<=1099511627776):Pure prog 144 [L (l.map bs)] (vt (jD l)):=by
 have h:=ZsB l hl hw;cases hz:jD l with
 | none =>
  rw[hz]at h;simp only[vt]at h ⊢;refine zr func144 ntmps144 results144 λS nx hd=>?_
  refine D0 ?_;refine D0 ?_;refine zt h ?_;exact D1 hd
 | some z =>
  rw[hz]at h;simp only[vt]at h ⊢;refine zr func144 ntmps144 results144 λS nx hd=>?_
  refine D0 ?_;refine D0 ?_;refine zt h ?_;exact D1 hd
open Go Go.Proofs
theorem ZsC{P:Program}{f:FuncId}{v:Value}(vs:List Value)(hE:qr P f)(h:∀w,Calls P f vs.toArray w λe w'=>e=.returned v/\w'=w):Pure P f (vs.map .sc) (.sc v):=by
 intro S;refine⟨hE,λC w us hS hl hr=>?_⟩;have hus:us=vs.toArray:=by
  apply Array.ext
  ·simp_all
  ·intro i h1 h2;have hi:i<vs.length:=by simpa using h2
   have:=hr i (.sc vs[i]) us[i] DR (AW h1);generalize us[i]=u at this;cases this;simp
 subst hus;refine(h w).mono ?_;rintro e w' ⟨rfl,rfl⟩;exact⟨_,_,S,C,rfl,⟨rfl,rfl⟩,.sc _,hS,.refl _ _ _⟩
theorem Zit(s:List UInt8)(c:UInt8):Pure prog 222 [T (bs s),T (bs [c])] (I (Lib.indexByte s c)) :=
 ZsC [.string (bs s),.string (bs [c])] Zlo λw=>stringslite_Index_one (bs s) c w
theorem Ziu(a b:List UInt8)(c:UInt8)(h:c ∉ a):Lib.indexByte (a++c :: b) c=a.length:=by induction a<;>grind[Lib.indexByte]
theorem ZaH(l:List UInt8)(i j:Nat):(bs l).extract i j=bs ((l.take j).drop i):=by
 apply ByteArray.ext;simp[List.drop_take]
theorem ZsD(a b:List UInt8)(c:UInt8)(h:c ∉ a)(hl:(a++c :: b).length<=4611686018427387904):Pure prog 189 [T (bs (a++c :: b)),T (bs [c])] (.tup [T (bs a),T (bs b),B true]):=by
 have hI:=Zit (a++c :: b) c;rw[Ziu a b c h]at hI;have hx1:(bs (a++c :: b)).extract 0 a.length=bs a:=by rw[ZaH];simp
 have hx2:(bs (a++c :: b)).extract (a.length+1) (bs (a++c :: b)).size=bs b:=by
  rw[ZaH,vk,Ai,show a++c :: b=(a++[c])++b by simp,List.drop_left' DR]
 have hsz:(bs (a++c :: b)).size=a.length+1+b.length:=by rw[vk];simp;omega
 have hs1:(bs [c]).size=1:=rfl;rw[hsz]at hx2;have hw:W ((a.length:Int)+1)=((a.length+1:Nat):Int):=zu _ (by simp at hl;omega);generalize bs (a++c :: b)=X at *;generalize bs [c]=Y at *;generalize a.length=n at *;refine zr func189 ntmps189 results189 λS nx hd=>?_
 refine D0 ?_
 repeat apply za
 refine zb ?_;refine zt hI ?_;refine D0 ?_;refine zk DR ?_;have hb1:n<=n+1+b.length:=DQ
 have hb2:n+1<=n+1+b.length:=DQ
 have hb3:(0:Int)<=(n:Int)+1:=DQ
 refine za (zz none (Row.pures [0,1,2,3,4,5,6,7,8,9,10,11] .done) mixed (zP hx1 hx2 hsz hs1 hw (zA hb1 hb2 hb3)) ?_);exact D1 hd
theorem Ziv(a:List UInt8)(c:UInt8)(h:c ∉ a):Lib.indexByte a c=-1:=by induction a<;>grind[Lib.indexByte]
theorem ZsE(a:List UInt8)(c:UInt8)(h:c ∉ a):Pure prog 189 [T (bs a),T (bs [c])] (.tup [T (bs a),T (bs []),B false]):=by
 have hI:=Zit a c;rw[Ziv a c h]at hI;generalize bs a=X at *;generalize bs [c]=Y at *;refine zr func189 ntmps189 results189 λS nx hd=>?_
 refine D0 ?_
 repeat apply za
 refine zb ?_;refine zt hI ?_;refine D0 ?_;refine zm DR ?_;refine zh (D0 ?_);exact zg (zi hd rfl rfl)
def Zdt(c:UInt8)(s:List UInt8):PV:=match xz c s with
 | some (a,b)=>.tup [T (bs a),T (bs b),B true]
 | none=>.tup [T (bs s),T (bs []),B false]
theorem ZsF(s:List UInt8)(c:UInt8)(hl:s.length<=4611686018427387904):Pure prog 136 [T (bs s),T (bs [c])] (Zdt c s):=by
 unfold Zdt;cases hcw:xz c s with
 | none =>
  have hc:=ZsE s c (Zc4 hcw);simp only[];refine zr func136 ntmps136 results136 λS nx hd=>?_
  refine D0 ?_;refine D0 ?_;refine zt hc ?_;exact D1 hd
 | some p =>
  obtain⟨a,b⟩:=p;obtain⟨rfl,hna⟩:=Xo hcw;have hc:=ZsD a b c hna hl;simp only[];clear hcw;refine zr func136 ntmps136 results136 λS nx hd=>?_
  refine D0 ?_;refine D0 ?_;refine zt hc ?_;exact D1 hd
theorem Ziw(c:UInt8):∀(k:Nat) (s:List UInt8),s.count c<=k->Lib.splitB (bs [c]) 0 k (bs s)=(yY c s).map bs
 | k,s,hk=>by
  rw[Zq4];cases h:xz c s with
  | none =>
   grind[Lib.index_one,Ziv,Zc4,Lib.splitB_miss]
  | some p =>
   obtain⟨a,b⟩:=p;obtain⟨rfl,hna⟩:=Xo h;have hn:Lib.indexB (bs (a++c :: b)) (bs [c])=a.length:=(Lib.index_one _ c).trans (Ziu a b c hna);rw[List.count_append,List.count_cons_self]at hk
   match k,hk with
   | k+1,hk =>
   have ih:=Ziw c k b DQ;have hs1:(bs [c]).size=1:=rfl;rw[Lib.splitB_hit _ _ _ _ _ hn,hs1,ZaH,ZaH,vk,Ai,show a++c :: b=(a++[c])++b by simp,List.drop_left' DR,ih];simp
theorem ZsG(c:UInt8)(s:List UInt8):(yY c s).length=s.count c+1:=by induction s<;>grind[yY]
theorem ZsH(s:List UInt8)(c:UInt8)(hl:s.length<=1048576):Pure prog 190 [T (bs s),T (bs [c]),I 0,I (-1)] (L ((yY c s).map bs)):=by
 intro S;refine⟨Zll,λC w us hS hl' hr=>?_⟩;obtain⟨u0,u1,u2,u3,rfl⟩:∃a b c d,us=#[a,b,c,d]:=by
  match us,hl' with
  | ⟨[a,b,c,d]⟩,_=>simp
 have hsz1:(bs [c]).size=1:=rfl;have r0:=hr 0 _ u0 rfl rfl;have r1:=hr 1 _ u1 rfl rfl;have r2:=hr 2 _ u2 rfl rfl;have r3:=hr 3 _ u3 rfl rfl;cases r0;cases r1;cases r2;cases r3;have hcb:Lib.countB (bs s) (bs [c])=s.count c:=Lib.count_one c s;have hcl:s.count c<=s.length:=List.count_le_length;have main:=Any.strings_genSplit_core lays221 DU (bs s) (bs [c]) 0 (-1) (s.count c+1) w (by rw[vk];omega) DQ (BK _)
  (λx ce _=>(strings_Index_one x c _).mono λe w' h=>⟨by grind[Lib.index_one],h.2⟩)
  ((strings_Count_one (bs s) c w).mono λe w' h=>⟨by rw[h.1,hcb];rfl,h.2⟩)
  DX DX (by grind[vk])
 rw[B0,Ziw c _ s (Ag _)]at main;refine main.mono ?_;rintro e w' ⟨rfl,rfl⟩;obtain⟨t1,t2,t3⟩:=hS.alloc (.cells (Lib.cellsOf ((yY c s).map bs) (s.count c+1)) (lays221_ren.t 9));have hlen:((yY c s).map bs).length=s.count c+1:=by rw[List.length_map];exact ZsG c s
 refine⟨_,_,S,C,rfl,⟨rfl,rfl⟩,?_,t1,t2⟩;clear main hcb;generalize (yY c s).map bs=l at *;generalize hN:s.count c+1=N at *;have hcells:Lib.cellsOf l N=(l.map Value.string).toArray:=by unfold Lib.cellsOf;rw[hlen,BA];simp
 have hfl:l.flatMap Enc.enc=l.map T:=by
  clear hcells hlen t1 t2
  induction l with
  | nil=>rfl
  | cons x l ih=>simp_all
 rw[hcells]at t1 t2 ⊢;unfold L;rw[hfl];refine .lst1 DQ (by unfold jY;omega) (Ym w _) t3 (λ_=>by simp) (λi v hi hv=>?_) (λi p v hp hv=>?_)
 ·rw[AC,AR,Aj]at hv;obtain⟨x,_,rfl⟩:=Ao.1 hv;rfl
 ·rw[AC,AR,Aj]at hv;rw[Aj]at hp;obtain⟨x,hx,rfl⟩:=Ao.1 hv;rw[hx]at hp;cases hp;exact .sc _
theorem ZsI(s:List UInt8)(c:UInt8)(hl:s.length<=1048576):Pure prog 137 [T (bs s),T (bs [c])] (L ((yY c s).map bs)):=by
 have h:=ZsH s c hl;refine zr func137 ntmps137 results137 λS nx hd=>?_
 refine D0 ?_;refine D0 ?_;refine zt h ?_;exact D1 hd
open Go Go.Proofs
abbrev wl(ls:List (List (List UInt8))):List (List ByteArray):=ls.map (·.map bs)
def ZaI(o:Option (List (List (List UInt8)))):PV:=match o with
 | none=>.tup [vr,I 2]
 | some ls=>.tup [L (wl ls),I 0]
theorem Zdu(a:ByteArray):jO .neq a a=some (.bool false):=by simp[jO]
theorem Zdv{a b:ByteArray}(h:a≠b):jO .neq a b=some (.bool true):=by
 have h2:¬a.toList=b.toList:=λe=>h (Zc8 e)
 simp[jO,h2]
theorem ZsJ(t:List UInt8)(hl:t.length<=1048576):Pure prog 101 [T (bs t)] (ZaI (xU t)):=by
 refine zr func101 ntmps101 results101 λS nx hd=>?_
 refine D0 ?_;refine D0 ?_;refine za (qt 4 81 1 rfl λv1=>?_);refine zj (zC (λs:List UInt8 × List (List (List UInt8)) × Nat=>s.1.length<=t.length/\s.2.1.length+s.1.length<=t.length/\xU t=(xU s.1).map (s.2.1++·)) (λ(r,ls,v)=>[(0,T (bs r)),(4,.sl nx v 1 0 ls.length)]) (λ(r,ls,v)=>[.cells v 81 ((wl ls).flatMap Enc.enc)]) (λs=>s.1.length) (t,[],v1) [] ⟨Ag _,by simp,by simp⟩ DR DR ?_);rintro⟨r,ls,v1⟩ ⟨hr,hlr,hz⟩;simp only at hr hlr hz ⊢;have hrl:r.length<=1048576:=DQ
 by_cases h0:r=[]
 ·subst h0
  repeat apply za
  refine ze [] Zdu ?_;refine zm DR ?_;refine zx (zZ 0 rfl ?_);refine D0 ?_;rw[Zas]at hz;exact zg (zi hd DT (by simp[zn,hz,ZaI]))
 ·have hne:bs r≠bs []:=λh=>h0 (ZhN.1 h)
  have hcut:=ZsF r 10 DQ;unfold Zdt at hcut
  repeat apply za
  refine ze [] (Zdv hne) ?_;refine zk DR ?_;refine zh (zj ?_);cases hcw:xz 10 r with
  | none =>
   rw[hcw]at hcut;simp only[]at hcut;refine D0 ?_;refine zt hcut ?_
   repeat apply za
   refine zb ?_;refine zk DR ?_;refine D0 ?_;exact zg (zi hd DT (by rw[hz,ZhI h0 hcw];rfl))
  | some p =>
   obtain⟨a,b⟩:=p;rw[hcw]at hcut;simp only[]at hcut;have hlz:=Zat hcw;obtain⟨hrab,hna⟩:=Xo hcw;have hab:a.length+b.length+1=r.length:=by rw[hrab];simp;omega
   have hspl:=ZsI a 32 DQ;have hsl:=Zq5 32 a;have hsw:∀w∈yY 32 a,w.length<=1048576:=λw hw=>by have:=Zq6 32 a w hw;omega
   obtain⟨ws,hws⟩:∃ws,ws=yY 32 a:=⟨_,rfl⟩;rw[<-hws]at hlz hspl hsl hsw;refine D0 ?_;refine zt hcut ?_
   repeat apply za
   refine zb ?_;refine zm DR ?_;refine zh (D0 ?_);refine zt hspl ?_
   repeat apply za
   refine zb ?_;refine zj (zC (λk:Nat=>k<=ws.length/\∀w∈ws.take k,ZA w=true) (λk=>[(4,.sl nx v1 1 0 ls.length),(6,T (bs b)),(8,L (ws.map bs)),(23,L (ws.map bs)),(24,I ws.length),(25,I k)]) (λ_=>[.cells v1 81 ((wl ls).flatMap Enc.enc)]) (λk=>ws.length-k) 0 [] DR DR DR ?_);rintro k ⟨hk,hwk⟩;refine D0 ?_;refine za (zv rfl (λhc=>?_) (λhc=>?_))
   ·simp at hc;obtain⟨t',tl,b1,b2,b3,f0⟩:=zE rfl (ws.map bs) k (by simpa using hc);obtain⟨u,hu,rfl⟩:∃u,ws[k]?=some u/\bs u=t':=by rw[Aj]at b1;simpa using b1
    have hkl:k<ws.length:=by simpa using hc
    have hword:=Zrf u (by have:=hsw u (Ab hu);omega);refine zh (za (zj (za (ze [] (zo f0 hkl) ?_))));refine D0 ?_;refine zt hword ?_;cases hwb:ZA u with
    | false =>
     refine zk DR ?_;refine D0 ?_;have hbad:xU r=none:=Zq8 hcw (k:=k) (w:=u) (by rw[<-hws];exact hu) hwb;exact zg (zi hd DT (by rw[hz,hbad];rfl))
    | true =>
     refine zm DR ?_;refine zh (zb ?_);exact zq (k+1) [] ⟨hkl,by
      rw[AG,hu];intro w hw;rw[Ay]at hw;rcases hw with hw | hw
      ·exact hwk w hw
      ·obtain rfl:w=u:=by simpa using hw
       exact hwb⟩ DQ (by simp[zu k (by omega)]) rfl DR
   ·simp at hc;obtain rfl:k=ws.length:=DQ
    rw[Ai]at hwk;rw[if_pos (Ax.2 hwk)]at hlz;refine zx ?_;have hwl:(wl ls).length=ls.length:=DR
    have htk:((wl ls).flatMap Enc.enc).take ls.length=(wl ls).flatMap Enc.enc:=by rw[<-hwl];exact Zk0 _
    refine za (ze [] hwl ?_);refine⟨by omega,?_⟩;refine zb ?_;rw[htk];have hb1:b.length<r.length:=DQ
    exact zq (b,ls++[ws],v1+1) [] ⟨AB (DP hb1) hr,by simp;omega,by rw[hz,hlz,Option.map_map];congr 1;funext x;simp⟩ hb1 DR rfl DR
open Go Go.Proofs Go.RowKit Go.Shelf
theorem ZsK{C:Ctx}{S:Store}{w:World}{b:UInt8}{v:Value}(h:Rel C S w (U8 b) v):v=.int .u8 (b.toNat:Int):=by cases h;rfl
theorem ZsL(k:Nat)(hk:2<=k):liesAt prog prog.depth 113 (k / prog.cellsOf 113) 0 113 1=true:=by
 have hc:prog.cellsOf 113=2:=DU
 have hl:sameLayout prog prog.depth 113 113=true:=DU
 obtain⟨d,hd⟩:∃d,prog.depth=d+1:=⟨prog.depth-1,by kernel_rfl⟩;have h1:1<=k / 2:=DQ
 simp_all[liesAt,rowAt]
theorem ZsM(b k:Nat)(w:World)(h0:w.cell? ⟨b,0,none⟩=some (.pointer none))(hsh:w.shape? b=some (113,k))(hk:2<=k)(hfz:w.frozen? ⟨b,0,none⟩=false):
  Calls prog 98 #[.pointer (some ⟨b,0,none⟩)] w λe w'=>e=.returned (.tuple #[])/\w'=w.setCell ⟨b,0,none⟩ (.pointer (some ⟨b,0,none⟩)):=by
 obtain⟨j,hj,hjs⟩:∃j,prog.info? 113=some j/\j.size=2:=by
  have:(prog.info? 113).map (·.size)=some 2:=DU
  exact Ao.1 this
 go_enter func98,ntmps98
 go_wp2
 rw[Lib.run_to_unsafe w ⟨b,0,none⟩ underlying110 underlying191 hj (by rw[hjs];decide) hsh (by show 0<k;omega)];simp only[Result.andThen];rw[Oper.upon_value]
 go_wp2
 rw[run_callFunc_extern func134 DU DU DU (e:=Extern.AbiNoEscape.same) DU];rw[Lib.run_noEscape];simp only[Result.andThen];rw[Oper.upon_value]
 go_wp2
 rw[Lib.run_from_unsafe w ⟨b,0,none⟩ underlying191 underlying110 hj hsh (ZsL k hk)];simp only[Result.andThen];rw[Oper.upon_value]
 go_wp2
 go_end0
 simp
theorem Yd(S:Store)(o:Nat)(x:Ob)(h:S o=x):S.set o x=S:=by grind[Store.set]
theorem Zdw{vs:Array Value}(h:1=vs.size):∃v,vs=#[v]:=by
 match vs,h with
 | ⟨[v]⟩,_=>simp
theorem Zix{vs:Array Value}(h:2=vs.size):∃u v,vs=#[u,v]:=by
 match vs,h with
 | ⟨[u,v]⟩,_=>simp
theorem Zdx{C:Ctx}{S:Store}{w:World}(hS:Sim C S w){id v e:Nat}{p s:PV}(h:S id=.cells v e [p,s]):∃(b k:Nat) (c:Array Value) (c0 c1:Value),C.loc id=some (b,k)/\w.heap[b]?=some (.cells c e (0,0))/\c.size=k/\2<=k/\c[0]?=some c0/\c[1]?=some c1/\Rel C S w p c0/\Rel C S w s c1 /\
  (∀(i:Nat) (u:Value),i<2->c[i]?=some u->u.oneCell'=true):=by
 rcases hS.cells id v e _ h with ⟨_,hn⟩ | ⟨b,k,c,g1,g2,g3,g4,g5,g6⟩
 ·cases hn
 ·simp only[Ad,Ah]at g4;have e0:c[0]?=some (c[0]' DQ):=AW DQ
  grind
theorem Ziy{S:Store}{id v:Nat}{p s:PV}(hS:S id=.cells v 113 [p,s])(hp:p=.sc (.pointer none)\/p=.ptr id v 0):
  Spec prog 98 [.ptr id v 0] S (λ_ S'=>S'=S.set id (.cells v 113 [.ptr id v 0,s])):=by
 refine⟨qn func98 DW rfl,?_⟩;intro C w vs hC hl hr;obtain⟨u,rfl⟩:=Zdw hl;have hu:=hr 0 _ u rfl rfl;cases hu with
 | ptr h1 h2 h3 =>
  obtain⟨b,k,hloc,rfl⟩:=(h3 v (by rw[hS];rfl)).2 rfl;obtain⟨b',k',c,c0,c1,g1,g2,g3,g4,e0,e1,r0,r1,g5⟩:=Zdx hC hS;rw[hloc]at g1;cases g1;have hcell:w.cell? ⟨b,0,none⟩=some c0:=by simp[World.cell?,g2,e0]
  have hself:Rel C S w (.ptr id v 0) (.pointer (some ⟨b,0,none⟩)):=.ptr h1 h2 h3;rcases hp with rfl | rfl
  ·cases r0;refine(ZsM b k w hcell (by simp_all[World.shape?]) g4 (by simp_all[World.frozen?])).mono ?_;rintro e w' ⟨rfl,rfl⟩;have hh:(w.setCell ⟨b,0,none⟩ (.pointer (some ⟨b,0,none⟩))).heap[b]?=some (.cells (c.setIfInBounds 0 (.pointer (some ⟨b,0,none⟩))) 113 (0,0)):=by
    simp[World.setCell,BB,g2]
   obtain⟨t1,t2⟩:=hC.turn (l:=C.loc id) (ver':=v) (cs':=[.ptr id v 0,s]) hS (Ag _) (λ_=>rfl) (w':=w.setCell ⟨b,0,none⟩ (.pointer (some ⟨b,0,none⟩)))
    (by rw[hloc];exact⟨⟨rfl,rfl,rfl,by simp,λj _ hj=>by grind[World.setCell]⟩,Ag _⟩)
    (.inr ⟨b,k,_,hloc,.inr (by rw[hloc];rfl),hh,by simp[g3],g4,λi u hi hu=>by
      match i,hi with
      | 0,_=>rw[BW DQ]at hu;cases hu;rfl
      | 1,_=>grind,
     λi q u hq hu=>by grind⟩)
   exact⟨.junk,_,_,_,rfl,rfl,.junk _,t1,t2⟩
  ·have hc0:c0=.pointer (some ⟨b,0,none⟩):=by
    cases r0 with
    | ptr i1 i2 i3 =>
     obtain⟨b2,k2,hl2,rfl⟩:=(i3 v (by rw[hS];rfl)).2 rfl
     simp_all
   subst hc0;refine(Any.Builder_copyCheck_used { lays156 with } Builder_Extra_156.toX72 b w hcell).mono ?_;rintro e w' ⟨rfl,rfl⟩;exact⟨.junk,_,_,_,rfl,(Yd S id _ hS).symm,.junk _,hC,.refl _ _ _⟩
theorem Sim.lose{C:Ctx}{S:Store}{w w':World}{id:Nat}(h:Sim C S w)(hne:S id≠.dead)(hg:w.grownBy w' ((C.loc id).map (·.1))/\w.drawn<=w'.drawn):Sim C (S.set id .dead) w'/\Step C S w C (S.set id .dead) w':=by
 have hold:∀o,(S.set id .dead) o≠.dead->o≠id/\(S.set id .dead) o=S o:=by
  intro o ho
  by_cases e:o=id
  ·simp_all
  ·simp_all[q10]
 have hfar:∀i b k,i≠id->S i≠.dead->C.loc i=some (b,k)->some b≠(C.loc id).map (·.1):=by
  intro i b k hi hd hb he;cases ho:C.loc id with
  | none=>simp_all
  | some x =>
   obtain⟨b2,k2⟩:=x;rw[ho]at he;cases he;exact hi (h.dist i id _ _ _ hd hne hb ho)
 have st:Step C S w C (S.set id .dead) w':=by
  refine⟨hg.1.os,⟨hg.1.tape,hg.2⟩,hg.1.output,hg.1.size,Ag _,Ag _,λb hlt hM=>⟨hg.1.block b hlt λe=>?_,?_⟩,λo v1 hv=>?_⟩
  ·cases ho:C.loc id with
   | none=>simp_all
   | some x =>
    obtain⟨b2,k2⟩:=x;rw[ho]at e;cases e;exact hM ⟨id,k2,hne,ho⟩
  ·rintro⟨o,k,ho,hl⟩;obtain⟨e1,e2⟩:=hold o ho;rw[e2]at ho;exact hM ⟨o,k,ho,hl⟩
  ·obtain⟨e1,e2⟩:=hold o (by intro e;rw[e]at hv;cases hv)
   simp_all
 refine⟨⟨λo ho=>?_,λo v hv=>?_,λo o' b k k' h1 h2 h3 h4=>?_,λo v e cs ho=>?_,λo v es ho=>?_⟩,st⟩
 ·obtain⟨e1,e2⟩:=hold o ho;rw[e2]at ho;exact h.lt o ho
 ·obtain⟨e1,e2⟩:=hold o (by intro e;rw[e]at hv;cases hv);rw[e2]at hv;exact h.clk o v hv
 ·obtain⟨e1,e2⟩:=hold o h1;obtain⟨e3,e4⟩:=hold o' h2;rw[e2]at h1;rw[e4]at h2;exact h.dist o o' b k k' h1 h2 h3 h4
 ·obtain⟨e1,e2⟩:=hold o (by rw[ho];simp);rw[e2]at ho;rcases h.cells o v e cs ho with hn | ⟨b,k,c,g1,g2,g3,g4,g5,g6⟩
  ·exact .inl hn
  ·exact .inr ⟨b,k,c,g1,(hg.1.block b (qy g2) (hfar o b k e1 (by rw[ho];simp) g1)).trans g2,g3,g4,g5,λi p u hp hu=>(g6 i p u hp hu).mono st⟩
 ·obtain⟨e1,e2⟩:=hold o (by rw[ho];simp);rw[e2]at ho;obtain⟨b,k,ms,cl,g1,g2,g3,g4⟩:=h.maps o v es ho;exact⟨b,k,ms,cl,g1,(hg.1.block b (qy g2) (hfar o b k e1 (by rw[ho];simp) g1)).trans g2,g3,λi x m he hm=>⟨(g4 i x m he hm).1,(g4 i x m he hm).2.mono st⟩⟩
theorem ZsN(b g cap:Nat)(c cur:Array Value)(l:List UInt8)(w:World)(hbk:w.heap[b]?=some (.cells c 113 (0,0)))(h1:c[1]?=some (.slice (some ⟨g,0,none⟩) l.length cap))(h0:l≠[])(hlen:l.length<=140737488355328)
  (hg:w.heap[g]?=some (.cells cur 5 (0,0))) (hcur:l.length<=cur.size) (hcap:l.length<=cap) (hcell:∀(j:Nat) (x:UInt8),l[j]?=some x->cur[j]?=some (.int .u8 (x.toNat:Int))) :
  Calls prog 64 #[.pointer (some ⟨b,0,none⟩)] w λe w'=>e=.returned (.string (bs l))/\w'=w.drew.freeze ⟨g,0,none⟩ l.length:=by
 have hl0:l.length≠0:=by simpa using h0
 have c1:w.drew.cell? ⟨b,1,none⟩=some (.slice (some ⟨g,0,none⟩) l.length cap):=by
  have:w.drew.heap[b]?=some (.cells c 113 (0,0)):=hbk;rw[Lib.cell_of_heap this];exact h1
 have hg':w.drew.heap[g]?=some (.cells cur 5 (0,0)):=hg;have hSD:(Builtin.unsafeSliceData_ #[111] 161 #[.slice (some ⟨g,0,none⟩) l.length cap]).run prog w.drew=.ok (.pointer (some ⟨g,0,none⟩)) w.drew :=
  Lib.run_unsafeSliceData_row _ _ _ _ _ _ DQ
 have hUS:(Builtin.unsafeString_ #[161,3] 9 #[.pointer (some ⟨g,0,none⟩),.int .i64 l.length]).run prog w.drew=.ok (.string (bs l)) (w.drew.freeze ⟨g,0,none⟩ l.length):=by
  refine Lib.run_unsafeString_row w.drew 161 3 9 5 underlying161 DR g cur.size (by simp_all[World.shape?]) l h0 hcur DQ ?_;intro j x hx;rw[Addr.add_plain,AR];simp[World.cell?,hg',hcell j x hx]
 go_enter func64,ntmps64
 go_wp2
 go_region
 all_goals (go_wp2;go_ret;simp)
theorem ZsO{S:Store}{id v ib w0:Nat}{p:PV}(l:List UInt8)(hS:S id=.cells v 113 [p,.sl ib w0 1 0 l.length])(hB:S ib=.cells w0 5 (l.map U8))(h0:l≠[])(hlen:l.length<=140737488355328):
  Spec prog 64 [.ptr id v 0] S (λq S'=>q=T (bs l)/\S'=S.set ib .dead):=by
 refine⟨qn func64 DW rfl,?_⟩;intro C w vs hC hl hr;obtain⟨u,rfl⟩:=Zdw hl;have hu:=hr 0 _ u rfl rfl;have hl0:l.length≠0:=by simpa using h0
 cases hu with
 | ptr h1 h2 h3 =>
  obtain⟨b,k,hloc,rfl⟩:=(h3 v (by rw[hS];rfl)).2 rfl;obtain⟨b',k',c,c0,c1,g1,g2,g3,g4,e0,e1,r0,r1,g5⟩:=Zdx hC hS;rw[hloc]at g1;cases g1;cases r1 with
  | sl i1 i2 i3 =>
   rcases (i3 w0 (by rw[hB];rfl)).2 rfl with ⟨_,q,_⟩ | ⟨g,kg,ad,cap,hlg,rfl,hq0,hq1⟩
   ·omega
   obtain⟨rfl,hq⟩:=hq0 rfl;obtain⟨a1,cp,e2,c3,_⟩:=i1;cases e2;rcases hC.cells ib w0 _ _ hB with ⟨hn,_⟩ | ⟨b2,k2,cur,f1,f2,f3,f4,f5,f6⟩
   ·simp_all
   rw[hlg]at f1;cases f1;rw[List.length_map]at f4;have hcell:∀(j:Nat) (x:UInt8),l[j]?=some x->cur[j]?=some (.int .u8 (x.toNat:Int)):=by
    intro j x hx;have hj:=(Ac.1 hx).1;have hc:=AW (xs:=cur) (i:=j) DQ;rw[hc,ZsK (f6 j (U8 x) _ DY hc)]
   refine(ZsN b g cap c cur l w g2 e1 h0 hlen f2 DQ c3 hcell).mono ?_;rintro e w' ⟨rfl,rfl⟩;obtain⟨t1,t2⟩:=hC.lose (id:=ib) (w':=w.drew.freeze ⟨g,0,none⟩ l.length) (by rw[hB];simp) (by
    rw[hlg];unfold World.freeze;rw[if_neg hl0];exact⟨⟨rfl,rfl,rfl,by simp,λj _ hj=>by
     rw[BB,if_neg (λe=>hj (by rw[<-e];rfl))];rfl⟩,CI _⟩)
   exact⟨_,_,_,_,rfl,⟨rfl,rfl⟩,.sc _,t1,t2⟩
open Go Go.Proofs Go.RowKit Go.Shelf
theorem ZsP{w:Wd}{i:Nat}{c:UInt8}(h:w[i]?=some c)(h1:¬(c.toNat=48\/c.toNat=49)):wM w=false:=by
 unfold wM;have:w.all (λc=>decide (c.toNat=48\/c.toNat=49))=false:=by
  rw[Bm];exact⟨c,Ab h,by simpa using h1⟩
 rw[this,Cw]
theorem ZsQ{w:Wd}{i:Nat}{c:UInt8}(h:w[i]?=some c):xK w (i+1)=if c=49 then qk (xK w i) i else xK w i:=by
 have:w.getD i 0=c:=by rw[Aa,h];rfl
 show (if w.getD i 0=49 then qk (xK w i) i else xK w i)=_
 rw[this]
def vV(w:Wd):Nat × Int:=if wM w=true then if 64<w.length then (0,3) else (xK w w.length,0) else (0,2)
theorem ZsR(n d:Nat)(hn:n<2 ^ 64)(w:World):Calls prog 226 #[.int .u64 n,.int .i64 d] w λe w'=>e=.returned (.int .u64 (qk n d))/\w'=w:=by
 go_enter func226,ntmps226
 by_cases h:(d:Int)<64
 ·have h3:=Zg3 d DQ;have h4:bits BinOp.or IntKind.u64 (n:Int) (2 ^ d)=((n ||| 2 ^ d:Nat):Int):=by
   have:=bits_or_u64_nat n (2 ^ d) DQ (by have:(2:Nat) ^ d<2 ^ 64:=B8 (by decide) (by omega);omega);simpa using this
  have h5:qk n d=n ||| 2 ^ d:=by unfold qk;rw[if_pos ⟨by omega,h⟩];rfl
  go_wp2
  go_ret
  exact⟨by show Ending.returned (.int .u64 ((n ||| 2 ^ d:Nat):Int))=_;rw[h5],rfl⟩
 ·have h5:qk n d=n:=by unfold qk;rw[if_neg DQ]
  go_wp2
  go_ret
  exact⟨rfl,rfl⟩
theorem ZsS(s:Wd)(hl:s.length<=1048576)(w:World):Calls prog 191 #[.string (bs s)] w λe w'=>e=.returned (.tuple #[.int .u64 (vV s).1,.int .i64 (vV s).2])/\∃i,w'=w.iter (bs s) i:=by
 have hsz:=vk s
 go_enter func191,ntmps191
 go_wp2
 go_loopg [4,5] s.length (λg s4 s5 wx=>∃i:Nat,i+g=s.length/\s4=.int .u64 (xK s i)/\s5=.int .i64 i/\wx=w.iter (bs s) i/\∀c∈s.take i,c.toNat=48\/c.toNat=49)
 case atStart=>exact⟨0,by omega,rfl,rfl,rfl,by simp⟩
 case round =>
  obtain⟨i,hig,rfl,rfl,rfl,hno'⟩:=hrel;have hno:Aside (∀c∈s.take i,c.toNat=48\/c.toNat=49):=hno';clear hno';cases gk with
  | zero =>
   obtain rfl:i=s.length:=DQ
   have hnx:=λty=>run_next_end (P:=prog) w (bs s) s.length ty (by rw[hsz];omega)
   have hsg:s≠[]->wM s=true:=λh0=>by
    unfold wM;rw[decide_eq_true h0,CY,Ax];have h9:=hno.out;rw[Ai]at h9;exact λc hc=>decide_eq_true (h9 c hc)
   by_cases h0:s=[]
   ·subst h0;clear hsg;simp only[Ah]at hnx
    go_wp2
    go_ret2
    exact⟨rfl,_,rfl⟩
   ·have hs1:=hsg h0;clear hsg;have hne:¬(s.length:Int)=0:=by intro h;exact h0 (Aq DQ)
    rcases Bb 64 s.length with h64 | h64
    ·have h64':(64:Int)<s.length:=DQ
     have hsp:vV s=(0,3):=by unfold vV;rw[if_pos hs1,if_pos h64]
     go_wp2
     go_ret2
     exact⟨by rw[hsp];rfl,_,rfl⟩
    ·have h64':¬(64:Int)<s.length:=DQ
     have hsp:vV s=(xK s s.length,0):=by unfold vV;rw[if_pos hs1,if_neg DQ]
     go_wp2
     go_ret2
     exact⟨rfl,_,rfl⟩
  | succ g =>
   have hi:i<s.length:=DQ
   obtain⟨x,hx⟩:∃x:UInt8,s[i]?=some x:=⟨_,Af hi⟩;have hb:i<(bs s).size:=DQ
   have hxb:(bs s)[i]'hb=x:=by
    have:=Ac.1 hx;exact this.2
   have Hx:Aside (s[i]?=some x):=hx;have hset:=ZsQ hx;clear hx;have hlts:=ZaG s i
   by_cases q0:x.toNat=48
   ·have hnx:=λty=>run_next_ascii (P:=prog) w (bs s) i ty hb (by rw[hxb,q0];decide)
    rw[hxb,q0]at hnx;have hne:¬x=49:=by rintro rfl;exact absurd q0 DX
    rw[if_neg hne]at hset
    go_wp2
    go_roundg g
    case measure=>omega
    case rel =>
     refine⟨i+1,by omega,by rw[hset],by simp,rfl,?_⟩;rw[AG,Hx.out];intro c hc;rw[Ay]at hc;rcases hc with hc | hc
     ·exact hno.out c hc
     ·obtain rfl:c=x:=by simpa using hc
      exact .inl q0
   ·by_cases q1:x.toNat=49
    ·have hx1:x=49:=UInt8.toNat_inj.1 q1;have hnx:=λty=>run_next_ascii (P:=prog) w (bs s) i ty hb (by rw[hxb,q1];decide)
     rw[hxb,q1]at hnx;rw[if_pos hx1]at hset;have hww:=ZsR (xK s i) i hlts
     go_wp2_with fail
     refine(hww _).mono ?_;rintro _ _ ⟨rfl,rfl⟩;rw[<-hset];clear hww
     go_wp2
     go_roundg g
     case measure=>omega
     case rel =>
      refine⟨i+1,by omega,by rw[hset],by simp,rfl,?_⟩;rw[AG,Hx.out];intro c hc;rw[Ay]at hc;rcases hc with hc | hc
      ·exact hno.out c hc
      ·obtain rfl:c=x:=by simpa using hc
       exact .inr q1
    ·have hsp:vV s=(0,2):=by unfold vV;rw[if_neg (by rw[ZsP Hx.out (λh=>h.elim q0 q1)];simp)]
     have hnx:=λty=>run_next_any (P:=prog) w (bs s) i ty hb
     have hdec:(Utf8.decode (bs s) i).1≠48/\(Utf8.decode (bs s) i).1≠49:=by
      by_cases h128:x.toNat<128
      ·rw[decode_ascii (bs s) i hb (by rw[hxb];exact h128),hxb];exact⟨q0,q1⟩
      ·have:=(decode_high (bs s) i hb (by rw[hxb];omega)).1;omega
     obtain⟨r,hr⟩:∃r,r=Utf8.decode (bs s) i:=⟨_,rfl⟩;rw[<-hr]at hnx hdec;have q2:¬(r.1:Int)=48:=by have:=hdec.1;omega
     have q3:¬(r.1:Int)=49:=by have:=hdec.2;omega
     clear hr hdec hset
     go_wp2
     go_ret2
     exact⟨by rw[hsp];rfl,_,rfl⟩
theorem ZsT(s:Wd)(hl:s.length<=1048576):Pure prog 191 [T (bs s)] (.tup [U (vV s).1,I (vV s).2]):=by
 intro S;refine⟨Zlm,λC w us hS hl' hr=>?_⟩;obtain⟨u0,rfl⟩:=Zdw hl';have r0:=hr 0 _ u0 rfl rfl;cases r0;refine(ZsS s hl w).mono ?_;rintro _ _ ⟨rfl,i,rfl⟩;obtain⟨t1,t2,_⟩:=hS.alloc (.stringIter (bs s) i);refine⟨_,_,S,C,rfl,⟨rfl,rfl⟩,.tup rfl λj c v h1 h2=>?_,t1,t2⟩
 match j,h1,h2 with
 | 0,h1,h2=>cases h1;cases h2;exact .sc _
 | 1,h1,h2=>cases h1;cases h2;exact .sc _
open Go Go.Proofs Go.RowKit Go.Shelf
theorem ZsU(b n:Nat)(c:Array Value)(w:World)(hbk:w.heap[b]?=some (.cells c 113 (0,0)))(h1:c[1]?=some (.slice none 0 0))(hn:n<=281474976710656):
  Calls prog 188 #[.pointer (some ⟨b,0,none⟩),.int .i64 n] w λe w'=>e=.returned (.tuple #[])/\∃cs:Array Value,(n<=maxLen->cs.size<=maxLen)/\w'=((w.alloc (.cells cs 5)).setCell ⟨b,1,none⟩ (.slice (some ⟨w.heap.size,0,none⟩) 0 cs.size)).drew.drew.drew:=by
 obtain⟨cs,hrun,hle,hmax⟩:=Lib.run_makeNoZero (P:=prog) w.drew #[3] 111 5 underlying111 n hn;have hw:IntKind.i64.wrap (n:Int)=n:=by
  rw[AF];omega
 have hcall:(callFunc 221 #[.int .i64 (IntKind.i64.wrap (n:Int))]).run prog w.drew=.ok (.value (.slice (some ⟨w.drew.heap.size,0,none⟩) n cs.size)) (w.drew.drew.drew.alloc (.cells cs 5)):=by
  rw[hw,run_callFunc_extern func221 DU DU DU (e:=Extern.BytealgMakeNoZero.makeNoZero #[3] #[111]) DU,hrun];rfl
 have hlt:b<w.heap.size:=qy hbk;have c1:w.drew.cell? ⟨b,1,none⟩=some (.slice none 0 0):=by
  have:w.drew.heap[b]?=some (.cells c 113 (0,0)):=hbk;rw[Lib.cell_of_heap this];exact h1
 have c2:(w.alloc (.cells cs 5)).cell? ⟨b,1,none⟩=some (.slice none 0 0):=by
  rw[Lib.cell_of_heap ((Lib.alloc_old w _ b hlt).trans hbk)];exact h1
 have f2:(w.alloc (.cells cs 5)).frozen? ⟨b,1,none⟩=false:=Lib.frozen_of_heap ((Lib.alloc_old w _ b hlt).trans hbk) 1;have hcopy:∀W:World,(Builtin.copy_ #[111,111] 3 #[.slice (some ⟨w.heap.size,0,none⟩) 0 cs.size,.slice none 0 0]).run prog W=.ok (goInt 0) W :=
  λW=>run_copy_none W 111 111 3 5 _ _ 0 cs.size 0 0 underlying111 DU rfl
 clear hw hlt
 go_enter func188,ntmps188
 go_wp2
 go_region
 all_goals (go_wp2;go_end0;exact⟨rfl,cs,hmax,rfl⟩)
theorem ZsV{S:Store}{id v nx:Nat}{p:PV}(n:Nat)(hn:n<=140737488355328)(hS:S id=.cells v 113 [p,.sc (.slice none 0 0)])(hd:S nx=.dead):
  Spec prog 188 [.ptr id v 0,I n] S (λ_ S'=>∃w0,S'=(S.set nx (.cells w0 5 [])).set id (.cells v 113 [p,.sl nx w0 1 0 0])):=by
 refine⟨qn func188 DW rfl,?_⟩;intro C w vs hC hl hr;obtain⟨u,u2,rfl⟩:=Zix hl;have hu:=hr 0 _ u rfl rfl;have hu2:=hr 1 _ u2 rfl rfl;cases hu2;cases hu with
 | ptr h1 h2 h3 =>
  obtain⟨b,k,hloc,rfl⟩:=(h3 v (by rw[hS];rfl)).2 rfl;obtain⟨b',k',c,c0,c1,g1,g2,g3,g4,e0,e1,r0,r1,g5⟩:=Zdx hC hS;rw[hloc]at g1;cases g1;cases r1;refine(ZsU b n c w g2 e1 DQ).mono ?_;rintro e w' ⟨rfl,cs,hmax,rfl⟩;have hlt:b<w.heap.size:=qy g2;have hne:id≠nx:=by rintro rfl;rw[hS]at hd;cases hd
  obtain⟨a1,a2⟩:=hC.object' (o:=nx) (ver:=C.clock) ⟨hd,.inr (Ag _)⟩ 5 cs [] (BK _) (λi u hi=>absurd hi (Nat.not_lt_zero _)) (λi q u hq=>by simp at hq);have hS1:(S.set nx (.cells C.clock 5 [])) id=.cells v 113 [p,.sc (.slice none 0 0)]:=(q10 _ _ _ _ hne).trans hS;have hloc1:(C.put nx C.clock (some (w.heap.size,cs.size))).loc id=some (b,k):=by simp[Ctx.put,hne,hloc]
  have hg2:(w.alloc (.cells cs 5)).heap[b]?=some (.cells c 113 (0,0)):=(uW w _ b hlt).trans g2;have hsl:Rel (C.put nx C.clock (some (w.heap.size,cs.size))) (S.set nx (.cells C.clock 5 [])) (w.alloc (.cells cs 5)) (.sl nx C.clock 1 0 0) (.slice (some ⟨w.heap.size,0,none⟩) 0 cs.size):=by
   refine .sl ⟨_,_,rfl,BK _,BK _,hmax (by unfold maxLen;omega),λh=>absurd rfl h⟩ ⟨by simp only[Ctx.put];omega,by simp only[Ctx.put];omega⟩ λv0 hv0=>?_
   rw[q11]at hv0;cases hv0;exact⟨Ag _,λ_=>.inr ⟨w.heap.size,cs.size,_,_,by simp[Ctx.put],rfl,λ_=>⟨rfl,BR _⟩,λ_=>rfl⟩⟩
  have hh:((w.alloc (.cells cs 5)).setCell ⟨b,1,none⟩ (.slice (some ⟨w.heap.size,0,none⟩) 0 cs.size)).heap[b]?=some (.cells (c.setIfInBounds 1 (.slice (some ⟨w.heap.size,0,none⟩) 0 cs.size)) 113 (0,0)):=by
   simp only[World.setCell,BB,if_true,hg2,AZ];rfl
  obtain⟨t1,t2⟩:=a1.turn (l:=(C.put nx C.clock (some (w.heap.size,cs.size))).loc id) (ver':=v) (cs':=[p,.sl nx C.clock 1 0 0]) hS1 (Ag _) (λ_=>rfl) (w':=(w.alloc (.cells cs 5)).setCell ⟨b,1,none⟩ (.slice (some ⟨w.heap.size,0,none⟩) 0 cs.size))
   (by rw[hloc1];exact⟨⟨rfl,rfl,rfl,by simp[World.setCell],λj _ hj=>by
      show ((w.alloc (.cells cs 5)).heap.modify b _)[j]?=_
      rw[BB,if_neg (λe=>hj (by rw[<-e];rfl))]⟩,Ag _⟩)
   (.inr ⟨b,k,_,hloc1,.inr (by rw[hloc1];rfl),hh,by simp[g3],g4,λi u hi hu=>by
     match i,hi with
     | 0,_=>rw[CM DQ]at hu;exact g5 0 u DQ hu
     | 1,_=>rw[BW DQ]at hu;cases hu;rfl,
    λi q u hq hu=>by
     match i,hq with
     | 0,hq=>cases hq;rw[CM DQ,e0]at hu;cases hu;exact r0.mono a2
     | 1,hq=>cases hq;rw[BW DQ]at hu;cases hu;exact hsl⟩)
  obtain⟨d1,d2⟩:=t1.drew;obtain⟨d3,d4⟩:=d1.drew;obtain⟨d5,d6⟩:=d3.drew;exact⟨.junk,_,_,_,rfl,⟨_,rfl⟩,.junk _,d5,(((a2.trans t2).trans d2).trans d4).trans d6⟩
theorem ZsW{P:Program}{r:Rd}{n:Nat}{F:Nat->PV}{S:Store}{o:Oper}{x:Operand}{t e:TypeId}{K:PV->Store->Prop}(ho:o.op=.call { callee:=.builtin .cap,args:=#[x],argTypes:=#[t] })(ht:P.underlying t=some (.slice e))(hx:ev F x=.sc (.slice none 0 0))(hK:K (I 0) S):PO P r n o F S K:=by
 intro G hG C w a N st next Q' hnext;have e1:=st.ev x;rw[(hG x (by simp[ho,Op.operands,Call.operands])).trans hx]at e1;have hnd:∀c,o.op≠.defer c:=by intro c hc;rw[ho]at hc;cases hc
 generalize hv:a.eval x=v at e1;cases e1;have hrun:(execOp a.eval o).run P w=.ok (.value (.int .i64 0)) w:=by
  unfold execOp;simp[ho,resolve,invoke,builtin,hv,Builtin.cap_,goInt,run_underlying ht]
 exact qh hnd hrun (hnext _ _ _ _ _ hK (.sc _) st.sim (Step.refl _ _ _))
open Go Go.Proofs
theorem qO{S:Store}{nx id:Nat}{o:Ob}(hd:zW nx S)(h:S id=o)(hne:o≠.dead):id<nx:=by
 rcases Bb id nx with q | q
 ·exact q
 ·rw[hd id q]at h;exact absurd h.symm hne
theorem qH{S:Store}{nx id:Nat}(hd:zW nx S)(hlt:id<nx)(o:Ob):zW nx (S.set id o):=λi hi=>by rw[q10 _ _ _ _ DQ];exact hd i hi
theorem ZsX(l:List UInt8):((bs l).data.toList.map λb=>(.sc (.int .u8 (b.toNat:Int)):PV))=l.map U8:=rfl
abbrev Xy(id v ib w n:Nat):List PV:=[.ptr id v 0,.sl ib w 1 0 n]
theorem ZsY{S:Store}{id v ib w0:Nat}{p:PV}(l m:List UInt8)(hS:S id=.cells v 113 [p,.sl ib w0 1 0 l.length])(hp:p=.sc (.pointer none)\/p=.ptr id v 0)(hB:S ib=.cells w0 5 (l.map U8))(hlen:l.length+m.length<=140737488355328):
  Spec prog 61 [.ptr id v 0,T (bs m)] S (λq S'=>q=.tup [I m.length,.sc .nilIface]/\S'=(S.set ib (.cells (w0+1) 5 ((l++m).map U8))).set id (.cells v 113 (Xy id v ib (w0+1) (l++m).length))):=by
 have hne:id≠ib:=by rintro rfl;rw[hS]at hB;cases hB
 have hsz:=vk m;have hcc:=λS (h:S id=_)=>Ziy (S:=S) (id:=id) (v:=v) (p:=p) (s:=.sl ib w0 1 0 l.length) h hp
 refine yl func61 ntmps61 results61 λnx hd=>?_
 have hlt:id<nx:=qO hd hS DR;have hlt2:ib<nx:=qO hd hB DR;refine D0 ?_;refine D0 ?_;refine λhsuf=>((hcc _ ((zD hlt).trans hS)).mono ?_).v
 rintro _ _ rfl;refine⟨_,_,y9 _ hlt,zN hsuf ?_⟩;obtain⟨A,hA⟩:∃A,A=Ob.cells v 113 [.ptr id v 0,.sl ib w0 1 0 l.length]:=⟨_,rfl⟩;have x1:∀obs,ext (S.set id A) nx obs id=.cells v 113 [.ptr id v 0,.sl ib w0 1 0 l.length]:=λobs=>by rw[zD hlt,q11,hA]
 have x2:∀obs,ext (S.set id A) nx obs ib=.cells w0 5 (l.map U8):=λobs=>(zD hlt2).trans ((q10 _ _ _ _ (Ne.symm hne)).trans hB)
 have x3:∀B obs,ext ((S.set id A).set ib B) nx obs id=.cells v 113 [.ptr id v 0,.sl ib w0 1 0 l.length]:=λB obs=>by rw[zD hlt,q10 _ _ _ _ hne,q11,hA]
 rw[<-hA];have g1:¬nx<=id:=DQ
 have g2:¬nx<=ib:=DQ
 have g3:m.length<=9223372036854775807:=DQ
 have htk:(l.map U8).take l.length=l.map U8:=Ae DR;refine za (ze [] (zP x1 x2 x3 hsz g1 (zA g2 g3 ZsX)) ?_);refine⟨by omega,?_⟩;refine za (ze [] hsz ?_);have hfin:((S.set id A).set ib (.cells (w0+1) 5 (l.map U8++m.map U8))).set id (.cells v 113 [.ptr id v 0,.sl ib (w0+1) 1 0 (l.length+m.length)])=(S.set ib (.cells (w0+1) 5 ((l++m).map U8))).set id (.cells v 113 (Xy id v ib (w0+1) (l++m).length)):=by
  rw[List.map_append,List.length_append,<-Store.set_comm S ib id _ _ (hne),Store.set_set]
 refine zg ⟨_,_,by simp;rfl,⟨by simp[zn],by rw[htk];exact hfin⟩,zR ?_⟩;exact qH (qH (qH hd hlt _) hlt2 _) hlt _
theorem ZsZ{S:Store}{id v nx:Nat}(n:Nat)(h0:0<n)(hn:n<=140737488355328)(hS:S id=.cells v 113 [.sc (.pointer none),.sc (.slice none 0 0)])(hd:zW nx S):
  Spec prog 133 [.ptr id v 0,I n] S (λ_ S'=>∃w0,S'=(S.set nx (.cells w0 5 [])).set id (.cells v 113 (Xy id v nx w0 0))):=by
 have hlt:id<nx:=qO hd hS DR;have hcc:=λS (h:S id=_)=>Ziy (S:=S) (id:=id) (v:=v) (p:=.sc (.pointer none)) (s:=.sc (.slice none 0 0)) h (.inl rfl)
 refine u6 hd func133 ntmps133 results133 ?_;refine D0 ?_;refine λhsuf=>((hcc _ ((zD hlt).trans hS)).mono ?_).v
 rintro _ _ rfl;refine⟨_,_,y9 _ hlt,zN hsuf ?_⟩;obtain⟨A,hA⟩:∃A,A=Ob.cells v 113 [.ptr id v 0,.sc (.slice none 0 0)]:=⟨_,rfl⟩;have x1:∀obs,ext (S.set id A) nx obs id=.cells v 113 [.ptr id v 0,.sc (.slice none 0 0)]:=λobs=>by rw[zD hlt,q11,hA]
 rw[<-hA];have g1:¬nx<=id:=DQ
 repeat apply za
 refine zb ?_;refine zm DR ?_;refine zh ?_;have hgr:=λS (h:S id=_) (hd:S nx=.dead)=>ZsV (S:=S) (id:=id) (v:=v) (nx:=nx) (p:=.ptr id v 0) n hn h hd
 refine za (zz (some [id]) (Row.pures [0,1,2,3,5,6,7,8,9,11] (.alt 4 (Row.pures [10,12] .done) .stop)) mixed (zo x1 g1) ?_);refine⟨by rfl,(ZsW rfl underlying111 DR ?_)⟩;refine⟨by simp[yK],jy trivial ?_⟩;refine zk DV ?_;refine zb ?_;refine λhsuf=>((hgr _ (x1 []) (uY (nx:=nx) (obs:=[]))).mono ?_).v
 rintro _ _ ⟨w0,rfl⟩;have hne:id≠nx:=DQ
 have e1:((ext (S.set id A) nx []).set nx (.cells w0 5 [])).set id (.cells v 113 [.ptr id v 0,.sl nx w0 1 0 0])=ext (S.set id (.cells v 113 [.ptr id v 0,.sl nx w0 1 0 0])) nx [.cells w0 5 []]:=by
  have:=qY (S:=S.set id A) (nx:=nx) (obs:=[]) (.cells w0 5 []);simp only[Ah,Bz,AN]at this;rw[this,y9 _ hlt,Store.set_set]
 refine⟨_,_,e1,zN hsuf ?_⟩;have e2:(S.set nx (.cells w0 5 [])).set id (.cells v 113 (Xy id v nx w0 0))=ext (S.set id (.cells v 113 [.ptr id v 0,.sl nx w0 1 0 0])) nx [.cells w0 5 []]:=by
  have:=qY (S:=S) (nx:=nx) (obs:=[]) (.cells w0 5 []);simp only[Ah,Bz,AN,qJ hd]at this;rw[this,y9 _ hlt]
 exact⟨_,_,rfl,⟨w0,e2.symm⟩,λo=>.inl rfl⟩
theorem WL:∀ws:List (List UInt8),(yi ws).length=(ws.map List.length).sum+(ws.length-1)
 | []=>rfl
 | [w]=>by simp[yi]
 | w :: v :: ws=>by
  have:=WL (v :: ws);rw[Xn,List.length_append,Ad,this];simp only[AA,Cg,Ad];omega
theorem Ziz(l:List Nat)(k:Nat):(l.take k).sum<=l.sum:=by
 conv=>rhs;rw[<-List.take_append_drop k l]
 rw[List.sum_append];omega
def ZG(ws:List (List UInt8))(k:Nat):Nat:=((ws.take k).map List.length).sum
theorem ZiA(ws:List (List UInt8))(k:Nat):ZG ws k<=(ws.map List.length).sum:=by unfold ZG;rw[List.map_take];exact Ziz _ k
theorem Zs0{ws:List (List UInt8)}{k:Nat}{u:List UInt8}(h:ws[k]?=some u):ZG ws (k+1)=ZG ws k+u.length:=by unfold ZG;rw[AG,h];simp
theorem wr2{S:Store}{nx:Nat}{A B A2 B2:Ob}:((ext S nx [A,B]).set (nx+1) B2).set nx A2=ext S nx [A2,B2]:=by
 rw[yk _ DQ DR,yk _ DQ DR];simp
theorem Zdz:∀(w:List UInt8) (rs:List (List UInt8)),yi (w :: rs)=w++(rs.map λu=>32 :: u).flatten
 | w,[]=>by simp[yi]
 | w,v :: rs=>by rw[Xn,Zdz v rs];simp
def vW(w0:List UInt8)(rs:List (List UInt8))(k:Nat):List UInt8:=w0++((rs.take k).map λu=>32 :: u).flatten
theorem Zs1(w0:List UInt8)(rs:List (List UInt8)):vW w0 rs 0=w0:=by simp[vW]
theorem Zs2{w0:List UInt8}{rs:List (List UInt8)}{k:Nat}{u:List UInt8}(h:rs[k]?=some u):vW w0 rs (k+1)=(vW w0 rs k++[32])++u:=by unfold vW;rw[AG,h];simp
theorem Zs3(w0:List UInt8)(rs:List (List UInt8)):vW w0 rs rs.length=yi (w0 :: rs):=by unfold vW;rw[Ai,Zdz]
theorem Zs4(w0:List UInt8)(rs:List (List UInt8))(k:Nat):(vW w0 rs k).length<=(yi (w0 :: rs)).length:=by
 rw[Zdz];unfold vW;simp;exact Ziz _ k
theorem Zs5(ws:List (List UInt8))(hl:ws.length<=1048576)(hw:(yi ws).length<=140737488355328):Pure prog 97 [L (ws.map bs),T (bs [32])] (T (bs (yi ws))):=by
 match ws,hl,hw with
 | [],_,_ =>
  refine zr func97 ntmps97 results97 λS nx hd=>?_
  refine D0 ?_
  repeat apply za
  refine zb ?_;refine zj (D0 ?_);refine zk DR ?_;refine D0 ?_;exact D1 hd
 | [w],_,_ =>
  refine zr func97 ntmps97 results97 λS nx hd=>?_
  refine D0 ?_
  repeat apply za
  refine zb ?_;refine zj (D0 ?_);refine zm DR ?_;refine D0 ?_;refine zk DR ?_;refine D0 ?_;exact D1 hd
 | w0 :: v0 :: r0,hl,hw =>
 obtain⟨rs,hrs⟩:∃rs,rs=v0 :: r0:=⟨_,rfl⟩;obtain⟨ws,hws⟩:∃ws,ws=w0 :: rs:=⟨_,rfl⟩;obtain⟨mm,hm⟩:∃mm,ws.length=mm+1:=⟨rs.length,by rw[hws];rfl⟩;have hmm:1<=mm:=by rw[hws,hrs]at hm;simp at hm;omega
 have hrm:rs.length=mm:=by rw[hws]at hm;simpa using hm
 rw[<-hrs,<-hws]at hl hw ⊢;have hjl:=WL ws;rw[hm]at hl hjl;have hs1:(bs [32]).size=1:=rfl;have w1:IntKind.i64.wrap ((ws.length:Int)-1)=(mm:Int):=by rw[AF];omega
 have q0:¬(mm:Int)=0:=DQ
 have q0n:¬mm=0:=DQ
 have q1:¬IntKind.i64.wrap ((9223372036854775807:Int).tdiv mm)<=1:=by
  rw[Cb DQ];have h1:(9223372036854775807:Int) / mm<=9223372036854775807:=Int.ediv_le_self _ DQ;have h2:2<=(9223372036854775807:Int) / mm:=(Int.le_ediv_iff_mul_le DQ).2 DQ;rw[AF];omega
 have w2:IntKind.i64.wrap (mm:Int)=mm:=wr _ DQ DQ;have hnil:¬ws=[]:=by intro h;rw[h]at hm;simp at hm
 clear hrs;refine zr func97 ntmps97 results97 λS nx hd=>?_
 refine D0 ?_
 repeat apply za
 refine zb ?_;refine zj (D0 ?_);refine zm (by simp[hnil]) ?_;refine D0 ?_;refine zm DV ?_;refine zh (D0 ?_)
 repeat apply za
 refine ze [] hs1 ?_;refine zk DR ?_
 repeat apply za
 refine ze [] (yv hs1 w1 q0 q0n q1) ?_;refine zm DR ?_;refine zh (ze [] (zA hs1 w1 w2) ?_)
 repeat apply za
 refine zb ?_;refine zj (zC (λk:Nat=>k<=ws.length) (λk=>[(0,L (ws.map bs)),(1,T (bs [32])),(5,I ((mm+ZG ws k:Nat):Int)),(39,L (ws.map bs)),(40,I ws.length),(41,I k)]) (λ_=>[]) (λk=>ws.length-k) 0 [] DR (by simp[ZG]) DR ?_)
 ·rintro k hk;have hsk:=ZiA ws k;refine D0 ?_;refine za (zv rfl (λhc=>?_) (λhc=>?_))
  ·simp at hc;obtain⟨t,tl,b1,b2,b3,f0⟩:=zE rfl (ws.map bs) k (by simpa using hc);obtain⟨u,hu,rfl⟩:∃u,ws[k]?=some u/\bs u=t:=by rw[Aj]at b1;simpa using b1
   have hsk1:=ZiA ws (k+1);have hsum:=Zs0 hu;have husz:=vk u;rw[hsum]at hsk1;generalize ZG ws k=c0 at *;have hkl:k<ws.length:=by simpa using hc
   have hbd:mm+c0+u.length<=140737488355328:=DQ
   have v1:IntKind.i64.wrap (9223372036854775807-((mm:Int)+c0))=9223372036854775807-((mm:Int)+c0):=by rw[AF];omega
   have v2:¬(9223372036854775807-((mm:Int)+c0))<u.length:=DQ
   have v3:IntKind.i64.wrap ((mm:Int)+c0+u.length)=(mm:Int)+c0+u.length:=by rw[AF];omega
   refine zh (za (zj (za (ze [] (zo f0 hkl) ?_))))
   repeat apply za
   refine ze [] (zA husz v1 v2) ?_;refine zm DR ?_;refine zh (ze [] (zo husz v3) ?_);refine zb ?_;exact zq (k+1) [] hkl DQ (by simp[zu k (by omega),hsum];try omega) rfl DR
  ·simp at hc;obtain rfl:k=ws.length:=DQ
   refine zx ?_;have hls:ZG ws ws.length=(ws.map List.length).sum:=by unfold ZG;rw[Ai]
   obtain⟨c,hcd⟩:∃c,c=mm+(ws.map List.length).sum:=⟨_,rfl⟩;have hci:((mm:Int)+(ZG ws ws.length:Int))=(c:Int):=by rw[hls,hcd];rfl
   have hc0:0<c:=DQ
   have hcn:c<=140737488355328:=DQ
   have hgs:=λ(v:Nat) S (h:S nx=.cells v 113 [.sc (.pointer none),.sc (.slice none 0 0)]) (hd:zW (nx+1) S)=>ZsZ (S:=S) (id:=nx) (v:=v) (nx:=nx+1) c hc0 hcn h hd
   refine za (ze [] hci ?_);intros;rename_i v;have g1:¬nx+1<=nx:=DQ
   have hdd:∀A,zW (nx+1) (ext S nx [A]):=λA=>jP (obs:=[A])
   refine D0 ?_;refine λhsuf=>((hgs v _ (by rw[Zn];rfl) (hdd _)).mono ?_).v
   rintro _ _ ⟨wx,rfl⟩;have e1:∀A B A',((ext S nx [A]).set (nx+1) B).set nx A'=ext S nx [A',B]:=λA B A'=>by
    have:=qY (S:=S) (nx:=nx) (obs:=[A]) B;simp only[Bp,DA]at this;rw[this,yk _ DQ DR];simp
   refine⟨_,_,e1 _ _ _,zN hsuf ?_⟩;obtain⟨t,tl,b1,b2,b3,f0⟩:=zE rfl (ws.map bs) 0 DV;obtain rfl:bs w0=t:=by rw[hws]at b1;simpa using b1
   have hwl:0<ws.length:=DQ
   have hwa:∀(S:Store) (wx:Nat) (l m:List UInt8),(yi ws).length<=140737488355328->l.length+m.length<=(yi ws).length->S nx=.cells v 113 (Xy nx v (nx+1) wx l.length)->S (nx+1)=.cells wx 5 (l.map U8)->_:=λS wx l m hw hl h1 h2=>ZsY (S:=S) (id:=nx) (v:=v) (ib:=nx+1) (w0:=wx) l m h1 (.inr rfl) h2 DQ
   have hcl:∀k,(vW w0 rs k).length<=(yi ws).length:=λk=>by rw[hws];exact Zs4 w0 rs k
   have hc0':=Zs1 w0 rs;have hcl0:=hcl 0;rw[hc0']at hcl0;refine za (ze [] (zo f0 hwl) ?_);refine λhsuf=>((hwa _ wx [] w0 hw (by simpa using hcl0) (by rw[Zn];rfl) (by rw[yb];rfl)).mono ?_).v
   rintro _ _ ⟨rfl,rfl⟩;refine⟨_,_,wr2,zN hsuf ?_⟩;have hwl1:1<=ws.length:=hwl;have ht1:ws.length-1=rs.length:=by rw[hws];rfl
   have htl:List.take rs.length (List.flatMap Enc.enc (ws.map bs)).tail=(rs.map bs).flatMap Enc.enc:=by
    have:(List.flatMap Enc.enc (ws.map bs)).tail=(rs.map bs).flatMap Enc.enc:=by rw[hws];rfl
    rw[this];exact Ae (by rw[xl];simp[Enc.sz])
   have hlr:(PV.lst rs.length ((rs.map bs).flatMap Enc.enc))=L (rs.map bs):=by unfold L;rw[List.length_map]
   repeat apply za
   refine ze [] (zA hwl1 ht1 htl) ?_;rw[<-hc0'];refine zj (zC (λk:Nat=>k<=rs.length) (λk=>[(1,T (bs [32])),(8,.ptr nx v 0),(63,L (rs.map bs)),(64,I rs.length),(65,I k)]) (λk=>[.cells v 113 (Xy nx v (nx+1) (wx+1+2*k) (vW w0 rs k).length),.cells (wx+1+2*k) 5 ((vW w0 rs k).map U8)]) (λk=>rs.length-k) 0 [] DR (by simp[hlr]) DR ?_);rintro k hk;refine D0 ?_;refine za (zv rfl (λhc=>?_) (λhc=>?_))
   ·simp at hc;obtain⟨t,tl,b1,b2,b3,f0⟩:=zE rfl (rs.map bs) k (by simpa using hc);obtain⟨u,hu,rfl⟩:∃u,rs[k]?=some u/\bs u=t:=by rw[Aj]at b1;simpa using b1
    have hkl:k<rs.length:=by simpa using hc
    have hcs:=Zs2 (w0:=w0) hu;have hk1:=hcl (k+1);rw[hcs]at hk1;simp only[List.length_append,Bp]at hk1;refine zh (za (zj (za (ze [] (zo f0 hkl) ?_))));refine D0 ?_;refine λhsuf=>((hwa _ _ (vW w0 rs k) [32] hw DV (by rw[Zn];rfl) (by rw[yb];rfl)).mono ?_).v
    rintro _ _ ⟨rfl,rfl⟩;obtain⟨mid,hmid⟩:∃mid,mid=vW w0 rs k++[32]:=⟨_,rfl⟩;rw[<-hmid]at hcs ⊢;have hml:mid.length=(vW w0 rs k).length+1:=by rw[hmid];simp
    refine⟨_,_,wr2,zN hsuf ?_⟩;refine zb ?_;refine λhsuf=>((hwa _ _ mid u hw (by rw[hml];omega) (by rw[Zn];rfl) (by rw[yb];rfl)).mono ?_).v
    rintro _ _ ⟨rfl,rfl⟩;rw[<-hcs];refine⟨_,_,wr2,zN hsuf ?_⟩;refine zb ?_;exact zq (k+1) [] hkl DQ (by simp[zu k (by omega)];try omega) rfl (by simp only[show wx+1+2*(k+1)=wx+1+2*k+1+1 by omega,AD])
   ·simp at hc;obtain rfl:k=rs.length:=DQ
    refine zx ?_;rw[Zs3,<-hws];have hne0:yi ws≠[]:=by intro h;rw[h]at hjl;simp only[Ah]at hjl;omega
    refine D0 ?_;refine λhsuf=>((ZsO (id:=nx) (v:=v) (ib:=nx+1) (w0:=wx+1+2*rs.length) (p:=.ptr nx v 0) (yi ws) (by rw[Zn];rfl) (by rw[yb];rfl) hne0 hw).mono ?_).v
    rintro _ _ ⟨rfl,rfl⟩;rw[yk _ DQ DR];refine⟨_,_,rfl,zN hsuf ?_⟩;exact D1 hd
theorem Zs6(ws:List (List UInt8))(hl:ws.length<=1048576)(hw:(yi ws).length<=1048576):Pure prog 59 [L (ws.map bs)] (T (bs (yi ws++[10]))):=by
 have hj:=Zs5 ws hl DQ;have hs:=Jn (yi ws) [10] (by simp only[Bp];omega);refine zr func59 ntmps59 results59 λS nx hd=>?_
 refine D0 ?_;refine D0 ?_;refine qi [] hj hs ?_;exact D1 hd
open Go Go.Proofs
theorem Xz{a b:List UInt8}:bs a=bs b<->a=b:=by
 constructor
 ·intro h;have:=congrArg (λx:ByteArray=>x.data.toList) h;exact this
 ·rintro rfl;rfl
theorem XA(ws:Ln)(k:Nat)(h:k<ws.length):∃u tl,ws[k]?=some u/\List.drop k ((ws.map bs).flatMap Enc.enc)=Enc.enc (bs u)++tl:=by
 obtain⟨t,tl,b1,b2,b3,f0⟩:=zE rfl (ws.map bs) k (by simpa using h);obtain⟨u,hu,rfl⟩:∃u,ws[k]?=some u/\bs u=t:=by rw[Aj]at b1;simpa using b1
 exact⟨u,tl,hu,f0⟩
theorem ZiB(a b:Ln)(ha:a.length<=1048576)(hb:b.length<=1048576):Pure prog 139 [L (a.map bs),L (b.map bs)] (B (decide (a=b))):=by
 refine zr func139 ntmps139 results139 λS nx hd=>?_
 refine D0 ?_
 by_cases hl:a.length=b.length
 ·repeat apply za
  refine ze [] hl ?_;refine zm (by simp[hl]) ?_;refine zh ?_
  repeat apply za
  refine zb ?_;refine zj (zC (λk:Nat=>k<=a.length/\a.take k=b.take k) (λk=>[(0,L (a.map bs)),(1,L (b.map bs)),(12,I a.length),(13,I k)]) (λ_=>[]) (λk=>a.length-k) 0 [] DR (by simp[hl]) DR ?_);rintro k ⟨hk,he⟩;refine D0 ?_;refine za (zv rfl (λhc=>?_) (λhc=>?_))
  ·simp at hc;obtain⟨u,tl,hu,f0⟩:=XA a k hc;obtain⟨v,tl2,hv,f1⟩:=XA b k DQ;have hkb:k<b.length:=DQ
   refine zh (za (zj (D0 ?_)))
   by_cases huv:u=v
   ·subst huv;refine za (zz none (Row.pures [0,1,2,3,4,5,6,7,8] .done) mixed (yv f0 f1 hc hkb Zdu) ?_);refine zm DR ?_;refine zh (zb ?_);exact zq (k+1) [] ⟨hc,by rw[AG,AG,hu,hv,he]⟩ DQ (by simp[zu k (by omega)]) rfl DR
   ·have hne:=Zdv (λh=>huv (Xz.1 h):bs u≠bs v);refine za (zz none (Row.pures [0,1,2,3,4,5,6,7,8] .done) mixed (yv f0 f1 hc hkb hne) ?_);refine zk DR ?_;refine D0 ?_;have hab:¬a=b:=by rintro rfl;rw[hu]at hv;exact huv (Option.some.inj hv)
    exact zg (zi hd DT (by simp[hab,zn]))
  ·simp at hc;obtain rfl:k=a.length:=DQ
   rw[Ai,hl,Ai]at he;subst he;refine zx (D0 ?_);exact zg (zi hd DT DR)
 ·repeat apply za
  refine zb ?_;refine zk DV ?_;refine D0 ?_;have hab:¬a=b:=by rintro rfl;exact hl rfl
  exact zg (zi hd DT (by simp[hab,zn]))
structure Rdr where
 pos:Nat
 d:Int
 v:Int
 c:Int
 l:Int
 m:Int
 bad:Bool
abbrev YS(ls:List Ln)(r:Rdr)(cs ds:PV):List PV:=[L (wl ls),I r.pos,I r.d,I r.v,I r.c,I r.l,cs,ds,I r.m,B r.bad]
def yV(ls:List Ln)(r:Rdr):Rdr:=if r.pos<ls.length then { r with pos:=r.pos+1 } else r
theorem WM{S:Store}{id ver:Nat}(ls:List Ln)(r:Rdr)(cs ds:PV)(hS:S id=.cells ver 164 (YS ls r cs ds))(hl:ls.length<=1048576):
  Spec prog 140 [.ptr id ver 0] S (λq S'=>q=L ((zT ls r.pos).map bs)/\S'=S.set id (.cells ver 164 (YS ls (yV ls r) cs ds))):=by
 obtain⟨pos,d,v,c,l,m,bad⟩:=r;have hwl:(wl ls).length=ls.length:=DR
 refine yl func140 ntmps140 results140 λnx hd=>?_
 have hlt:id<nx:=qO hd hS DR;have g1:¬nx<=id:=DQ
 have x1:∀obs,ext S nx obs id=.cells ver 164 (YS ls ⟨pos,d,v,c,l,m,bad⟩ cs ds):=λobs=>(zD hlt).trans hS
 by_cases hp:pos<ls.length
 ·have hp2:¬(ls.length:Int)<=pos:=DQ
  refine D0 ?_
  repeat apply za
  refine zz (some [id]) (Row.pures [0,1,2,3,4,5,6,7,8,9] .done) mixed (zJ x1 g1 hwl hp2) ?_;refine zm DR ?_;refine zh ?_;have w1:IntKind.i64.wrap ((pos:Int)+1)=(pos:Int)+1:=by rw[AF];omega
  refine za (ze [] (zA x1 g1 w1) ?_);obtain⟨A,hA⟩:∃A,A=Ob.cells ver 164 (YS ls ⟨pos+1,d,v,c,l,m,bad⟩ cs ds):=⟨_,rfl⟩;have hnx:yV ls ⟨pos,d,v,c,l,m,bad⟩=⟨pos+1,d,v,c,l,m,bad⟩:=if_pos hp;have hset:ext (S.set id (.cells ver 164 [L (wl ls),I ((pos:Int)+1),I d,I v,I c,I l,cs,ds,I m,B bad])) nx []=ext (S.set id A) nx []:=by rw[hA];rfl
  have x2:∀obs,ext (S.set id A) nx obs id=.cells ver 164 (YS ls ⟨pos+1,d,v,c,l,m,bad⟩ cs ds):=λobs=>by rw[zD hlt,q11,hA]
  rw[hset];obtain⟨t,tl,b1,b2,b3,f0⟩:=zE rfl (wl ls) pos (by rw[hwl];exact hp);have hline:t=(zT ls pos).map bs:=by
   have:ls[pos]?=some (zT ls pos):=by unfold zT;rw[Aa,Af hp];rfl
   rw[Aj,this]at b1;exact(Option.some.inj b1).symm
  have w2:IntKind.i64.wrap (pos:Int)=(pos:Int):=by rw[AF];omega
  refine za (zz (some [id]) (Row.pures [0,1,2,3,4,5,6,7,8,9,10,11] .done) mixed (zP x2 g1 w2 f0 hwl hp) ?_);refine zg ⟨_,_,by simp;rfl,⟨by simp[zn,hline],by rw[hnx,hA]⟩,zR ?_⟩;exact qH hd hlt _
 ·have hp2:(ls.length:Int)<=pos:=DQ
  have hnx:yV ls ⟨pos,d,v,c,l,m,bad⟩=⟨pos,d,v,c,l,m,bad⟩:=if_neg hp;have hline:zT ls pos=[]:=by unfold zT;rw[Aa,Ak DQ];rfl
  refine D0 ?_
  repeat apply za
  refine zz (some [id]) (Row.pures [0,1,2,3,4,5,6,7,8,9] .done) mixed (zJ x1 g1 hwl hp2) ?_;refine zk DR ?_;refine D0 ?_;refine uc 2 rfl ?_;rw[hnx];simp only[hline];rw[Yd S id _ hS];exact D1 hd
def LnsOk(ls:List Ln):Prop:=ls.length<=1048576/\∀l∈ls,l.length<=1048576/\∀w∈l,w.length<=1048576
theorem LnsOk.at{ls:List Ln}(h:LnsOk ls)(k:Nat):(zT ls k).length<=1048576/\∀w∈zT ls k,w.length<=1048576:=by
 unfold zT;rw[Aa];cases hk:ls[k]? with
 | none=>simp
 | some l=>exact h.2 l (Ab hk)
theorem Zs7(l:Ln)(k:Nat):xA l (k+1)=xA l k++[l.getD (2*k+1) []]:=by simp[xA,AK]
theorem ZaJ(l:Ln)(k:Nat):(xA l k).length=k:=by simp[xA]
theorem Zs8{l:Ln}{k:Nat}(hw:∀w∈l,w.length<=1048576):∀w∈xA l k,w.length<=1048576:=by
 intro w hm;obtain⟨i,_,rfl⟩:=Al.1 hm;rw[Aa];cases hk:l[2*i+1]? with
 | none=>simp
 | some u=>exact hw u (Ab hk)
theorem WN{ws:Ln}{k:Nat}{u:Wd}(h:ws[k]?=some u):ws.getD k []=u:=by rw[Aa,h];rfl
theorem ZiC{S:Store}{id ver:Nat}(ls:List Ln)(r:Rdr)(cs ds:PV)(names:Ln)(hS:S id=.cells ver 164 (YS ls r cs ds))(hl:LnsOk ls)(hn:names.length<=1000):
  Spec prog 141 [.ptr id ver 0,L (names.map bs)] S (λq S'=>q=vt (qg (zT ls r.pos) names)/\S'=S.set id (.cells ver 164 (YS ls (yV ls r) cs ds))):=by
 have hnext:=λS (h:S id=_)=>WM (S:=S) (id:=id) (ver:=ver) ls r cs ds h hl.1
 obtain⟨hll,hlw⟩:=hl.at r.pos;obtain⟨S1,hS1⟩:∃S1,S1=S.set id (.cells ver 164 (YS ls (yV ls r) cs ds)):=⟨_,rfl⟩;rw[<-hS1];generalize zT ls r.pos=ln at *;refine yl func141 ntmps141 results141 λnx hd=>?_
 have hlt:id<nx:=qO hd hS DR;have g1:¬nx<=id:=DQ
 have hd1:zW nx S1:=by rw[hS1];exact qH hd hlt _
 refine D0 ?_;refine za (xk [] DW DW λK Gc Gh hK hGc hGh X hX0 hX=>?_);simp -implicitDefEqProofs [hX0,hX]
 try clear hX0 hX X
 refine hGc _ _ _ _ _ _ _ λhsuf=>((hnext _ ((zD hlt).trans hS)).mono ?_).v
 rintro _ _ ⟨rfl,rfl⟩;refine⟨S1,[],by rw[y9 _ hlt,<-hS1],?_⟩;clear hGc hGh;clear Gc Gh;refine xN hsuf (D:=[]) DW λGc Gh hGc hGh X hX0 hX=>?_
 simp -implicitDefEqProofs [hX0,hX];clear hX0 hX X;refine hK _ _ _ ?_;clear hK hGc hGh;clear K Gc Gh;clear hnext hsuf hd hS1 hS;have hd:=hd1;have w0:IntKind.i64.wrap (2*(names.length:Int))=2*names.length:=by rw[AF];omega
 by_cases hlen:ln.length=2*names.length
 ·have c0:(ln.length:Int)=2*names.length:=DQ
  repeat apply za
  refine ze [] (zo w0 c0) ?_;refine zm DR ?_;refine zh (D0 ?_);refine za (qt 7 9 1 rfl λv1=>?_);refine D0 ?_;refine zj (zC (λs:Nat × Nat=>s.1<=names.length/\∀i,i<s.1->ln.getD (2*i) []=names.getD i []) (λ(k,v)=>[(6,L (ln.map bs)),(7,.sl nx v 1 0 k),(18,L (names.map bs)),(19,I names.length),(20,I k)]) (λ(k,v)=>[.cells v 9 (((xA ln k).map bs).flatMap Enc.enc)]) (λs=>names.length-s.1) (0,v1) [] ⟨by simp,λi hi=>absurd hi (Nat.not_lt_zero _)⟩ DR (by simp[xA]) ?_);rintro⟨k,v⟩ ⟨hk,hq⟩;simp only at hk hq ⊢;refine D0 ?_;refine za (zv rfl (λhc=>?_) (λhc=>?_))
  ·simp at hc;obtain⟨a,tl,ha,f0⟩:=XA names k hc;obtain⟨u,tl2,hu,f1⟩:=XA ln (2*k) DQ;obtain⟨x,tl3,hx,f2⟩:=XA ln (2*k+1) DQ;have k1:2*k<ln.length:=DQ
   have k2:2*k+1<ln.length:=DQ
   have w1:IntKind.i64.wrap (2*(k:Int))=((2*k:Nat):Int):=by rw[AF];omega
   have w2:IntKind.i64.wrap (((2*k:Nat):Int)+1)=((2*k+1:Nat):Int):=zu _ DQ;obtain⟨k2k,hk2⟩:∃n,n=2*k:=⟨_,rfl⟩;obtain⟨k2l,hk3⟩:∃n,n=2*k+1:=⟨_,rfl⟩;rw[<-hk2]at f1 k1 w1 w2 hu;rw[<-hk3]at f2 k2 hx;have w2':IntKind.i64.wrap ((k2k:Int)+1)=(k2l:Int):=by rw[w2,hk2,hk3]
   refine zh (za (zj (za (ze [] (zo f0 hc) ?_))))
   by_cases hua:u=a
   ·subst hua
    repeat apply za
    refine ze [] (zJ f1 k1 w1 Zdu) ?_;refine zm DR ?_;refine zh ?_;have hol:(xA ln k).length=k:=ZaJ ln k;refine ze [] (zJ f2 k2 w1 w2') ?_;refine⟨by omega,?_⟩;refine zb ?_;have hod:((xA ln (k+1)).map bs).flatMap Enc.enc=List.take k (((xA ln k).map bs).flatMap Enc.enc)++[T (bs x)]:=by
     rw[Ae (by rw[Zaq,List.length_map,hol];exact Ag _),Zs7,<-hk3,WN hx,List.map_append,Ar];rfl
    exact zq (k+1,v+1) [] ⟨hc,λi hi=>by
     rcases Bb i k with q | q
     ·exact hq i q
     ·obtain rfl:i=k:=DQ
      rw[<-hk2,WN hu,WN ha]⟩ DQ (by simp[zu k (by omega)]) rfl (by simp only[hod,AD])
   ·have hne:=Zdv (λh=>hua (Xz.1 h):bs u≠bs a)
    repeat apply za
    refine ze [] (zJ f1 k1 w1 hne) ?_;refine zk DR ?_;refine D0 ?_;have hnb:qg ln names=none:=by
     unfold qg Jt;rw[if_neg];rw[Av,Ax];rintro⟨_,h2⟩;have:=of_decide_eq_true (h2 k (AL.2 hc));rw[<-hk2,WN hu,WN ha]at this;exact hua this
    exact zg (zi hd DT (by rw[hnb];rfl))
  ·simp at hc;obtain rfl:k=names.length:=DQ
   have hnb:qg ln names=jD (xA ln names.length):=by
    unfold qg Jt;rw[if_pos];rw[Av,Ax];exact⟨decide_eq_true hlen,λi hi=>decide_eq_true (hq i (AL.1 hi))⟩
   have hnum:=Zds (xA ln names.length) (by rw[ZaJ];omega) (λw hw=>by have:=Zs8 hlw w hw;omega);have hol:(xA ln names.length).length=names.length:=ZaJ ln _;rw[hnb];generalize xA ln names.length=od at *;refine zx (zZ 0 rfl ?_);have hol2:=hol.symm;rw[show L (od.map bs)=.lst od.length ((od.map bs).flatMap Enc.enc) by unfold L;rw[List.length_map]]at hnum;cases hz:jD od with
   | none =>
    rw[hz]at hnum;simp only[vt]at hnum ⊢;refine za (ze [] hol2 ?_);refine zt hnum ?_;exact D1 hd
   | some z =>
    rw[hz]at hnum;simp only[vt]at hnum ⊢;refine za (ze [] hol2 ?_);refine zt hnum ?_;exact D1 hd
 ·have c0:¬(ln.length:Int)=2*names.length:=DQ
  repeat apply za
  refine ze [] (zo w0 c0) ?_;refine zk DR ?_;refine D0 ?_;have hnb:qg ln names=none:=by unfold qg Jt;rw[decide_eq_false hlen];rfl
  exact zg (zi hd DT (by rw[hnb];rfl))
open Go Go.Proofs
theorem XB{l names:Ln}{z:List Int}(h:qg l names=some z):z.length=names.length:=by
 unfold qg at h;split at h
 ·rw[Ziq h,ZaJ]
 ·cases h
abbrev yh(ver:Nat)(ls:List Ln)(r:Rdr)(cs ds:PV):Ob:=.cells ver 164 (YS ls r cs ds)
theorem Zs9{S:Store}{id ver:Nat}(ls:List Ln)(r:Rdr)(cs ds:PV)(hS:S id=yh ver ls r cs ds)(hl:LnsOk ls):
  Spec prog 102 [.ptr id ver 0] S (λq S'=>q=B (decide (zT ls r.pos=[xX,[49]]))/\S'=S.set id (yh ver ls (yV ls r) cs ds)):=by
 have hnext:=λS (h:S id=_)=>WM (S:=S) (id:=id) (ver:=ver) ls r cs ds h hl.1
 have heq:=ZiB (zT ls r.pos) [xX,[49]] (hl.at r.pos).1 DR;obtain⟨S1,hS1⟩:∃S1,S1=S.set id (yh ver ls (yV ls r) cs ds):=⟨_,rfl⟩;rw[<-hS1];generalize zT ls r.pos=ln at *;refine yl func102 ntmps102 results102 λnx hd=>?_
 have hlt:id<nx:=qO hd hS DR;have hd1:zW nx S1:=by rw[hS1];exact qH hd hlt _
 refine D0 ?_;refine D0 ?_;refine λhsuf=>((hnext _ ((zD hlt).trans hS)).mono ?_).v
 rintro _ _ ⟨rfl,rfl⟩;refine⟨S1,[],by rw[y9 _ hlt,<-hS1],zN hsuf ?_⟩;refine λhsuf=>((heq _).mono ?_).v
 rintro _ _ ⟨rfl,rfl⟩;refine⟨_,_,rfl,zN hsuf ?_⟩;clear hnext hd hS1 hS;have hd:=hd1;exact D1 hd
theorem Zta{S:Store}{id ver:Nat}(ls:List Ln)(r:Rdr)(cs ds:PV)(hS:S id=yh ver ls r cs ds)(hl:LnsOk ls):
  Spec prog 103 [.ptr id ver 0] S (λq S'=>match qg (zT ls r.pos) [xY,xZ,x7,x8] with
   | some [d,v,c,l]=>q=B true/\S'=S.set id (yh ver ls { yV ls r with d:=d,v:=v,c:=c,l:=l } cs ds)
   | _=>q=B false/\S'=S.set id (yh ver ls (yV ls r) cs ds)):=by
 have hnamed:=λS (h:S id=_)=>ZiC (S:=S) (id:=id) (ver:=ver) ls r cs ds [xY,xZ,x7,x8] h hl DR
 cases hz:qg (zT ls r.pos) [xY,xZ,x7,x8] with
 | none =>
  rw[hz]at hnamed;simp only[vt]at hnamed ⊢;obtain⟨S1,hS1⟩:∃S1,S1=S.set id (yh ver ls (yV ls r) cs ds):=⟨_,rfl⟩;rw[<-hS1];refine yl func103 ntmps103 results103 λnx hd=>?_
  have hlt:id<nx:=qO hd hS DR;have hd1:zW nx S1:=by rw[hS1];exact qH hd hlt _
  refine D0 ?_;refine za (xk [] DW DW λK Gc Gh hK hGc hGh X hX0 hX=>?_);simp -implicitDefEqProofs [hX0,hX]
  try clear hX0 hX X
  refine hGc _ _ _ _ _ _ _ λhsuf=>((hnamed _ ((zD hlt).trans hS)).mono ?_).v
  rintro _ _ ⟨rfl,rfl⟩;refine⟨S1,[],by rw[y9 _ hlt,<-hS1],?_⟩;clear hGc hGh;clear Gc Gh;refine xN hsuf (D:=[]) DW λGc Gh hGc hGh X hX0 hX=>?_
  simp -implicitDefEqProofs [hX0,hX];clear hX0 hX X;refine hK _ _ _ ?_;clear hK hGc hGh;clear K Gc Gh;clear hnamed hsuf hd hS1 hS;have hd:=hd1
  repeat apply za
  refine zb ?_;refine zm DR ?_;refine zh (D0 ?_);exact D1 hd
 | some z =>
  obtain⟨d,v,c,l,rfl⟩:∃d v c l,z=[d,v,c,l]:=by
   have:=XB hz
   match z,this with
   | [d,v,c,l],_=>exact⟨d,v,c,l,rfl⟩
  rw[hz]at hnamed;simp only[vt]at hnamed ⊢;generalize yV ls r=r1 at *;obtain⟨pos,d0,v0,c0,l0,m,bad⟩:=r1;refine yl func103 ntmps103 results103 λnx hd=>?_
  have hlt:id<nx:=qO hd hS DR;refine D0 ?_;refine D0 ?_;refine λhsuf=>((hnamed _ ((zD hlt).trans hS)).mono ?_).v
  rintro _ _ ⟨rfl,rfl⟩;refine⟨_,[],y9 _ hlt,zN hsuf ?_⟩;obtain⟨S1,hS1⟩:∃S1,S1=S.set id (yh ver ls ⟨pos,d0,v0,c0,l0,m,bad⟩ cs ds):=⟨_,rfl⟩;rw[<-hS1];have g1:¬nx<=id:=DQ
  have x1:∀obs,ext S1 nx obs id=yh ver ls ⟨pos,d0,v0,c0,l0,m,bad⟩ cs ds:=λobs=>by rw[zD hlt,hS1,q11]
  repeat apply za
  refine zb ?_;refine zk DR ?_;have x2:∀A obs,ext (S1.set id A) nx obs id=A:=λA obs=>by rw[zD hlt,q11]
  refine zz (some []) (Row.pures [0,1,2,3,4,5,6,7,8,9,10,11,12,13,14,15,16,17,18] (.alt 19 (Row.pures [20,21,22] (.alt 23 (Row.pures [24,25,26] (.alt 27 (Row.pures [28,29,30] (.alt 31 (.done) .stop)) .stop)) .stop)) .stop)) mixed (zJ x1 g1 x2 Store.set_set) ?_;have hfin:S1.set id (.cells ver 164 [L (wl ls),I pos,I d,I v,I c,I l,cs,ds,I m,B bad])=S.set id (yh ver ls ⟨pos,d,v,c,l,m,bad⟩ cs ds):=by rw[hS1,Store.set_set]
  rw[hfin];refine D0 ?_;refine zg ⟨_,_,by simp;rfl,⟨by simp[zn],rfl⟩,zR ?_⟩;exact qH hd hlt _
theorem Ztb{S:Store}{id ver:Nat}(ls:List Ln)(r:Rdr)(cs ds:PV)(hS:S id=yh ver ls r cs ds)(hl:LnsOk ls):
  Spec prog 104 [.ptr id ver 0] S (λq S'=>match qg (zT ls r.pos) [x9] with
   | some [m]=>q=B true/\S'=S.set id (yh ver ls { yV ls r with m:=m } cs ds)
   | _=>q=B false/\S'=S.set id (yh ver ls (yV ls r) cs ds)):=by
 have hnamed:=λS (h:S id=_)=>ZiC (S:=S) (id:=id) (ver:=ver) ls r cs ds [x9] h hl DR
 cases hz:qg (zT ls r.pos) [x9] with
 | none =>
  rw[hz]at hnamed;simp only[vt]at hnamed ⊢;obtain⟨S1,hS1⟩:∃S1,S1=S.set id (yh ver ls (yV ls r) cs ds):=⟨_,rfl⟩;rw[<-hS1];refine yl func104 ntmps104 results104 λnx hd=>?_
  have hlt:id<nx:=qO hd hS DR;have hd1:zW nx S1:=by rw[hS1];exact qH hd hlt _
  refine D0 ?_;refine za (xk [] DW DW λK Gc Gh hK hGc hGh X hX0 hX=>?_);simp -implicitDefEqProofs [hX0,hX]
  try clear hX0 hX X
  refine hGc _ _ _ _ _ _ _ λhsuf=>((hnamed _ ((zD hlt).trans hS)).mono ?_).v
  rintro _ _ ⟨rfl,rfl⟩;refine⟨S1,[],by rw[y9 _ hlt,<-hS1],?_⟩;clear hGc hGh;clear Gc Gh;refine xN hsuf (D:=[]) DW λGc Gh hGc hGh X hX0 hX=>?_
  simp -implicitDefEqProofs [hX0,hX];clear hX0 hX X;refine hK _ _ _ ?_;clear hK hGc hGh;clear K Gc Gh;clear hnamed hsuf hd hS1 hS;have hd:=hd1
  repeat apply za
  refine zb ?_;refine zm DR ?_;refine zh (D0 ?_);exact D1 hd
 | some z =>
  obtain⟨m,rfl⟩:∃m,z=[m]:=by
   have:=XB hz
   match z,this with
   | [m],_=>exact⟨m,rfl⟩
  rw[hz]at hnamed;simp only[vt]at hnamed ⊢;generalize yV ls r=r1 at *;obtain⟨pos,d,v,c,l,m0,bad⟩:=r1;refine yl func104 ntmps104 results104 λnx hd=>?_
  have hlt:id<nx:=qO hd hS DR;refine D0 ?_;refine D0 ?_;refine λhsuf=>((hnamed _ ((zD hlt).trans hS)).mono ?_).v
  rintro _ _ ⟨rfl,rfl⟩;refine⟨_,[],y9 _ hlt,zN hsuf ?_⟩;obtain⟨S1,hS1⟩:∃S1,S1=S.set id (yh ver ls ⟨pos,d,v,c,l,m0,bad⟩ cs ds):=⟨_,rfl⟩;rw[<-hS1];have g1:¬nx<=id:=DQ
  have x1:∀obs,ext S1 nx obs id=yh ver ls ⟨pos,d,v,c,l,m0,bad⟩ cs ds:=λobs=>by rw[zD hlt,hS1,q11]
  repeat apply za
  refine zb ?_;refine zk DR ?_;refine ze [] (zo x1 g1) ?_;have hfin:S1.set id (.cells ver 164 [L (wl ls),I pos,I d,I v,I c,I l,cs,ds,I m,B bad])=S.set id (yh ver ls ⟨pos,d,v,c,l,m,bad⟩ cs ds):=by rw[hS1,Store.set_set]
  rw[hfin];refine D0 ?_;refine zg ⟨_,_,by simp;rfl,⟨by simp[zn],rfl⟩,zR ?_⟩;exact qH hd hlt _
theorem Ztc{S:Store}{id ver:Nat}(ls:List Ln)(r:Rdr)(cs ds:PV)(hS:S id=yh ver ls r cs ds):
  Spec prog 107 [.ptr id ver 0] S (λq S'=>q=B (decide (r.pos=ls.length))/\S'=S):=by
 obtain⟨pos,d,v,c,l,m,bad⟩:=r;have hwl:(wl ls).length=ls.length:=DR
 refine yl func107 ntmps107 results107 λnx hd=>?_
 have hlt:id<nx:=qO hd hS DR;have g1:¬nx<=id:=DQ
 have x1:∀obs,ext S nx obs id=yh ver ls ⟨pos,d,v,c,l,m,bad⟩ cs ds:=λobs=>(zD hlt).trans hS
 refine D0 ?_;refine za (zz (some [id]) (Row.pures [0,1,2,3,4,5,6,7,8,9,10] .done) mixed (zA x1 g1 hwl) ?_);exact zg (zi hd DT (by simp[zn,Int.natCast_inj]))
open Go Go.Proofs
def ZH(n:Int)(ps:Ln)(k:Nat):Bool:=!((ps.take k).all λw=>decide ((w.length:Int)=n))
theorem Ztd(n:Int)(ps:Ln):ZH n ps 0=false:=by simp[ZH]
theorem Zte{n:Int}{ps:Ln}{k:Nat}{w:Wd}(h:ps[k]?=some w):ZH n ps (k+1)=(ZH n ps k || !decide ((w.length:Int)=n)):=by
 unfold ZH;rw[AG,h];simp
theorem Ztf{w:Wd}(h:wM w=true):(vV w).1=jV w/\(vV w).2≠2:=by
 unfold vV jV;rw[if_pos h];split<;>simp
theorem Ztg{w:Wd}(h:wM w=false):(vV w).2=2:=by
 unfold vV;rw[if_neg (by rw[h];simp)]
theorem Zth{S:Store}{id ver idC vC:Nat}(ls:List Ln)(r:Rdr)(cu:List Cust)(ds:PV)(l:Ln)(hS:S id=yh ver ls r (.sl idC vC 8 0 cu.length) ds)(hC:S idC=.cells vC 87 (cu.flatMap Enc.enc))(hcu:cu.length<=1048576)(hl:l.length<=1048576/\∀w∈l,w.length<=1048576):
  Spec prog 142 [.ptr id ver 0,L (l.map bs)] S (λq S'=>match QG r.d l with
   | none=>q=B false/\∃b,S'=S.set id (yh ver ls { r with bad:=b } (.sl idC vC 8 0 cu.length) ds)
   | some (c,ok)=>q=B true/\S'=(S.set id (yh ver ls { r with bad:=r.bad || !ok } (.sl idC (vC+1) 8 0 (cu.length+1)) ds)).set idC (.cells (vC+1) 87 ((cu++[c]).flatMap Enc.enc))):=by
 have hne:id≠idC:=by rintro rfl;rw[hS]at hC;simp at hC
 obtain⟨pos,d,v,c,ln,m,bad⟩:=r;rcases l with _ | ⟨dw,ps⟩
 ·simp only[QG];refine yl func142 ntmps142 results142 λnx hd=>?_
  refine D0 ?_
  repeat apply za
  refine zb ?_;refine zk DR ?_;refine D0 ?_;refine zg ⟨_,_,by simp;rfl,⟨by simp[zn],bad,(Yd S id _ hS).symm⟩,zR ?_⟩;exact hd
 ·rw[Zdq];have hnum:=ZhO dw (by have:=hl.2 dw (by simp);omega);cases hz:jU dw with
  | none =>
   rw[hz]at hnum;simp only[Xp,Da,AT,false_and,if_false]at hnum ⊢;refine yl func142 ntmps142 results142 λnx hd=>?_
   refine D0 ?_
   repeat apply za
   refine zb ?_;refine zm DV ?_;refine zh (D0 ?_);refine zt hnum ?_
   repeat apply za
   refine zb ?_;refine zk DR ?_;refine D0 ?_;refine zg ⟨_,_,by simp;rfl,⟨by simp[zn],bad,(Yd S id _ hS).symm⟩,zR ?_⟩;exact hd
  | some dn =>
   have hdv:yS dw=dn:=by unfold yS;rw[hz];rfl
   rw[hz]at hnum;simp only[Xp]at hnum;refine yl func142 ntmps142 results142 λnx hd=>?_
   have hlt:id<nx:=qO hd hS DR;have hltC:idC<nx:=qO hd hC DR;have g1:¬nx<=id:=DQ
   refine D0 ?_
   repeat apply za
   refine zb ?_;refine zm DV ?_;refine zh (D0 ?_);refine zt hnum ?_
   repeat apply za
   refine zb ?_;refine zm DR ?_;refine zh (D0 ?_);intro v0;refine jg 0 2 98 1 rfl rfl λv1=>?_
   obtain⟨o,ho⟩:∃o,o=(if (some dn).isSome=true/\(ps.all wM)=true then some (Yc dw ps,ps.all λw=>decide ((w.length:Int)=d)) else none):=⟨_,rfl⟩;rw[<-ho];have htk:List.take ps.length ((ps.map bs).flatMap Enc.enc)=(ps.map bs).flatMap Enc.enc:=Ae (by rw[Zaq,List.length_map];exact Ag _);obtain⟨rdB,hrd⟩:∃rdB:Nat->Store,∀k,rdB k=S.set id (yh ver ls ⟨pos,d,v,c,ln,m,bad || ZH d ps k⟩ (.sl idC vC 8 0 cu.length) ds):=⟨_,λ_=>rfl⟩;have hr0:rdB 0=S:=by rw[hrd,Ztd,Bool.or_false];exact Yd S id _ hS
   have x1:∀k obs,ext (rdB k) nx obs id=yh ver ls ⟨pos,d,v,c,ln,m,bad || ZH d ps k⟩ (.sl idC vC 8 0 cu.length) ds:=λk obs=>by rw[zD hlt,hrd,q11]
   have hdB:∀k,zW nx (rdB k):=λk=>by rw[hrd];exact qH hd hlt _
   have hpl:ps.length<=1048576:=by have:=hl.1;simp at this;omega
   repeat apply za
   refine ze [] htk ?_;refine zj (jx (λs:Nat × Nat × Nat=>s.1<=ps.length/\∀w∈ps.take s.1,wM w=true) (λ(k,w0,w1)=>[(0,.ptr id ver 0),(7,.ptr nx w0 0),(27,L (ps.map bs)),(28,I ps.length),(29,I k)]) (λs=>rdB s.1) (λ(k,w0,w1)=>[.cells w0 87 [I 1,I dn,.sl (nx+1) w1 1 0 k,I 0,I 0,I 0,I 0,I 0],.cells w1 98 (((ps.map jV).take k).flatMap Enc.enc)]) (λs=>ps.length-s.1) (zS (0,v0,v1) [] DR DR hr0 DR) ?_);rintro⟨k,w0,w1⟩ ⟨hk,hso⟩;simp only at hk hso ⊢;refine D0 ?_;refine za (zv rfl (λhc=>?_) (λhc=>?_))
   ·simp at hc;obtain⟨w,tl,hw,f0⟩:=XA ps k hc;have hwl:w.length<=1048576:=hl.2 w (by simp[Ab hw]);have hdp:=ZsT w hwl;have hsz:=vk w;refine zh (za (zj (za (ze [] (zo f0 hc) ?_))));refine D0 ?_;refine zt hdp ?_;cases hsg:wM w with
    | false =>
     have hf:=Ztg hsg;have hon:o=none:=by
      rw[ho,if_neg];rintro⟨_,h2⟩;have:=Ax.1 h2 w (Ab hw);rw[hsg]at this;cases this
     repeat apply za
     refine ze [] hf ?_;refine zk DR ?_;refine D0 ?_;refine zg ⟨_,_,by simp;rfl,by rw[hon];exact⟨by simp[zn],_,hrd k⟩,zR (hdB k)⟩
    | true =>
     obtain⟨hf1,hf2⟩:=Ztf hsg;have hso':∀u∈ps.take (k+1),wM u=true:=by
      rw[AG,hw];intro u hu;rw[Ay]at hu;rcases hu with hu | hu
      ·exact hso u hu
      ·obtain rfl:u=w:=by simpa using hu
       exact hsg
     have hnx:((ps.map jV).take (k+1)).flatMap Enc.enc=((ps.map jV).take k).flatMap Enc.enc++[U (jV w)]:=by rw[AG,Aj,hw,Ar];rfl
     have hol:(((ps.map jV).take k).flatMap Enc.enc).length=k:=by rw[ZeJ,Aw,List.length_map];omega
     have htk2:List.take k (((ps.map jV).take k).flatMap Enc.enc)=((ps.map jV).take k).flatMap Enc.enc:=Ae (by rw[hol];exact Ag _);have hbk:=Zte (n:=d) hw
     repeat apply za
     refine ze [] hf2 ?_;refine zm DR ?_;refine zh ?_
     by_cases hq:(w.length:Int)=d
     ·have hrk:rdB (k+1)=rdB k:=by rw[hrd,hrd,hbk,decide_eq_true hq,Bool.not_true,Bool.or_false]
      repeat apply za
      refine ze [] (zA x1 hsz hq) ?_;refine zm DR ?_;refine zh (ze [] (zo hf1 htk2) ?_);refine⟨by omega,?_⟩;refine zb ?_;exact zq (k+1,w0,w1+1) [] ⟨hc,hso'⟩ DQ (by simp[zu k (by omega)]) hrk (by simp only[hnx,AD])
     ·have hrk:(rdB k).set id (yh ver ls ⟨pos,d,v,c,ln,m,true⟩ (.sl idC vC 8 0 cu.length) ds)=rdB (k+1):=by rw[hrd,hrd,hbk,decide_eq_false hq,Db,Bool.or_true,Bool.or_true,Store.set_set]
      repeat apply za
      refine ze [] (zA x1 hsz hq) ?_;refine zk DR ?_;refine ze [] (zo x1 g1) ?_;have hrk2:(rdB k).set id (.cells ver 164 [L (wl ls),I pos,I d,I v,I c,I ln,.sl idC vC 8 0 cu.length,ds,I m,B true])=rdB (k+1):=hrk;rw[hrk2];refine ze [] (zo hf1 htk2) ?_;refine⟨by omega,?_⟩;refine zb ?_;exact zq (k+1,w0,w1+1) [] ⟨hc,hso'⟩ DQ (by simp[zu k (by omega)]) rfl (by simp only[hnx,AD])
   ·simp at hc;obtain rfl:k=ps.length:=DQ
    rw[Ai]at hso;refine zx ?_;have hon:o=some (Yc dw ps,ps.all λw=>decide ((w.length:Int)=d)):=by
     rw[ho,if_pos ⟨rfl,Ax.2 hso⟩]
    have hbl:ZH d ps ps.length=!(ps.all λw=>decide ((w.length:Int)=d)):=by unfold ZH;rw[Ai]
    have hpl2:(ps.map jV).length=ps.length:=DR
    rw[show (ps.map jV).take ps.length=ps.map jV from Ae DR];refine zZ 1 rfl ?_;have hx1:=x1 ps.length;have g2:¬nx<=idC:=DQ
    have hxC:∀obs,ext (rdB ps.length) nx obs idC=.cells vC 87 (cu.flatMap Enc.enc):=λobs=>by rw[zD hltC,hrd,q10 _ _ _ _ (Ne.symm hne),hC]
    have hx2:∀A obs,ext ((rdB ps.length).set idC A) nx obs id=yh ver ls ⟨pos,d,v,c,ln,m,bad || ZH d ps ps.length⟩ (.sl idC vC 8 0 cu.length) ds:=λA obs=>by rw[zD hlt,q10 _ _ _ _ hne,hrd,q11]
    refine za (zz (some [nx]) (Row.pures [0,1,2,3,4,6,7] (.alt 5 (.alt 8 (Row.pures [9,10,11] (.alt 12 (.done) .stop)) .stop) .stop)) mixed (zP hx1 hxC hx2 g1 g2 hpl2) ?_);refine⟨by omega,?_⟩;have hcl:(cu++[Yc dw ps]).flatMap Enc.enc=cu.flatMap Enc.enc++[I 1,I dn,.lst ps.length ((ps.map jV).flatMap Enc.enc),I 0,I 0,I 0,I 0,I 0]:=by
     rw[Ar];congr 1
     show zV (Yc dw ps)=_
     unfold Yc zV;rw[hdv]
     show [I 1,I dn,.lst (ps.map jV).length ((ps.map jV).flatMap Enc.enc),I 0,I 0,I 0,I 0,I 0]=_
     rw[hpl2]
    rw[<-hcl];have hfin:((rdB ps.length).set idC (.cells (vC+1) 87 ((cu++[Yc dw ps]).flatMap Enc.enc))).set id (.cells ver 164 [L (wl ls),I pos,I d,I v,I c,I ln,.sl idC (vC+1) 8 0 (cu.length+1),ds,I m,B (bad || ZH d ps ps.length)])=(S.set id (yh ver ls ⟨pos,d,v,c,ln,m,bad || !(ps.all λw=>decide ((w.length:Int)=d))⟩ (.sl idC (vC+1) 8 0 (cu.length+1)) ds)).set idC (.cells (vC+1) 87 ((cu++[Yc dw ps]).flatMap Enc.enc)):=by
     rw[<-hbl,hrd,Store.set_comm _ idC id _ _ hne,Store.set_set]
    rw[hfin];refine D0 ?_;refine zg ⟨_,_,by simp;rfl,by rw[hon];exact⟨by simp[zn],by rw[Ar];rfl⟩,zR ?_⟩;exact qH (qH hd hlt _) hltC _
theorem ZiD(a:ByteArray):jO .eql a a=some (.bool true):=by simp[jO]
theorem ZiE{l:Ln}(h:l.length≠5):YP l=none:=by
 match l,h with
 | [],_=>rfl
 | [_],_=>rfl
 | [_,_],_=>rfl
 | [_,_,_],_=>rfl
 | [_,_,_,_],_=>rfl
 | [_,_,_,_,_],h=>exact absurd rfl h
 | _ :: _ :: _ :: _ :: _ :: _ :: _,_=>rfl
theorem Zti{S:Store}{id ver idC vC:Nat}(ls:List Ln)(r:Rdr)(cu:List Cust)(ds:PV)(l:Ln)(hS:S id=yh ver ls r (.sl idC vC 8 0 cu.length) ds)(hC:S idC=.cells vC 87 (cu.flatMap Enc.enc))(hcu:cu.length<=1048576)(hl:l.length<=1048576/\∀w∈l,w.length<=1048576):
  Spec prog 143 [.ptr id ver 0,L (l.map bs)] S (λq S'=>match YP l with
   | none=>q=B false/\S'=S
   | some c=>q=B true/\S'=(S.set id (yh ver ls r (.sl idC (vC+1) 8 0 (cu.length+1)) ds)).set idC (.cells (vC+1) 87 ((cu++[c]).flatMap Enc.enc))):=by
 have hneq:id≠idC:=by rintro rfl;rw[hS]at hC;simp at hC
 obtain⟨pos,d,v,c,ln,m,bad⟩:=r
 by_cases h5:l.length=5
 ·obtain⟨a,b,e,ru,h,rfl⟩:∃a b c d e,l=[a,b,c,d,e]:=by
   match l,h5 with
   | [a,b,c,d,e],_=>exact⟨a,b,c,d,e,rfl⟩
  obtain⟨o,ho⟩:∃o,o=YP [a,b,e,ru,h]:=⟨_,rfl⟩;rw[<-ho];rw[Zdr]at ho;have hnum:=Zds [a,b,e,h] DR (λw hw=>by
   have:=hl.2 w (by simp at hw ⊢;rcases hw with rfl | rfl | rfl | rfl<;>simp);omega)
  cases hz:jD [a,b,e,h] with
  | none =>
   rw[hz]at hnum;simp only[vt]at hnum;have hon:o=none:=by rw[ho,hz];simp
   refine yl func143 ntmps143 results143 λnx hd=>?_
   refine D0 ?_
   repeat apply za
   refine zb ?_;refine zm DR ?_;refine zh (za (zz none (Row.pures [0,1,2,3,4,5,6,7,8,9,10,11,12,13,14,15,16,17,18] .done) mixed trivial ?_));refine zH (hnum) trivial ?_
   repeat apply za
   refine zb ?_;refine zk DR ?_;refine D0 ?_;refine zg ⟨_,_,by simp;rfl,by rw[hon];exact⟨by simp[zn],rfl⟩,zR hd⟩
  | some z =>
   have hzv:z=[yS a,yS b,yS e,yS h]:=by
    unfold jD at hz;split at hz<;>cases hz;rfl
   subst hzv;rw[hz]at hnum ho;simp only[vt]at hnum;obtain⟨na,hna⟩:∃x,x=yS a:=⟨_,rfl⟩;obtain⟨nb,hnb⟩:∃x,x=yS b:=⟨_,rfl⟩;obtain⟨ne,hne'⟩:∃x,x=yS e:=⟨_,rfl⟩;obtain⟨nh,hnh⟩:∃x,x=yS h:=⟨_,rfl⟩;rw[<-hna,<-hnb,<-hne',<-hnh]at hnum ho;have hfill:ru=ut->jO .eql (bs ru) ⟨#[102,105,108,108]⟩=some (.bool true):=λq=>by rw[q];exact ZiD _
   have hnfill:ru≠ut->jO .eql (bs ru) ⟨#[102,105,108,108]⟩=some (.bool false):=λq=>Zc9 λhh=>q (Xz.1 hh)
   have hany:ru=uS->jO .eql (bs ru) ⟨#[97,110,121]⟩=some (.bool true):=λq=>by rw[q];exact ZiD _
   have hnany:ru≠uS->jO .eql (bs ru) ⟨#[97,110,121]⟩=some (.bool false):=λq=>Zc9 λhh=>q (Xz.1 hh)
   refine yl func143 ntmps143 results143 λnx hd=>?_
   have hlt:id<nx:=qO hd hS DR;have hltC:idC<nx:=qO hd hC DR;have g1:¬nx<=id:=DQ
   have g2:¬nx<=idC:=DQ
   refine D0 ?_
   repeat apply za
   refine zb ?_;refine zm DR ?_;refine zh (za (zz none (Row.pures [0,1,2,3,4,5,6,7,8,9,10,11,12,13,14,15,16,17,18] .done) mixed trivial ?_));refine zH (hnum) trivial ?_
   repeat apply za
   refine zb ?_;refine zm DR ?_;refine zh (za (zz (some []) (Row.pures [0,1,2,3,4,5,6,7,8,9,10,11,12] (.alt 13 (.alt 14 (.done) .stop) .stop)) mixed trivial ?_));intro v0;refine qu 0 2 rfl rfl ?_
   repeat apply za
   refine zb ?_;refine zj ?_
   by_cases hf:ru=ut
   ·have e1:=hfill hf;refine za (ze [] e1 ?_);refine zk DR ?_;refine zb ?_;have hon:o=some ⟨2,0,[],na,nb,ne,1,nh⟩:=by rw[ho,if_pos ⟨rfl,.inl hf⟩];unfold Xw;rw[if_pos hf]
    have hx1:∀obs,ext S nx obs id=yh ver ls ⟨pos,d,v,c,ln,m,bad⟩ (.sl idC vC 8 0 cu.length) ds:=λobs=>(zD hlt).trans hS
    have hxC:∀obs,ext S nx obs idC=.cells vC 87 (cu.flatMap Enc.enc):=λobs=>(zD hltC).trans hC
    have hx2:∀A obs,ext (S.set idC A) nx obs id=yh ver ls ⟨pos,d,v,c,ln,m,bad⟩ (.sl idC vC 8 0 cu.length) ds:=λA obs=>by rw[zD hlt,q10 _ _ _ _ hneq,hS]
    refine za (zz (some [nx]) (Row.pures [0,1,2,3,4,6,7] (.alt 5 (.alt 8 (Row.pures [9,10,11] (.alt 12 (.done) .stop)) .stop) .stop)) mixed (yv hx1 hxC hx2 g1 g2) ?_);refine⟨by omega,?_⟩;have hcl:(cu++[(⟨2,0,[],na,nb,ne,1,nh⟩:Cust)]).flatMap Enc.enc=cu.flatMap Enc.enc++[I 2,I 0,.lst 0 [],I na,I nb,I ne,I 1,I nh]:=by rw[Ar];rfl
    have hfin:(S.set idC (.cells (vC+1) 87 (cu.flatMap Enc.enc++[I 2,I 0,.lst 0 [],I na,I nb,I ne,I 1,I nh]))).set id (.cells ver 164 [L (wl ls),I pos,I d,I v,I c,I ln,.sl idC (vC+1) 8 0 (cu.length+1),ds,I m,B bad])=(S.set id (yh ver ls ⟨pos,d,v,c,ln,m,bad⟩ (.sl idC (vC+1) 8 0 (cu.length+1)) ds)).set idC (.cells (vC+1) 87 ((cu++[(⟨2,0,[],na,nb,ne,1,nh⟩:Cust)]).flatMap Enc.enc)):=by
     rw[hcl,Store.set_comm _ idC id _ _ hneq]
    rw[hfin];refine D0 ?_;refine zg ⟨_,_,by simp;rfl,by rw[hon];exact⟨by simp[zn],by rw[Ar];rfl⟩,zR ?_⟩;exact qH (qH hd hlt _) hltC _
   ·have e1:=hnfill hf;refine za (ze [] e1 ?_);refine zm DR ?_
    by_cases hy:ru=uS
    ·have e2:=hany hy;refine za (ze [] e2 ?_);refine zk DR ?_;refine zb ?_;have hon:o=some ⟨2,0,[],na,nb,ne,2,nh⟩:=by rw[ho,if_pos ⟨rfl,.inr hy⟩];unfold Xw;rw[if_neg hf]
     have hx1:∀obs,ext S nx obs id=yh ver ls ⟨pos,d,v,c,ln,m,bad⟩ (.sl idC vC 8 0 cu.length) ds:=λobs=>(zD hlt).trans hS
     have hxC:∀obs,ext S nx obs idC=.cells vC 87 (cu.flatMap Enc.enc):=λobs=>(zD hltC).trans hC
     have hx2:∀A obs,ext (S.set idC A) nx obs id=yh ver ls ⟨pos,d,v,c,ln,m,bad⟩ (.sl idC vC 8 0 cu.length) ds:=λA obs=>by rw[zD hlt,q10 _ _ _ _ hneq,hS]
     refine za (zz (some [nx]) (Row.pures [0,1,2,3,4,6,7] (.alt 5 (.alt 8 (Row.pures [9,10,11] (.alt 12 (.done) .stop)) .stop) .stop)) mixed (yv hx1 hxC hx2 g1 g2) ?_);refine⟨by omega,?_⟩;have hcl:(cu++[(⟨2,0,[],na,nb,ne,2,nh⟩:Cust)]).flatMap Enc.enc=cu.flatMap Enc.enc++[I 2,I 0,.lst 0 [],I na,I nb,I ne,I 2,I nh]:=by rw[Ar];rfl
     have hfin:(S.set idC (.cells (vC+1) 87 (cu.flatMap Enc.enc++[I 2,I 0,.lst 0 [],I na,I nb,I ne,I 2,I nh]))).set id (.cells ver 164 [L (wl ls),I pos,I d,I v,I c,I ln,.sl idC (vC+1) 8 0 (cu.length+1),ds,I m,B bad])=(S.set id (yh ver ls ⟨pos,d,v,c,ln,m,bad⟩ (.sl idC (vC+1) 8 0 (cu.length+1)) ds)).set idC (.cells (vC+1) 87 ((cu++[(⟨2,0,[],na,nb,ne,2,nh⟩:Cust)]).flatMap Enc.enc)):=by
      rw[hcl,Store.set_comm _ idC id _ _ hneq]
     rw[hfin];refine D0 ?_;refine zg ⟨_,_,by simp;rfl,by rw[hon];exact⟨by simp[zn],by rw[Ar];rfl⟩,zR ?_⟩;exact qH (qH hd hlt _) hltC _
    ·have e2:=hnany hy;have hon:o=none:=by rw[ho,if_neg];rintro⟨_,q | q⟩;exact hf q;exact hy q
     refine za (ze [] e2 ?_);refine zm DR ?_;refine D0 ?_;refine zg ⟨_,_,by simp;rfl,by rw[hon];exact⟨by simp[zn],rfl⟩,zR hd⟩
 ·rw[ZiE h5];refine yl func143 ntmps143 results143 λnx hd=>?_
  refine D0 ?_;have h5':¬(l.length:Int)=5:=DQ
  repeat apply za
  refine ze [] h5' ?_;refine zk DR ?_;refine D0 ?_;refine zg ⟨_,_,by simp;rfl,⟨by simp[zn],rfl⟩,zR hd⟩
open Go Go.Proofs
theorem XC(ls:List Ln)(p k:Nat):yU ls p (k+1)=yU ls p k++[zT ls (p+k)]:=by simp[yU,AK]
theorem ZaK(ls:List Ln)(p k:Nat):(yU ls p k).length=k:=by simp[yU]
theorem ZiF{ls:List Ln}{p k n:Nat}{f:Ln->Bool}(hk:k<n)(h:f (zT ls (p+k))=false):(yU ls p n).all f=false:=by
 rw[Bm];exact⟨zT ls (p+k),Al.2 ⟨k,AL.2 hk,rfl⟩,by simp[h]⟩
theorem ZiG{a b:ByteArray}(h:a≠b):(a == b)=false:=by
 have e:(a == b)=(a.data == b.data):=by cases a;cases b;rfl
 rw[e,beq_eq_false_iff_ne];exact λhh=>h (by cases a;cases b;cases hh;rfl)
abbrev XE(id ver:Nat):List (Value × PV):=[(.string ⟨#[118,105,115,105,116]⟩,.fn (.func 142) [.ptr id ver 0] []),(.string ⟨#[116,97,110,107]⟩,.fn (.func 143) [.ptr id ver 0] [])]
def ju(ls:List Ln)(d:Int)(p k:Nat):List Cust:=(yU ls p k).map λl=>(vp d l).1
def jM(ls:List Ln)(d:Int)(p k:Nat):Bool:=(yU ls p k).all λl=>(vp d l).2
theorem ZiH(ls:List Ln)(d:Int)(p k:Nat):ju ls d p (k+1)=ju ls d p k++[(vp d (zT ls (p+k))).1]:=by simp[ju,XC]
theorem ZiI(ls:List Ln)(d:Int)(p k:Nat):jM ls d p (k+1)=(jM ls d p k && (vp d (zT ls (p+k))).2):=by simp[jM,XC]
theorem ZiJ(ls:List Ln)(d:Int)(p k:Nat):(ju ls d p k).length=k:=by simp[ju,ZaK]
theorem Ztj{S:Store}{id ver idC vC:Nat}(ls:List Ln)(r:Rdr)(n:Nat)(ds:PV)(hS:S id=yh ver ls r (.sl idC vC 8 0 0) ds)(hC:S idC=.cells vC 87 [])(hl:LnsOk ls)(hm:r.m=n)(hp:r.pos<=ls.length)(hb:r.bad=false):
  Spec prog 105 [.ptr id ver 0] S (λq S'=>if (yU ls r.pos n).all (λl=>(wd r.d l).isSome)=true then
    q=B true/\r.pos+n<=ls.length/\S'=(S.set id (yh ver ls { r with pos:=r.pos+n,bad:=!(jM ls r.d r.pos n) } (.sl idC (vC+n) 8 0 n) ds)).set idC (.cells (vC+n) 87 ((ju ls r.d r.pos n).flatMap Enc.enc))
   else q=B false/\∃r' cs' oC,S'=(S.set id (yh ver ls r' cs' ds)).set idC oC):=by
 have hne:id≠idC:=by rintro rfl;rw[hS]at hC;simp at hC
 obtain⟨pos,d,v,c,ln,m,bad⟩:=r;simp only at hm hp hb ⊢;subst hm hb;obtain⟨o,ho⟩:∃o,o=(yU ls pos n).all (λl=>(wd d l).isSome):=⟨_,rfl⟩;rw[<-ho];obtain⟨St,hSt⟩:∃St:Nat->Store,∀k,St k=(S.set id (yh ver ls ⟨pos+k,d,v,c,ln,n,!(jM ls d pos k)⟩ (.sl idC (vC+k) 8 0 k) ds)).set idC (.cells (vC+k) 87 ((ju ls d pos k).flatMap Enc.enc)):=⟨_,λ_=>rfl⟩;have hS0:St 0=S:=by
  rw[hSt];have e1:S.set id (yh ver ls ⟨pos+0,d,v,c,ln,n,!(jM ls d pos 0)⟩ (.sl idC (vC+0) 8 0 0) ds)=S:=Yd S id _ hS;rw[e1];exact Yd S idC _ hC
 refine yl func105 ntmps105 results105 λnx hd=>?_
 have hlt:id<nx:=qO hd hS DR;have hltC:idC<nx:=qO hd hC DR;have g1:¬nx<=id:=DQ
 have g2:¬nx<=idC:=DQ
 have xi:∀k,St k id=yh ver ls ⟨pos+k,d,v,c,ln,n,!(jM ls d pos k)⟩ (.sl idC (vC+k) 8 0 k) ds:=λk=>by rw[hSt,q10 _ _ _ _ hne,q11]
 have xc:∀k,St k idC=.cells (vC+k) 87 ((ju ls d pos k).flatMap Enc.enc):=λk=>by rw[hSt,q11]
 have hdS:∀k,zW nx (St k):=λk=>by rw[hSt];exact qH (qH hd hlt _) hltC _
 have x1:∀obs,ext S nx obs id=yh ver ls ⟨pos,d,v,c,ln,n,false⟩ (.sl idC vC 8 0 0) ds:=λobs=>(zD hlt).trans hS
 refine D0 ?_;refine D0 ?_;intro v0;refine λhsuf=>Yt (.inr rfl) underlying202 underlying9 rfl rfl rfl (by rw[Zn];rfl) rfl ?_
 refine⟨_,_,yk _ (Ag _) DR,zN hsuf ?_⟩;refine λhsuf=>Yt (.inr rfl) underlying202 underlying9 rfl rfl rfl (by rw[Zn];simp;rfl) (by simp[jf,qU];rfl) ?_
 refine⟨_,_,yk _ (Ag _) DR,zN hsuf ?_⟩
 repeat apply za
 refine ze [] x1 ?_;have hform:∀k r' cs',(St k).set id (yh ver ls r' cs' ds)=(S.set id (yh ver ls r' cs' ds)).set idC (.cells (vC+k) 87 ((ju ls d pos k).flatMap Enc.enc)):=λk r' cs'=>by
  rw[hSt,Store.set_comm _ idC id _ _ hne,Store.set_set]
 refine zj (jx (λk:Nat=>k<=n/\pos+k<=ls.length/\∀l∈yU ls pos k,(wd d l).isSome=true) (λk=>[(0,.ptr id ver 0),(3,.mp nx v0),(16,I n),(17,I k)]) St (λ_=>[.map v0 (XE id ver)]) (λk=>n-k) (zS 0 [] ⟨by simp,by simpa using hp,by simp[yU]⟩ DR hS0 rfl) ?_);rintro k ⟨hk,hpk,hall⟩;refine D0 ?_;refine za (zv rfl (λhc=>?_) (λhc=>?_))
 ·simp at hc;have hkn:k<n:=DQ
  have hnext:=λS (h:S id=_)=>WM (S:=S) (id:=id) (ver:=ver) ls ⟨pos+k,d,v,c,ln,n,!(jM ls d pos k)⟩ (.sl idC (vC+k) 8 0 k) ds h hl.1
  have hla:=hl.at (pos+k);refine zh (za (zj ?_));obtain⟨S1,hS1⟩:∃S1,S1=(St k).set id (yh ver ls (yV ls ⟨pos+k,d,v,c,ln,n,!(jM ls d pos k)⟩) (.sl idC (vC+k) 8 0 k) ds):=⟨_,rfl⟩;have hd1:zW nx S1:=by rw[hS1];exact qH (hdS k) hlt _
  have hbad:wd d (zT ls (pos+k))=none->o=false:=λq=>by rw[ho];exact ZiF hkn (by rw[q];rfl)
  simp only at hnext;refine za (xk [] DW DW λK Gc Gh hK hGc hGh X hX0 hX=>?_);simp -implicitDefEqProofs [hX0,hX]
  try clear hX0 hX X
  refine hGc _ _ _ _ _ _ _ λhsuf=>((hnext _ ((zD hlt).trans (xi k))).mono ?_).v
  rintro _ _ ⟨rfl,rfl⟩;refine⟨S1,_,by rw[y9 _ hlt,<-hS1],?_⟩;clear hGc hGh;clear Gc Gh;refine xN hsuf (D:=[]) DW λGc Gh hGc hGh X hX0 hX=>?_
  simp -implicitDefEqProofs [hX0,hX];clear hX0 hX X;refine hK _ _ _ ?_;clear hK hGc hGh;clear K Gc Gh;clear hnext hsuf;rcases hline:zT ls (pos+k) with _ | ⟨w,l'⟩
  ·have hof:=hbad (by rw[hline];rfl)
   repeat apply za
   refine zb ?_;refine zk DR ?_;refine D0 ?_;refine zg ⟨_,_,by simp;rfl,by rw[hof];simp only[AT,if_false];exact⟨by simp[zn],_,_,_,by rw[hS1];exact hform k _ _⟩,zR hd1⟩
  ·repeat apply za
   refine zb ?_;refine zm DV ?_;refine zh ?_;have hm0:ext S1 nx [.map v0 (XE id ver)] nx=.map v0 (XE id ver):=by rw[Zn];rfl
   have hp1:pos+k<ls.length:=by
    apply Dt;intro hh;unfold zT at hline;rw[Aa,Ak hh]at hline;cases hline
   have hnk:yV ls ⟨pos+k,d,v,c,ln,n,!(jM ls d pos k)⟩=⟨pos+k+1,d,v,c,ln,n,!(jM ls d pos k)⟩:=if_pos hp1;rw[hnk]at hS1;have hcl:=ZiJ ls d pos k;have hls:=hl.1;have hS1i:S1 id=yh ver ls ⟨pos+k+1,d,v,c,ln,n,!(jM ls d pos k)⟩ (.sl idC (vC+k) 8 0 (ju ls d pos k).length) ds:=by rw[hS1,q11,hcl]
   have hS1c:S1 idC=.cells (vC+k) 87 ((ju ls d pos k).flatMap Enc.enc):=by rw[hS1,q10 _ _ _ _ (Ne.symm hne),xc]
   have hl':l'.length<=1048576/\∀u∈l',u.length<=1048576:=by
    rw[hline]at hla;exact⟨by have:=hla.1;simp at this;omega,λu hu=>hla.2 u (by simp[hu])⟩
   have htl:List.take l'.length ((l'.map bs).flatMap Enc.enc)=(l'.map bs).flatMap Enc.enc:=Ae (by rw[Zaq,List.length_map];exact Ag _);have hLL:L (l'.map bs)=.lst l'.length ((l'.map bs).flatMap Enc.enc):=by unfold L;rw[List.length_map]
   have hset1:∀r' cs',S1.set id (yh ver ls r' cs' ds)=(S.set id (yh ver ls r' cs' ds)).set idC (.cells (vC+k) 87 ((ju ls d pos k).flatMap Enc.enc)):=λr' cs'=>by rw[hS1,Store.set_set,hform]
   have hset2:∀r' cs' oC,(S1.set id (yh ver ls r' cs' ds)).set idC oC=(S.set id (yh ver ls r' cs' ds)).set idC oC:=λr' cs' oC=>by rw[hset1,Store.set_set]
   obtain⟨zf,hzf⟩:∃z,Program.zeroOf prog 201=some z:=BZ.1 DU;have q1:w≠vU->(bs w == ⟨#[118,105,115,105,116]⟩)=false:=λh=>ZiG λhh=>h (Xz.1 hh)
   have q2:w≠QF->(bs w == ⟨#[116,97,110,107]⟩)=false:=λh=>ZiG λhh=>h (Xz.1 hh)
   by_cases hv:w=vU
   ·have hf:jf .string (.string (bs w)) (XE id ver) 0=some (some (0,.fn (.func 142) [.ptr id ver 0] [])):=by rw[hv];rfl
    refine D0 ?_;refine λhsuf=>Zm rfl underlying202 underlying9 rfl rfl rfl hm0 hf hzf ?_
    refine⟨_,_,rfl,?_⟩;have hlk:ZR true zf (some (0,.fn (.func 142) [.ptr id ver 0] []))=.tup [.fn (.func 142) [.ptr id ver 0] [],B true]:=rfl;refine jG [] hlk hsuf ?_;have hvis:=λS (h1:S id=_) (h2:S idC=_)=>Zth (S:=S) (id:=id) (ver:=ver) (idC:=idC) (vC:=vC+k) ls ⟨pos+k+1,d,v,c,ln,n,!(jM ls d pos k)⟩ (ju ls d pos k) ds l' h1 h2 (by rw[hcl];omega) hl'
    have hcz:wd d (zT ls (pos+k))=QG d l':=by rw[hline];exact if_pos hv
    simp only[hLL]at hvis;cases hvz:QG d l' with
    | none =>
     have hof:=hbad (by rw[hcz,hvz]);rw[hvz]at hvis;simp only at hvis;refine za (ze [(2,34)] htl ?_);refine λhsuf=>((hvis _ ((zD hlt).trans hS1i) ((zD hltC).trans hS1c)).mono ?_).v
     rintro _ _ ⟨rfl,b,rfl⟩;refine⟨_,_,y9 _ hlt,jG [(2,34)] trivial hsuf ?_⟩;refine zk DR ?_;refine D0 ?_;refine zg ⟨_,_,by simp;rfl,by rw[hof];simp only[AT,if_false];exact⟨by simp[zn],_,_,_,hset1 _ _⟩,zR (qH hd1 hlt _)⟩
    | some cc =>
     obtain⟨cu1,ok1⟩:=cc;rw[hvz]at hvis;simp only at hvis;refine za (ze [(2,34)] htl ?_);refine λhsuf=>((hvis _ ((zD hlt).trans hS1i) ((zD hltC).trans hS1c)).mono ?_).v
     rintro _ _ ⟨rfl,rfl⟩;refine⟨_,_,by rw[y9 _ hlt,y9 _ hltC],jG [(2,34)] trivial hsuf ?_⟩;refine zm DR ?_;refine zh (zb ?_);have hcv:vp d (zT ls (pos+k))=(cu1,ok1):=by unfold vp;rw[hcz,hvz];rfl
     have hst:St (k+1)=(S1.set id (yh ver ls ⟨pos+k+1,d,v,c,ln,n,!(jM ls d pos k) || !ok1⟩ (.sl idC (vC+k+1) 8 0 ((ju ls d pos k).length+1)) ds)).set idC (.cells (vC+k+1) 87 ((ju ls d pos k++[cu1]).flatMap Enc.enc)):=by
      rw[hset2,hSt,ZiI,ZiH,hcv,hcl,Bool.not_and];rfl
     exact zq (k+1) [] ⟨hkn,hp1,λl hlm=>by
      rw[XC,Ay]at hlm;rcases hlm with q | q
      ·exact hall l q
      ·obtain rfl:l=zT ls (pos+k):=by simpa using q
       rw[hcz,hvz];rfl⟩ DQ (by simp[zu k (by omega)]) (hst.trans (by rw[Ar];rfl)) rfl
   ·by_cases hk:w=QF
    ·have hf:jf .string (.string (bs w)) (XE id ver) 0=some (some (1,.fn (.func 143) [.ptr id ver 0] [])):=by rw[hk];rfl
     refine D0 ?_;refine λhsuf=>Zm rfl underlying202 underlying9 rfl rfl rfl hm0 hf hzf ?_
     refine⟨_,_,rfl,?_⟩;have hlk:ZR true zf (some (1,.fn (.func 143) [.ptr id ver 0] []))=.tup [.fn (.func 143) [.ptr id ver 0] [],B true]:=rfl;refine jG [] hlk hsuf ?_;have htan:=λS (h1:S id=_) (h2:S idC=_)=>Zti (S:=S) (id:=id) (ver:=ver) (idC:=idC) (vC:=vC+k) ls ⟨pos+k+1,d,v,c,ln,n,!(jM ls d pos k)⟩ (ju ls d pos k) ds l' h1 h2 (by rw[hcl];omega) hl'
     have hcz:wd d (zT ls (pos+k))=(YP l').map (·,true):=by rw[hline];exact(if_neg hv).trans (if_pos hk)
     simp only[hLL]at htan;cases hvz:YP l' with
     | none =>
      have hof:=hbad (by rw[hcz,hvz];rfl);rw[hvz]at htan;simp only at htan;refine za (ze [(2,34)] htl ?_);refine λhsuf=>((htan _ ((zD hlt).trans hS1i) ((zD hltC).trans hS1c)).mono ?_).v
      rintro _ _ ⟨rfl,rfl⟩;refine⟨_,_,rfl,jG [(2,34)] trivial hsuf ?_⟩;refine zk DR ?_;refine D0 ?_;refine zg ⟨_,_,by simp;rfl,by rw[hof];simp only[AT,if_false];exact⟨by simp[zn],_,_,_,by rw[hS1];exact hform k _ _⟩,zR hd1⟩
     | some cu1 =>
      rw[hvz]at htan;simp only at htan;refine za (ze [(2,34)] htl ?_);refine λhsuf=>((htan _ ((zD hlt).trans hS1i) ((zD hltC).trans hS1c)).mono ?_).v
      rintro _ _ ⟨rfl,rfl⟩;refine⟨_,_,by rw[y9 _ hlt,y9 _ hltC],jG [(2,34)] trivial hsuf ?_⟩;refine zm DR ?_;refine zh (zb ?_);have hcv:vp d (zT ls (pos+k))=(cu1,true):=by unfold vp;rw[hcz,hvz];rfl
      have hst:St (k+1)=(S1.set id (yh ver ls ⟨pos+k+1,d,v,c,ln,n,!(jM ls d pos k)⟩ (.sl idC (vC+k+1) 8 0 ((ju ls d pos k).length+1)) ds)).set idC (.cells (vC+k+1) 87 ((ju ls d pos k++[cu1]).flatMap Enc.enc)):=by
       rw[hset2,hSt,ZiI,ZiH,hcv,hcl,DL];rfl
      exact zq (k+1) [] ⟨hkn,hp1,λl hlm=>by
       rw[XC,Ay]at hlm;rcases hlm with q | q
       ·exact hall l q
       ·obtain rfl:l=zT ls (pos+k):=by simpa using q
        rw[hcz,hvz];rfl⟩ DQ (by simp[zu k (by omega)]) (hst.trans (by rw[Ar];rfl)) rfl
    ·have hf:jf .string (.string (bs w)) (XE id ver) 0=some none:=by
      simp[jf,Instr.sameNow,q1 hv,q2 hk]
     have hcz:wd d (zT ls (pos+k))=none:=by rw[hline];exact(if_neg hv).trans (if_neg hk)
     have hof:=hbad hcz;refine D0 ?_;refine λhsuf=>Zm rfl underlying202 underlying9 rfl rfl rfl hm0 hf hzf ?_
     refine⟨_,_,rfl,?_⟩;have hlk:ZR true zf none=.tup [Y4 zf,B false]:=rfl;refine jG [] hlk hsuf ?_;refine za (ze [(2,34)] zB ?_);refine zk DR ?_;refine D0 ?_;refine zg ⟨_,_,by simp;rfl,by rw[hof];simp only[AT,if_false];exact⟨by simp[zn],_,_,_,by rw[hS1];exact hform k _ _⟩,zR hd1⟩
 ·simp at hc;obtain rfl:k=n:=DQ
  have hot:o=true:=by rw[ho,Ax];exact hall
  refine zx (D0 ?_);refine zg ⟨_,_,by simp;rfl,by rw[hot];simp only[if_true];exact⟨by simp[zn],hpk,hSt _⟩,zR (hdS _)⟩
def xB(ls:List Ln)(p k:Nat):List (List Int):=(yU ls p k).map λl=>l.map yS
theorem Ztk(ls:List Ln)(p k:Nat):xB ls p (k+1)=xB ls p k++[(zT ls (p+k)).map yS]:=by simp[xB,XC]
theorem ZiK(ls:List Ln)(p k:Nat):(xB ls p k).length=k:=by simp[xB,ZaK]
theorem Ztl{S:Store}{id ver idD vD:Nat}(ls:List Ln)(r:Rdr)(n:Nat)(cs:PV)(hS:S id=yh ver ls r cs (.sl idD vD 1 0 0))(hD:S idD=.cells vD 26 [])(hl:LnsOk ls)(hm:r.m=n)(hn:n<=1048576)(hp:r.pos<=ls.length):
  Spec prog 106 [.ptr id ver 0] S (λq S'=>if zT ls r.pos=[jt]/\(yU ls (r.pos+1) (n+1)).all (vq (n+1))=true then
    q=B true/\r.pos+1+(n+1)<=ls.length/\S'=(S.set id (yh ver ls { r with pos:=r.pos+1+(n+1) } cs (.sl idD (vD+(n+1)) 1 0 (n+1)))).set idD (.cells (vD+(n+1)) 26 ((xB ls (r.pos+1) (n+1)).flatMap Enc.enc))
   else q=B false/\∃r' ds' oD,S'=(S.set id (yh ver ls r' cs ds')).set idD oD):=by
 have hne:id≠idD:=by rintro rfl;rw[hS]at hD;simp at hD
 obtain⟨pos,d,v,c,ln,m,bad⟩:=r;simp only at hm hp ⊢;subst hm;obtain⟨o,ho⟩:∃o:Bool,o=(decide (zT ls pos=[jt]) && (yU ls (pos+1) (n+1)).all (vq (n+1))):=⟨_,rfl⟩;have hiff:(zT ls pos=[jt]/\(yU ls (pos+1) (n+1)).all (vq (n+1))=true)<->o=true:=by rw[ho,Av,decide_eq_true_eq]
 simp only[hiff];obtain⟨St,hSt⟩:∃St:Nat->Store,∀k,St k=(S.set id (yh ver ls ⟨pos+1+k,d,v,c,ln,n,bad⟩ cs (.sl idD (vD+k) 1 0 k))).set idD (.cells (vD+k) 26 ((xB ls (pos+1) k).flatMap Enc.enc)):=⟨_,λ_=>rfl⟩;have hnext0:=λS (h:S id=_)=>WM (S:=S) (id:=id) (ver:=ver) ls ⟨pos,d,v,c,ln,n,bad⟩ cs (.sl idD vD 1 0 0) h hl.1
 have heq:=ZiB (zT ls pos) [jt] (hl.at pos).1 DR;obtain⟨S1,hS1⟩:∃S1,S1=S.set id (yh ver ls (yV ls ⟨pos,d,v,c,ln,n,bad⟩) cs (.sl idD vD 1 0 0)):=⟨_,rfl⟩;have hS1d:S1 idD=.cells vD 26 []:=by rw[hS1,q10 _ _ _ _ (Ne.symm hne),hD]
 refine yl func106 ntmps106 results106 λnx hd=>?_
 have hlt:id<nx:=qO hd hS DR;have hltD:idD<nx:=qO hd hD DR;have g1:¬nx<=id:=DQ
 have g2:¬nx<=idD:=DQ
 have hd1:zW nx S1:=by rw[hS1];exact qH hd hlt _
 have hdS:∀k,zW nx (St k):=λk=>by rw[hSt];exact qH (qH hd hlt _) hltD _
 simp only at hnext0;refine D0 ?_
 repeat apply za
 refine zb ?_;refine λhsuf=>((hnext0 _ ((zD hlt).trans hS)).mono ?_).v
 rintro _ _ ⟨rfl,rfl⟩;refine⟨S1,[],by rw[y9 _ hlt,<-hS1],zN hsuf ?_⟩;refine λhsuf=>((heq _).mono ?_).v
 rintro _ _ ⟨rfl,rfl⟩;refine⟨_,_,rfl,zN hsuf ?_⟩
 by_cases hw:zT ls pos=[jt]
 ·have hp1:pos<ls.length:=by
   apply Dt;intro hh;unfold zT at hw;rw[Aa,Ak hh]at hw;cases hw
  have hnk:yV ls ⟨pos,d,v,c,ln,n,bad⟩=⟨pos+1,d,v,c,ln,n,bad⟩:=if_pos hp1;rw[hnk]at hS1;have hS10:St 0=S1:=by
   rw[hSt,hS1];refine Yd _ idD _ ?_;rw[q10 _ _ _ _ (Ne.symm hne),hD];rfl
  have x1:∀obs,ext S1 nx obs id=yh ver ls ⟨pos+1,d,v,c,ln,n,bad⟩ cs (.sl idD vD 1 0 0):=λobs=>by rw[zD hlt,hS1,q11]
  have xi:∀k,St k id=yh ver ls ⟨pos+1+k,d,v,c,ln,n,bad⟩ cs (.sl idD (vD+k) 1 0 k):=λk=>by rw[hSt,q10 _ _ _ _ hne,q11]
  have xd:∀k,St k idD=.cells (vD+k) 26 ((xB ls (pos+1) k).flatMap Enc.enc):=λk=>by rw[hSt,q11]
  have wn:IntKind.i64.wrap ((n:Int)+1)=(n:Int)+1:=by rw[AF];omega
  refine zm (by simp[hw]) ?_;refine zh ?_
  repeat apply za
  refine ze [] (zo x1 wn) ?_;refine zj (jx (λk:Nat=>k<=n+1/\pos+1+k<=ls.length/\∀l∈yU ls (pos+1) k,vq (n+1) l=true) (λk=>[(0,.ptr id ver 0),(14,I ((n:Int)+1)),(15,I k)]) St (λ_=>[]) (λk=>n+1-k) (zS 0 [] ⟨by simp,by omega,by simp[yU]⟩ DR hS10 rfl) ?_);rintro k ⟨hk,hpk,hall⟩;refine D0 ?_
  by_cases hkn:k<n+1
  ·have hki:(k:Int)<(n:Int)+1:=DQ
   have hnext:=λS (h:S id=_)=>WM (S:=S) (id:=id) (ver:=ver) ls ⟨pos+1+k,d,v,c,ln,n,bad⟩ cs (.sl idD (vD+k) 1 0 k) h hl.1
   have hla:=hl.at (pos+1+k);have hnum:=Zds (zT ls (pos+1+k)) hla.1 (λw hw=>by have:=hla.2 w hw;omega);obtain⟨S2,hS2⟩:∃S2,S2=(St k).set id (yh ver ls (yV ls ⟨pos+1+k,d,v,c,ln,n,bad⟩) cs (.sl idD (vD+k) 1 0 k)):=⟨_,rfl⟩;have hd2:zW nx S2:=by rw[hS2];exact qH (hdS k) hlt _
   have hform:∀r' ds',(St k).set id (yh ver ls r' cs ds')=(S.set id (yh ver ls r' cs ds')).set idD (.cells (vD+k) 26 ((xB ls (pos+1) k).flatMap Enc.enc)):=λr' ds'=>by
    rw[hSt,Store.set_comm _ idD id _ _ hne,Store.set_set]
   have hbad:vq (n+1) (zT ls (pos+1+k))=false->o=false:=λq=>by rw[ho,ZiF hkn q,Cw]
   simp only at hnext;refine za (zk DV ?_);refine zh (za (zj ?_));obtain⟨p2,hr2⟩:∃p2,yV ls ⟨pos+1+k,d,v,c,ln,n,bad⟩=⟨p2,d,v,c,ln,n,bad⟩:=by
    unfold yV;split
    ·exact⟨_,rfl⟩
    ·exact⟨_,rfl⟩
   have hp2:pos+1+k<ls.length->p2=pos+1+k+1:=λh=>by
    unfold yV at hr2;rw[if_pos h]at hr2;exact(congrArg Rdr.pos hr2).symm
   rw[hr2]at hS2 hnext;have x2:∀obs,ext S2 nx obs id=yh ver ls ⟨p2,d,v,c,ln,n,bad⟩ cs (.sl idD (vD+k) 1 0 k):=λobs=>by rw[zD hlt,hS2,q11]
   cases hz:jD (zT ls (pos+1+k)) with
   | none =>
    have hof:=hbad (by unfold vq;rw[hz];rfl);rw[hz]at hnum;simp only[vt]at hnum;refine D0 ?_;refine λhsuf=>((hnext _ ((zD hlt).trans (xi k))).mono ?_).v
    rintro _ _ ⟨rfl,rfl⟩;refine⟨S2,_,by rw[y9 _ hlt,<-hS2],zN hsuf ?_⟩;refine λhsuf=>((hnum _).mono ?_).v
    rintro _ _ ⟨rfl,rfl⟩;refine⟨_,_,rfl,zN hsuf ?_⟩
    repeat apply za
    refine ze [(2,25)] zB ?_;refine zk DR ?_;refine D0 ?_;refine zg ⟨_,_,by simp;rfl,by rw[hof];simp only[AT,if_false];exact⟨by simp[zn],_,_,_,by rw[hS2];exact hform _ _⟩,zR hd2⟩
   | some z =>
    have hzl:=Ziq hz;rw[hz]at hnum;simp only[vt]at hnum;refine D0 ?_;refine λhsuf=>((hnext _ ((zD hlt).trans (xi k))).mono ?_).v
    rintro _ _ ⟨rfl,rfl⟩;refine⟨S2,_,by rw[y9 _ hlt,<-hS2],zN hsuf ?_⟩;refine λhsuf=>((hnum _).mono ?_).v
    rintro _ _ ⟨rfl,rfl⟩;refine⟨_,_,rfl,zN hsuf ?_⟩
    by_cases hlen:z.length=n+1
    ·have hll:(z.length:Int)=(n:Int)+1:=DQ
     repeat apply za
     refine ze [(2,25)] (zA x2 wn hll) ?_;refine zm DR ?_;refine zh ?_;have hll2:(zT ls (pos+1+k)).length=n+1:=by rw[<-hzl];exact hlen
     have hpl:pos+1+k<ls.length:=by
      apply Dt;intro hh;unfold zT at hll2;rw[Aa,Ak hh]at hll2;simp at hll2
     obtain rfl:=hp2 hpl;have hzv:z=(zT ls (pos+1+k)).map yS:=by
      unfold jD at hz;split at hz<;>cases hz;rfl
     have hdl:=ZiK ls (pos+1) k;have hfl:((xB ls (pos+1) k).flatMap Enc.enc).length=k:=by rw[jR,hdl]
     have htk:List.take k ((xB ls (pos+1) k).flatMap Enc.enc)=(xB ls (pos+1) k).flatMap Enc.enc:=Ae (by rw[hfl];exact Ag _);have xd2:∀obs,ext S2 nx obs idD=.cells (vD+k) 26 ((xB ls (pos+1) k).flatMap Enc.enc):=λobs=>by rw[zD hltD,hS2,q10 _ _ _ _ (Ne.symm hne),xd]
     have x3:∀A obs,ext (S2.set idD A) nx obs id=yh ver ls ⟨pos+1+k+1,d,v,c,ln,n,bad⟩ cs (.sl idD (vD+k) 1 0 k):=λA obs=>by rw[zD hlt,q10 _ _ _ _ hne,hS2,q11]
     have hkb:k<=1048576:=DQ
     clear hfl;refine ze [] (zP x2 xd2 x3 g1 g2 htk) ?_;refine⟨by omega,?_⟩;have hst:St (k+1)=(S2.set idD (.cells (vD+k+1) 26 ((xB ls (pos+1) k).flatMap Enc.enc++[L z]))).set id (.cells ver 164 [L (wl ls),I ((pos:Int)+1+k+1),I d,I v,I c,I ln,cs,.sl idD (vD+k+1) 1 0 (k+1),I n,B bad]):=by
      have e:(.cells ver 164 [L (wl ls),I ((pos:Int)+1+k+1),I d,I v,I c,I ln,cs,.sl idD (vD+k+1) 1 0 (k+1),I n,B bad]:Ob)=yh ver ls ⟨pos+1+k+1,d,v,c,ln,n,bad⟩ cs (.sl idD (vD+k+1) 1 0 (k+1)):=rfl;rw[e,hS2,Store.set_comm _ idD id _ _ hne,Store.set_set,hform,Store.set_set,hSt,Ztk,Ar,<-hzv];rfl
     rw[<-hst];refine zb ?_;exact zq (k+1) [] ⟨hkn,hpl,λl hlm=>by
      rw[XC,Ay]at hlm;rcases hlm with q | q
      ·exact hall l q
      ·obtain rfl:l=zT ls (pos+1+k):=by simpa using q
       unfold vq;rw[hz,decide_eq_true hll2];rfl⟩ DQ (by simp[zu k (by omega)]) rfl rfl
    ·have hll:¬(z.length:Int)=(n:Int)+1:=DQ
     have hof:=hbad (by unfold vq;rw[hz,<-hzl,decide_eq_false hlen];rfl)
     repeat apply za
     refine ze [(2,25)] (zA x2 wn hll) ?_;refine zk DR ?_;refine D0 ?_;refine zg ⟨_,_,by simp;rfl,by rw[hof];simp only[AT,if_false];exact⟨by simp[zn],_,_,_,by rw[hS2];exact hform _ _⟩,zR hd2⟩
  ·obtain rfl:k=n+1:=DQ
   have hot:o=true:=by rw[ho,decide_eq_true hw,Ax.2 hall];rfl
   refine za (zm DR ?_);refine zx (D0 ?_);refine zg ⟨_,_,by simp;rfl,by rw[hot];simp only[if_true];exact⟨by simp[zn],hpk,hSt _⟩,zR (hdS _)⟩
 ·have hof:o=false:=by rw[ho,decide_eq_false hw,Cp]
  refine zk (by simp[hw]) ?_;refine D0 ?_;refine zg ⟨_,_,by simp;rfl,by rw[hof];simp only[AT,if_false];exact⟨by simp[zn],_,_,_,(by rw[<-hS1];exact(Yd S1 idD _ hS1d).symm)⟩,zR hd1⟩
open Go Go.Proofs
abbrev RdX:=Rdr × List Cust × List (List Int)
def r0:Rdr:=⟨0,0,0,0,0,0,false⟩
def wN(ls:List Ln)(k:Nat)(x:RdX):Option RdX:=match k with
 | 0=>if zT ls x.1.pos=[xX,[49]] then some (yV ls x.1,x.2) else none
 | 1=>match qg (zT ls x.1.pos) [xY,xZ,x7,x8] with
  | some [d,v,c,l]=>some ({ yV ls x.1 with d:=d,v:=v,c:=c,l:=l },x.2)
  | _=>none
 | 2=>match qg (zT ls x.1.pos) [x9] with
  | some [m]=>some ({ yV ls x.1 with m:=m },x.2)
  | _=>none
 | 3=>if (yU ls x.1.pos x.1.m.toNat).all (λl=>(wd x.1.d l).isSome)=true then some ({ x.1 with pos:=x.1.pos+x.1.m.toNat,bad:=!(jM ls x.1.d x.1.pos x.1.m.toNat) },ju ls x.1.d x.1.pos x.1.m.toNat,x.2.2) else none
 | 4=>if zT ls x.1.pos=[jt]/\(yU ls (x.1.pos+1) (x.1.m.toNat+1)).all (vq (x.1.m.toNat+1))=true then some ({ x.1 with pos:=x.1.pos+1+(x.1.m.toNat+1) },x.2.1,xB ls (x.1.pos+1) (x.1.m.toNat+1)) else none
 | 5=>if x.1.pos=ls.length then some x else none
 | _=>some x
def yH(ls:List Ln):Nat->Option RdX
 | 0=>some (r0,[],[])
 | k+1=>(yH ls k).bind (wN ls k)
theorem XF{ls:List Ln}{r:Rdr}(h:zT ls r.pos≠[]):yV ls r={ r with pos:=r.pos+1 }/\r.pos+1<=ls.length:=by
 by_cases hp:r.pos<ls.length
 ·exact⟨if_pos hp,hp⟩
 simp_all[zT]
theorem ZaM{l:Ln}{names:Ln}{z:List Int}(h:qg l names=some z)(hn:names≠[]):l≠[]:=by grind[qg,Jt]
theorem ZiL(w:Wd):0<=yS w:=by simp[yS]
theorem ZiM{l names:Ln}{z:List Int}(h:qg l names=some z):∀x∈z,0<=x:=by
 unfold qg jD at h;split at h
 ·split at h
  ·cases h;simp[ZiL]
  ·cases h
 ·cases h
theorem Ztm(ls:List Ln):YR ls=(yH ls 6).map λx=>(⟨x.1.d,x.1.v,x.1.c,x.1.l,x.2.1,x.2.2⟩,!x.1.bad):=by
 unfold YR
 by_cases h0:zT ls 0=[xX,[49]]
 ·obtain⟨p0,q0⟩:=XF (ls:=ls) (r:=r0) (by show zT ls 0≠[];rw[h0];simp);have s1:yH ls 1=some (⟨1,0,0,0,0,0,false⟩,[],[]):=by
   show (if zT ls r0.pos=[xX,[49]] then some (yV ls r0,_) else none)=_
   rw[p0];exact if_pos h0
  rw[if_pos h0];cases h1:qg (zT ls 1) [xY,xZ,x7,x8] with
  | none =>
   simp_all[yH,wN]
  | some z =>
   obtain⟨d,v,c,l,rfl⟩:∃d v c l,z=[d,v,c,l]:=by
    have:=XB h1
    match z,this with
    | [d,v,c,l],_=>simp
   obtain⟨p1,q1⟩:=XF (ls:=ls) (r:=⟨1,0,0,0,0,0,false⟩) (ZaM h1 DR);have s2:yH ls 2=some (⟨2,d,v,c,l,0,false⟩,[],[]):=by
    show (yH ls 1).bind (wN ls 1)=_
    rw[s1]
    show (match qg (zT ls 1) _ with | some [d,v,c,l]=>some ({ yV ls _ with d:=d,v:=v,c:=c,l:=l },_) | _=>none)=_
    rw[h1,p1]
   simp only[];cases h2:qg (zT ls 2) [x9] with
   | none =>
    simp_all[yH,wN]
   | some z2 =>
    obtain⟨m,rfl⟩:∃m,z2=[m]:=by
     have:=XB h2
     match z2,this with
     | [m],_=>simp
    obtain⟨p2,q2⟩:=XF (ls:=ls) (r:=⟨2,d,v,c,l,0,false⟩) (ZaM h2 DR);have s3:yH ls 3=some (⟨3,d,v,c,l,m,false⟩,[],[]):=by
     show (yH ls 2).bind (wN ls 2)=_
     rw[s2]
     show (match qg (zT ls 2) _ with | some [m]=>some ({ yV ls _ with m:=m },_) | _=>none)=_
     rw[h2,p2]
    simp only[]
    by_cases h3:(yU ls 3 m.toNat).all (λl=>(wd d l).isSome)=true
    ·have s4:yH ls 4=some (⟨3+m.toNat,d,v,c,l,m,!(jM ls d 3 m.toNat)⟩,ju ls d 3 m.toNat,[]):=by
      show (yH ls 3).bind (wN ls 3)=_
      rw[s3];exact if_pos h3
     by_cases h4:zT ls (3+m.toNat)=[jt]/\(yU ls (4+m.toNat) (m.toNat+1)).all (vq (m.toNat+1))=true
     ·have e4:3+m.toNat+1=4+m.toNat:=DQ
      have s5:yH ls 5=some (⟨4+m.toNat+(m.toNat+1),d,v,c,l,m,!(jM ls d 3 m.toNat)⟩,ju ls d 3 m.toNat,xB ls (4+m.toNat) (m.toNat+1)):=by
       show (yH ls 4).bind (wN ls 4)=_
       rw[s4]
       show (if zT ls (3+m.toNat)=[jt]/\(yU ls (3+m.toNat+1) (m.toNat+1)).all (vq (m.toNat+1))=true then some ((⟨3+m.toNat+1+(m.toNat+1),d,v,c,l,m,!(jM ls d 3 m.toNat)⟩:Rdr),ju ls d 3 m.toNat,xB ls (3+m.toNat+1) (m.toNat+1)) else none)=_
       rw[e4];exact if_pos h4
      by_cases h5:ls.length=5+2*m.toNat
      ·have s6:yH ls 6=some (⟨4+m.toNat+(m.toNat+1),d,v,c,l,m,!(jM ls d 3 m.toNat)⟩,ju ls d 3 m.toNat,xB ls (4+m.toNat) (m.toNat+1)):=by
        show (yH ls 5).bind (wN ls 5)=_
        rw[s5];exact if_pos DY
       rw[if_pos ⟨h3,h4.1,h4.2,h5⟩,s6];simp only[AZ,Bool.not_not];rfl
      ·have s6:yH ls 6=none:=by
        show (yH ls 5).bind (wN ls 5)=_
        rw[s5];exact if_neg (by show ¬4+m.toNat+(m.toNat+1)=ls.length;omega)
       simp_all
     ·have s5:yH ls 5=none:=by
       show (yH ls 4).bind (wN ls 4)=_
       rw[s4];exact if_neg (by show ¬(zT ls (3+m.toNat)=_/\(yU ls (3+m.toNat+1) _).all _=true);rw[show 3+m.toNat+1=4+m.toNat by omega];exact h4)
      have s6:yH ls 6=none:=by
       show (yH ls 5).bind _=none
       rw[s5];rfl
      grind
    ·have s4:yH ls 4=none:=by
      show (yH ls 3).bind (wN ls 3)=_
      rw[s3];exact if_neg h3
     have s6:yH ls 6=none:=by
      show ((yH ls 4).bind _).bind _=none
      rw[s4];rfl
     grind
 ·have s1:yH ls 1=none:=by
   show (if zT ls r0.pos=[xX,[49]] then some (yV ls r0,_) else none)=_
   exact if_neg h0
  simp_all[yH]
theorem Ztn{l:Ln}{w:Wd}(h:w∈l):w.length<=(yi l).length:=by
 rw[WL];have:w.length<=(l.map List.length).sum:=by
  induction l with
  | nil=>cases h
  | cons a l ih =>
   grind
 omega
theorem Zto{ls:List Ln}{l:Ln}(h:l∈ls):(yi l).length+1<=(qM ls).length:=by induction ls<;>grind[WA]
theorem Ztp(ls:List Ln):ls.length<=(qM ls).length:=by induction ls<;>grind[WA]
theorem Ztq{t:List UInt8}{ls:List Ln}(h:xU t=some ls)(hl:t.length<=1048576):LnsOk ls:=by
 obtain⟨h1,_,_⟩:=Zrc t.length (Ag _) h;refine⟨by grind[Ztp],λl hm=>?_⟩;have h2:=Zto hm;rw[h1]at h2;exact⟨by grind[WL],λw hw=>by have:=Ztn hw;omega⟩
theorem Ju(w:Wd):zO (yS w):=by
 have h0:=ZiL w;unfold yS at h0 ⊢;cases h:jU w with
 | none=>exact⟨by simp,by simp⟩
 | some n =>
  have:=Zre h
  show -9223372036854775808<=(n:Int)/\(n:Int)<=9223372036854775807
  omega
theorem Ztr{l names:Ln}{z:List Int}(h:qg l names=some z):∀x∈z,zO x:=by grind[qg,jD,Ju]
theorem Zts(w:Wd):jV w<2 ^ 64:=by grind[jV,ZaG]
theorem Ztt{d:Int}{l:Ln}{x:Cust × Bool}(h:wd d l=some x)(hl:l.length<=1048576):CustOk x.1:=by
 have z0:zO 0:=⟨by decide,by decide⟩;have z1:zO 1:=⟨by decide,by decide⟩;have z2:zO 2:=⟨by decide,by decide⟩
 match l,h,hl with
 | w :: l',h,hl =>
 have h':(if w=vU then QG d l' else if w=QF then (YP l').map (·,true) else none)=some x:=h;split at h'
 ·match l',h',hl with
  | dw :: ps,h',hl =>
  rw[Zdq]at h';split at h'
  ·cases h';refine⟨z1,Ju dw,?_,?_,z0,z0,z0,z0,z0⟩
   ·intro p hp;obtain⟨u,_,rfl⟩:=Al.1 hp;exact Zts u
   ·show (ps.map jV).length<=_
    simp at hl ⊢;omega
  ·cases h'
 ·split at h'
  ·obtain⟨c,hc,rfl⟩:=Ao.1 h'
   by_cases h5:l'.length=5
   ·obtain⟨a,b,e,ru,hh,rfl⟩:∃a b c d e,l'=[a,b,c,d,e]:=by
     match l',h5 with
     | [a,b,c,d,e],_=>exact⟨a,b,c,d,e,rfl⟩
    rw[Zdr]at hc;split at hc
    ·cases hc;refine⟨z2,z0,by simp,by simp,Ju _,Ju _,Ju _,?_,Ju _⟩
     show zO (Xw ru)
     unfold Xw;split
     ·exact⟨by decide,by decide⟩
     ·exact⟨by decide,by decide⟩
    ·cases hc
   simp_all[ZiE]
  ·cases h'
theorem Ztu{ls:List Ln}{x:Inst}{b:Bool}(h:YR ls=some (x,b))(hl:LnsOk ls):InstOk x:=by
 unfold YR at h;split at h
 ·split at h
  ·rename_i d v c l h1;split at h
   ·rename_i m h2;split at h
    ·rename_i hh;obtain⟨e1,e2,e3,e4⟩:=hh;cases h;have q:=Ztr h1;have hmn:m.toNat<=1048576:=by have:=hl.1;omega
     refine⟨q d DR,q v DR,q c DR,q l DR,?_,?_,?_,?_⟩
     ·grind[ZaK]
     ·intro cu hcu;obtain⟨line,hm,rfl⟩:=Al.1 hcu;have hs:=Ax.1 e1 line hm;obtain⟨k,_,rfl⟩:=Al.1 hm;obtain⟨y,hy⟩:=BZ.1 hs;have:vp d (zT ls (3+k))=y:=by unfold vp;rw[hy];rfl
      rw[this];exact Ztt hy (hl.at _).1
     ·grind[ZaK]
     ·intro r hr;obtain⟨line,hm,rfl⟩:=Al.1 hr;obtain⟨k,_,rfl⟩:=Al.1 hm;refine⟨by have:=(hl.at (4+m.toNat+k)).1;simp;omega,λz hz=>?_⟩
      grind[Ju]
    ·cases h
   ·cases h
  ·cases h
 ·cases h
open Go Go.Proofs
theorem WO{ls:List Ln}{k:Nat}(h:yH ls k=none)(hk:k<=6):yH ls 6=none:=by
 have:∀j,yH ls (k+j)=none:=by
  intro j
  induction j with
  | zero=>exact h
  | succ j ih=>show (yH ls (k+j)).bind _=none;rw[ih];rfl
 have:=this (6-k)
 rwa[Nat.add_sub_cancel' hk]at this
def ZiN(ls:List Ln)(k:Nat)(x:RdX):Prop :=
 x.1.pos<=ls.length/\(k<=3->x.2.1=[]/\x.1.bad=false)/\(k<=4->x.2.2=[])/\0<=x.1.m/\(k=4->x.1.m.toNat<=1048576)
theorem Ztv(t:List UInt8)(hl:t.length<=1048576):Pure prog 65 [T (bs t)] (.tup [.agg (zy (qw t).1),I (qw t).2]):=by
 have hlines:=ZsJ t hl;cases hz:xU t with
 | none =>
  rw[hz]at hlines;simp only[ZaI]at hlines;have hp:qw t=(zI,2):=by unfold qw;rw[hz]
  rw[hp];refine zr func65 ntmps65 results65 λS nx hd=>?_
  refine D0 ?_;intro v0;refine D0 ?_;refine zt hlines ?_
  repeat apply za
  refine zb ?_;refine zk DR ?_;refine D0 ?_;refine qu 0 4 rfl rfl ?_;refine qu 0 5 rfl rfl ?_;exact zg (zi hd DT (by simp[zI,zn]))
 | some ls =>
  rw[hz]at hlines;simp only[ZaI]at hlines;have hfit:=Ztq hz hl;have hp:qw t=match YR ls with
   | none=>(zI,2)
   | some (x,ok)=>if ok=true/\yM x=true then (x,0) else (zI,3):=by unfold qw;rw[hz]<;>rfl
  have hrs:=Ztm ls;obtain⟨res,hres⟩:∃res,res=qw t:=⟨_,rfl⟩;rw[<-hres];rw[<-hres]at hp;have hno:yH ls 6=none->res=(zI,2):=λh=>by rw[hp,hrs,h];rfl
  refine zr func65 ntmps65 results65 λS nx hd=>?_
  refine D0 ?_;intro v0;refine D0 ?_;refine zt hlines ?_
  repeat apply za
  refine zb ?_;refine zm DR ?_;refine zh (D0 ?_);intro v1;refine jg 1 6 87 8 rfl rfl λw0=>?_
  refine jg 1 7 26 1 rfl rfl λw1=>?_
  repeat apply za
  refine zb ?_;refine zj (zC (λs:Nat × Rdr × List Cust × List (List Int) × Nat × Nat=>s.1<=6/\yH ls s.1=some (s.2.1,s.2.2.1,s.2.2.2.1)/\ZiN ls s.1 (s.2.1,s.2.2.1,s.2.2.2.1)) (λ(k,r,cu,dd,vC,vD)=>[(2,.ptr nx v0 0),(6,.ptr (nx+1) v1 0),(32,.lst 6 [.fn (.func 102) [.ptr (nx+1) v1 0] [],.fn (.func 103) [.ptr (nx+1) v1 0] [],.fn (.func 104) [.ptr (nx+1) v1 0] [],.fn (.func 105) [.ptr (nx+1) v1 0] [],.fn (.func 106) [.ptr (nx+1) v1 0] [],.fn (.func 107) [.ptr (nx+1) v1 0] []]),(33,I 6),(34,I k)])
   (λ(k,r,cu,dd,vC,vD)=>[.cells v0 25 [I 0,I 0,I 0,I 0,vr,vr],yh v1 ls r (.sl (nx+2) vC 8 0 cu.length) (.sl (nx+3) vD 1 0 dd.length),.cells vC 87 (cu.flatMap Enc.enc),.cells vD 26 (dd.flatMap Enc.enc)]) (λs=>6-s.1) (0,r0,[],[],w0,w1) [] ⟨by simp,rfl,by simp[ZiN,r0]⟩ (by simp[y8]) (by simp[r0]) ?_)
  rintro⟨k,r,cu,dd,vC,vD⟩ ⟨hk,hst,m1,m2,m3,m4,m5⟩;simp only at hk hst m1 m2 m3 m4 m5 ⊢;refine D0 ?_;refine za (zv rfl (λhc=>?_) (λhc=>?_))
  ·simp at hc;refine zh (za (zj ?_));obtain rfl | rfl | rfl | rfl | rfl | rfl:k=0\/k=1\/k=2\/k=3\/k=4\/k=5:=DQ
   ·have hstep:yH ls 1=if zT ls r.pos=[xX,[49]] then some (yV ls r,cu,dd) else none:=by show (yH ls 0).bind (wN ls 0)=_;rw[hst];rfl
    refine D0 ?_;refine D0 ?_;refine λhsuf=>((Zs9 ls r _ _ (by rw[yb];rfl) hfit).mono ?_).v
    rintro _ _ ⟨rfl,rfl⟩;refine⟨_,_,yk _ DQ DR,zN hsuf ?_⟩
    by_cases h:zT ls r.pos=[xX,[49]]
    ·rw[if_pos h]at hstep;obtain⟨n1,n2⟩:=XF (ls:=ls) (r:=r) (by rw[h];simp);refine zm (by simp[h]) ?_;refine zh (zb ?_);exact zq (1,yV ls r,cu,dd,vC,vD) [] ⟨by omega,hstep,by rw[n1];exact⟨n2,λ_=>m2 DQ,λ_=>m3 DQ,m4,λh=>by omega⟩⟩ DQ (by simp;try exact wr _ (by omega) (by omega)) rfl (by simp;try rfl)
    ·rw[if_neg h]at hstep;have hr:=hno (WO hstep DQ);refine zk (by simp[h]) ?_;refine D0 ?_;refine qu 0 4 rfl rfl ?_;refine qu 0 5 rfl rfl ?_;exact zg (zi hd DT (by simp[zI,zn,hr]))
   ·have hstep:yH ls 2=match qg (zT ls r.pos) [xY,xZ,x7,x8] with
     | some [d,v,c,l]=>some ({ yV ls r with d:=d,v:=v,c:=c,l:=l },cu,dd)
     | _=>none:=by show (yH ls 1).bind (wN ls 1)=_;rw[hst];rfl
    have hct:=λS (h:S (nx+1)=_)=>Zta (S:=S) (id:=nx+1) (ver:=v1) ls r (.sl (nx+2) vC 8 0 cu.length) (.sl (nx+3) vD 1 0 dd.length) h hfit
    cases h:qg (zT ls r.pos) [xY,xZ,x7,x8] with
    | none =>
     rw[h]at hstep hct;simp only at hstep hct;have hr:=hno (WO hstep DQ);refine D0 ?_;refine D0 ?_;refine λhsuf=>((hct _ (by rw[yb];rfl)).mono ?_).v
     rintro _ _ ⟨rfl,rfl⟩;refine⟨_,_,yk _ DQ DR,zN hsuf ?_⟩;refine zk DR ?_;refine D0 ?_;refine qu 0 4 rfl rfl ?_;refine qu 0 5 rfl rfl ?_;exact zg (zi hd DT (by simp[zI,zn,hr]))
    | some z =>
     obtain⟨d,v,c,l,rfl⟩:∃d v c l,z=[d,v,c,l]:=by
      have:=XB h
      match z,this with
      | [d,v,c,l],_=>exact⟨d,v,c,l,rfl⟩
     obtain⟨n1,n2⟩:=XF (ls:=ls) (r:=r) (ZaM h DR);have hnn:=ZiM h;rw[h]at hstep hct;simp only at hstep hct;refine D0 ?_;refine D0 ?_;refine λhsuf=>((hct _ (by rw[yb];rfl)).mono ?_).v
     rintro _ _ ⟨rfl,rfl⟩;refine⟨_,_,yk _ DQ DR,zN hsuf ?_⟩;refine zm DR ?_;refine zh (zb ?_);exact zq (2,{ yV ls r with d:=d,v:=v,c:=c,l:=l },cu,dd,vC,vD) [] ⟨by omega,hstep,by rw[n1];exact⟨n2,λ_=>m2 DQ,λ_=>m3 DQ,m4,λh=>by omega⟩⟩ DQ (by simp;try exact wr _ (by omega) (by omega)) rfl (by simp;try rfl)
   ·have hstep:yH ls 3=match qg (zT ls r.pos) [x9] with
     | some [m]=>some ({ yV ls r with m:=m },cu,dd)
     | _=>none:=by show (yH ls 2).bind (wN ls 2)=_;rw[hst];rfl
    have hct:=λS (h:S (nx+1)=_)=>Ztb (S:=S) (id:=nx+1) (ver:=v1) ls r (.sl (nx+2) vC 8 0 cu.length) (.sl (nx+3) vD 1 0 dd.length) h hfit
    cases h:qg (zT ls r.pos) [x9] with
    | none =>
     rw[h]at hstep hct;simp only at hstep hct;have hr:=hno (WO hstep DQ);refine D0 ?_;refine D0 ?_;refine λhsuf=>((hct _ (by rw[yb];rfl)).mono ?_).v
     rintro _ _ ⟨rfl,rfl⟩;refine⟨_,_,yk _ DQ DR,zN hsuf ?_⟩;refine zk DR ?_;refine D0 ?_;refine qu 0 4 rfl rfl ?_;refine qu 0 5 rfl rfl ?_;exact zg (zi hd DT (by simp[zI,zn,hr]))
    | some z =>
     obtain⟨m,rfl⟩:∃m,z=[m]:=by
      have:=XB h
      match z,this with
      | [m],_=>exact⟨m,rfl⟩
     obtain⟨n1,n2⟩:=XF (ls:=ls) (r:=r) (ZaM h DR);have hnn:=ZiM h;rw[h]at hstep hct;simp only at hstep hct;refine D0 ?_;refine D0 ?_;refine λhsuf=>((hct _ (by rw[yb];rfl)).mono ?_).v
     rintro _ _ ⟨rfl,rfl⟩;refine⟨_,_,yk _ DQ DR,zN hsuf ?_⟩;refine zm DR ?_;refine zh (zb ?_);exact zq (3,{ yV ls r with m:=m },cu,dd,vC,vD) [] ⟨by omega,hstep,by rw[n1];exact⟨n2,λ_=>m2 DQ,λ_=>m3 DQ,hnn m DR,λh=>by omega⟩⟩ DQ (by simp;try exact wr _ (by omega) (by omega)) rfl (by simp;try rfl)
   ·obtain⟨rfl,hb⟩:=m2 DQ;have hm:r.m=(r.m.toNat:Int):=DQ
    have hstep:yH ls 4=if (yU ls r.pos r.m.toNat).all (λl=>(wd r.d l).isSome)=true then some ({ r with pos:=r.pos+r.m.toNat,bad:=!(jM ls r.d r.pos r.m.toNat) },ju ls r.d r.pos r.m.toNat,dd) else none:=by show (yH ls 3).bind (wN ls 3)=_;rw[hst];rfl
    have hct:=λS (h:S (nx+1)=_) (h2:S (nx+2)=_)=>Ztj (S:=S) (id:=nx+1) (ver:=v1) (idC:=nx+2) (vC:=vC) ls r r.m.toNat (.sl (nx+3) vD 1 0 dd.length) h h2 hfit hm m1 hb
    by_cases h:(yU ls r.pos r.m.toNat).all (λl=>(wd r.d l).isSome)=true
    ·rw[if_pos h]at hstep;simp only[if_pos h]at hct;have hcl:=ZiJ ls r.d r.pos r.m.toNat;refine D0 ?_;refine D0 ?_;refine λhsuf=>((hct _ (by rw[yb];rfl) (by rw[yb];rfl)).mono ?_).v
     rintro _ _ ⟨rfl,hpl,rfl⟩;refine⟨_,_,by rw[yk _ DQ DR,yk _ DQ DR],zN hsuf ?_⟩;refine zm DR ?_;refine zh (zb ?_);exact zq (4,{ r with pos:=r.pos+r.m.toNat,bad:=!(jM ls r.d r.pos r.m.toNat) },ju ls r.d r.pos r.m.toNat,dd,vC+r.m.toNat,vD) [] ⟨by omega,hstep,hpl,λh=>by omega,λ_=>m3 DQ,m4,λ_=>by have:=hfit.1;show r.m.toNat<=_;omega⟩ DQ (by simp;try exact wr _ (by omega) (by omega)) rfl (by simp[hcl])
    ·rw[if_neg h]at hstep;have hr:=hno (WO hstep DQ);simp only[if_neg h]at hct;refine D0 ?_;refine D0 ?_;refine λhsuf=>((hct _ (by rw[yb];rfl) (by rw[yb];rfl)).mono ?_).v
     rintro _ _ ⟨rfl,r',cs',oC,rfl⟩;refine⟨_,_,by rw[yk _ DQ DR,yk _ DQ DR],zN hsuf ?_⟩;refine zk DR ?_;refine D0 ?_;refine qu 0 4 rfl rfl ?_;refine qu 0 5 rfl rfl ?_;exact zg (zi hd DT (by simp[zI,zn,hr]))
   ·obtain rfl:=m3 DQ;have hm:r.m=(r.m.toNat:Int):=DQ
    have hstep:yH ls 5=if zT ls r.pos=[jt]/\(yU ls (r.pos+1) (r.m.toNat+1)).all (vq (r.m.toNat+1))=true then some ({ r with pos:=r.pos+1+(r.m.toNat+1) },cu,xB ls (r.pos+1) (r.m.toNat+1)) else none:=by show (yH ls 4).bind (wN ls 4)=_;rw[hst];rfl
    have hct:=λS (h:S (nx+1)=_) (h2:S (nx+3)=_)=>Ztl (S:=S) (id:=nx+1) (ver:=v1) (idD:=nx+3) (vD:=vD) ls r r.m.toNat (.sl (nx+2) vC 8 0 cu.length) h h2 hfit hm (m5 rfl) m1
    by_cases h:zT ls r.pos=[jt]/\(yU ls (r.pos+1) (r.m.toNat+1)).all (vq (r.m.toNat+1))=true
    ·rw[if_pos h]at hstep;simp only[if_pos h]at hct;have hdl:=ZiK ls (r.pos+1) (r.m.toNat+1);refine D0 ?_;refine D0 ?_;refine λhsuf=>((hct _ (by rw[yb];rfl) (by rw[yb];rfl)).mono ?_).v
     rintro _ _ ⟨rfl,hpl,rfl⟩;refine⟨_,_,by rw[yk _ DQ DR,yk _ DQ DR],zN hsuf ?_⟩;refine zm DR ?_;refine zh (zb ?_);exact zq (5,{ r with pos:=r.pos+1+(r.m.toNat+1) },cu,xB ls (r.pos+1) (r.m.toNat+1),vC,vD+(r.m.toNat+1)) [] ⟨by omega,hstep,hpl,λh=>by omega,λh=>by omega,m4,λh=>by omega⟩ DQ (by simp;try exact wr _ (by omega) (by omega)) rfl (by simp[hdl])
    ·rw[if_neg h]at hstep;have hr:=hno (WO hstep DQ);simp only[if_neg h]at hct;refine D0 ?_;refine D0 ?_;refine λhsuf=>((hct _ (by rw[yb];rfl) (by rw[yb];rfl)).mono ?_).v
     rintro _ _ ⟨rfl,r',ds',oD,rfl⟩;refine⟨_,_,by rw[yk _ DQ DR,yk _ DQ DR],zN hsuf ?_⟩;refine zk DR ?_;refine D0 ?_;refine qu 0 4 rfl rfl ?_;refine qu 0 5 rfl rfl ?_;exact zg (zi hd DT (by simp[zI,zn,hr]))
   ·have hstep:yH ls 6=if r.pos=ls.length then some (r,cu,dd) else none:=by show (yH ls 5).bind (wN ls 5)=_;rw[hst];rfl
    refine D0 ?_;refine D0 ?_;refine λhsuf=>((Ztc ls r _ _ (by rw[yb];rfl)).mono ?_).v
    rintro _ _ ⟨rfl,rfl⟩;refine⟨_,_,rfl,zN hsuf ?_⟩
    by_cases h:r.pos=ls.length
    ·rw[if_pos h]at hstep;refine zm (by simp[h]) ?_;refine zh (zb ?_);exact zq (6,r,cu,dd,vC,vD) [] ⟨by omega,hstep,m1,λh=>by omega,λh=>by omega,m4,λh=>by omega⟩ DQ (by simp;try exact wr _ (by omega) (by omega)) rfl DR
    ·rw[if_neg h]at hstep;have hr:=hno hstep;refine zk (by simp[h]) ?_;refine D0 ?_;refine qu 0 4 rfl rfl ?_;refine qu 0 5 rfl rfl ?_;exact zg (zi hd DT (by simp[zI,zn,hr]))
  ·simp at hc;obtain rfl:k=6:=DQ
   have hread:YR ls=some (⟨r.d,r.v,r.c,r.l,cu,dd⟩,!r.bad):=by rw[hrs,hst];rfl
   have hiok:=Ztu hread hfit;have hmay:=Zhf _ hiok;rw[hread]at hp;refine zx (zZ 2 rfl ?_);refine zZ 3 rfl ?_;obtain⟨pos,d,v,c,ln,m,bad⟩:=r;cases bad with
   | true =>
    have hr:res=(zI,3):=by rw[hp];exact if_neg DR
    repeat apply za
    refine ze [(4,47)] zB ?_;refine zk DR ?_;refine D0 ?_;refine qu 0 4 rfl rfl ?_;refine qu 0 5 rfl rfl ?_;exact zg (zi hd DT (by simp[zI,zn,hr]))
   | false =>
    by_cases hmy:yM ⟨d,v,c,ln,cu,dd⟩=true
    ·have hr:res=(⟨d,v,c,ln,cu,dd⟩,0):=by rw[hp];exact if_pos ⟨rfl,hmy⟩
     rw[if_pos hmy]at hmay
     repeat apply za
     refine ze [(4,47)] trivial ?_;refine qi [(4,47)] hmay trivial ?_;refine zm DR ?_;refine zh (D0 ?_);exact zg (zi hd DT (by simp[zn,hr]))
    ·have hr:res=(zI,3):=by rw[hp];exact if_neg (λh=>hmy h.2)
     rw[if_neg hmy]at hmay
     repeat apply za
     refine ze [(4,47)] trivial ?_;refine qi [(4,47)] hmay trivial ?_;refine zk DR ?_;refine D0 ?_;refine qu 0 4 rfl rfl ?_;refine qu 0 5 rfl rfl ?_;exact zg (zi hd DT (by simp[zI,zn,hr]))
open Go Go.Proofs
theorem ZiO{z:Int}(h:zO z):(zX z).length<=20:=by
 unfold zO at h;unfold zX;have:=Zc2 z.toNat 18 DQ;omega
abbrev ZiP:Wd:=[111,117,116,99,111,109,101]
abbrev ZiQ:Wd:=[109,97,108,102,111,114,109,101,100]
structure Rep where
 out:Int
 bound:Int
 cost:Int
 hold:Int
 days:List Int
 plan:zF
abbrev ZdA(r:Rep):List PV:=[I r.out,I r.bound,I r.cost,I r.hold,L r.days,L r.plan]
theorem ZiR{ls:List Ln}{m:Nat}(h:∀l∈ls,(yi l).length+1<=m):(qM ls).length<=m*ls.length:=by
 induction ls with
 | nil=>simp[qM]
 | cons a ls ih =>
  rw[WA];have h1:=h a DR;have h2:=ih λl hl=>h l (by simp[hl])
  simp only[List.length_append,Ad,Nat.mul_add,BR];omega
theorem Ztw{l:List Nat}{m:Nat}(h:∀z∈l,z<=m):l.sum<=m*l.length:=by
 induction l with
 | nil=>simp
 | cons a l ih =>
  have h1:=h a DR;have h2:=ih λz hz=>h z (by simp[hz])
  simp only[Cg,Ad,Nat.mul_add,BR];omega
theorem ZdB{ws:Ln}{m:Nat}(h:∀w∈ws,w.length<=m):(yi ws).length<=(m+1)*ws.length:=by
 rw[WL];have:=Ztw (l:=ws.map List.length) (m:=m) λz hz=>by obtain⟨w,hw,rfl⟩:=Al.1 hz;exact h w hw
 rw[List.length_map]at this;rw[Nat.add_mul];omega
theorem ZI{n:Nat}(h:n<10000000000000000000):(yc n).length<=20:=by have:=Zc2 n 19 DQ;omega
open Go Go.Proofs
section
variable {S:Store} {id v:Nat} {t s0 s1 s2 s3 x0 x1 x2 x3 x4 x5 r0 r1 r2 r3 r4 r5:PV}
theorem ZiS(u:List UInt8)(hl:u.length<=1048576)(hS:S id=.cells v 92 [T (bs u),s0,s1,s2,s3,x0,x1,x2,x3,x4,x5,r0,r1,r2,r3,r4,r5]):
  Spec prog 48 [.ptr id v 0] S (λq S'=>q=I (qw u).2/\S'=S.set id (.cells v 92
   (if (qw u).2=0 then [T (bs u),s0,s1,s2,s3]++zy (qw u).1++[r0,r1,r2,r3,r4,r5] else [T (bs u),s0,s1,s2,s3,x0,x1,x2,x3,x4,x5,I (if (qw u).2=2 then 1 else 2),r1,r2,r3,r4,r5]))):=by
 have hp:=Ztv u hl;generalize qw u=z at *;obtain⟨y,e⟩:=z;simp only at hp ⊢;refine yl func48 ntmps48 results48 λnx hd=>?_
 have hlt:id<nx:=qO hd hS DR;have xw:=λobs=>(zD (S:=S) (obs:=obs) hlt).trans hS
 have g1:¬nx<=id:=DQ
 refine D0 ?_;refine za (ze [] xw ?_);refine qi [] hp xw ?_;intro v0
 repeat apply za
 refine zb ?_;refine zj (D0 ?_)
 by_cases he:e=0
 ·subst he;refine zk DR ?_;refine ze [] (zo xw g1) ?_;refine D0 ?_;exact zg ⟨_,_,rfl,⟨by simp[zn],by simp⟩,zR (qH hd hlt _)⟩
 ·rw[if_neg he];refine zm (by simp[he]) ?_;refine D0 ?_
  by_cases h2:e=2
  ·subst h2;refine zk DR ?_;refine ze [] (zo xw g1) ?_;refine D0 ?_;exact zg ⟨_,_,rfl,⟨by simp[zn],by simp⟩,zR (qH hd hlt _)⟩
  ·rw[if_neg h2];refine zm (by simp[h2]) ?_;refine ze [] (zo xw g1) ?_;refine D0 ?_;exact zg ⟨_,_,rfl,⟨by simp[zn],by simp⟩,zR (qH hd hlt _)⟩
theorem Ztx{a b:PV}{bd:Int}(hc:Pure prog 34 [.agg [x0,x1,x2,x3,x4,x5],s0,s3] (.tup [.agg [a,b],I bd]))(hS:S id=.cells v 92 [t,s0,s1,s2,s3,x0,x1,x2,x3,x4,x5,r0,r1,r2,r3,r4,r5]):
  Spec prog 49 [.ptr id v 0] S (λq S'=>q=I 0/\S'=S.set id (.cells v 92 [t,s0,s1,s2,s3,x0,x1,x2,x3,x4,x5,I 3,I bd,r2,r3,r4,r5])):=by
 refine yl func49 ntmps49 results49 λnx hd=>?_
 have hlt:id<nx:=qO hd hS DR;have xw:=λobs=>(zD (S:=S) (obs:=obs) hlt).trans hS
 have xo:∀(A:Ob) obs,ext (S.set id A) nx obs id=A:=λA obs=>(zD hlt).trans (q11 _ _ _)
 have g1:¬nx<=id:=DQ
 refine D0 ?_;refine za (ze [] (zo xw g1) ?_);refine za (zz (some []) (Row.pures [0,1,2,3,5,6,7,8,10,11,12,13] (.alt 4 (.alt 9 (.alt 14 (Row.pures [15,16,17,18,19,20,21] (.alt 22 (.done) .stop)) .stop) (.alt 14 (.alt 9 (Row.pures [15,16,17,18,19,20,21] (.alt 22 (.done) .stop)) .stop) .stop)) (.alt 9 (.alt 4 (.alt 14 (Row.pures [15,16,17,18,19,20,21] (.alt 22 (.done) .stop)) .stop) (.alt 14 (.alt 4 (Row.pures [15,16,17,18,19,20,21] (.alt 22 (.done) .stop)) .stop) .stop)) (.alt 14 (.alt 4 (.alt 9 (Row.pures [15,16,17,18,19,20,21] (.alt 22 (.done) .stop)) .stop) (.alt 9 (.alt 4 (Row.pures [15,16,17,18,19,20,21] (.alt 22 (.done) .stop)) .stop) .stop)) .stop)))) mixed (zA xw xo g1) ?_)
 repeat' refine And.intro ?_ ?_
 all_goals
  refine zH (hc) (zA xw xo g1) ?_;refine D0 ?_;exact zg ⟨_,_,rfl,⟨by simp[zn],rfl⟩,zR (qH hd hlt _)⟩
def uT(e c:Int):Int:=if e=0 then c else e
theorem ZiT{p:zF}{e c:Int}(hr:Pure prog 35 [.agg [x0,x1,x2,x3,x4,x5],.agg [s0,s1,s2,s3]] (.tup [.agg [L p],I e]))(hc:e=0->Pure prog 67 [.agg [x0,x1,x2,x3,x4,x5],.agg [L p]] (I c))
  (hS:S id=.cells v 92 [t,s0,s1,s2,s3,x0,x1,x2,x3,x4,x5,r0,r1,r2,r3,r4,r5]) :
  Spec prog 50 [.ptr id v 0] S (λq S'=>q=I (uT e c)/\S'=S.set id (.cells v 92
   (if uT e c=0 then [t,s0,s1,s2,s3,x0,x1,x2,x3,x4,x5,I 4,r1,r2,r3,r4,L p] else [t,s0,s1,s2,s3,x0,x1,x2,x3,x4,x5,r0,r1,r2,r3,r4,r5]))):=by
 have hself:S=S.set id (.cells v 92 [t,s0,s1,s2,s3,x0,x1,x2,x3,x4,x5,r0,r1,r2,r3,r4,r5]):=(Yd S id _ hS).symm;unfold uT;refine yl func50 ntmps50 results50 λnx hd=>?_
 have hlt:id<nx:=qO hd hS DR;have xw:=λobs=>(zD (S:=S) (obs:=obs) hlt).trans hS
 have xo:∀(A:Ob) obs,ext (S.set id A) nx obs id=A:=λA obs=>(zD hlt).trans (q11 _ _ _)
 have g1:¬nx<=id:=DQ
 refine D0 ?_;refine za (zz (some [id]) (Row.pures [0,1,2,3,4,5,6,7,8,9,10,11] (.alt 12 (.alt 13 (Row.pures [14] .done) .stop) .stop)) mixed (zo xw g1) ?_);refine zH (hr) (zo xw g1) ?_;intro v0
 repeat apply za
 refine zb ?_
 by_cases he:e=0
 case neg =>
  simp only[if_neg he];refine zk (by simp[he]) ?_;refine D0 ?_;exact zg ⟨_,_,rfl,⟨by simp[zn],hself⟩,zR hd⟩
 have hc2:=hc he;clear hc;simp only[if_pos he];subst he;refine zm DR ?_;refine zh ?_
 repeat apply za
 refine zz (some [id,nx]) (Row.pures [0,1,2,3,4,5,6] .done) mixed (zo xw g1) ?_;refine zH (hc2) (zo xw g1) ?_;refine D0 ?_
 by_cases h2:c=0
 case neg =>
  rw[if_neg h2];refine zk (by simp[h2]) ?_;refine D0 ?_;exact zg ⟨_,_,rfl,⟨by simp[zn],hself⟩,zR hd⟩
 subst h2;rw[if_pos rfl];refine zm DR ?_;refine zh (za (zz (some [nx]) (Row.pures [0,1,2,3,4,5] (.alt 6 (Row.pures [7,8,9] (.alt 10 (.done) .stop)) .stop)) mixed (zA xw xo g1) ?_))
 repeat' refine And.intro ?_ ?_
 all_goals
  refine D0 ?_;exact zg ⟨_,_,rfl,⟨by simp[zn],rfl⟩,zR (qH hd hlt _)⟩
theorem Zty{c h:Int}{ds:List Int}(hc:Pure prog 68 [.agg [x0,x1,x2,x3,x4,x5],.agg [r5]] (I c))(hh:Pure prog 69 [.agg [x0,x1,x2,x3,x4,x5],.agg [r5]] (I h))(hds:Pure prog 71 [.agg [x0,x1,x2,x3,x4,x5],.agg [r5]] (L ds))
  (hS:S id=.cells v 92 [t,s0,s1,s2,s3,x0,x1,x2,x3,x4,x5,r0,r1,r2,r3,r4,r5]) :
  Spec prog 51 [.ptr id v 0] S (λq S'=>q=I 0/\S'=S.set id (.cells v 92 [t,s0,s1,s2,s3,x0,x1,x2,x3,x4,x5,r0,r1,I c,I h,L ds,r5])):=by
 refine yl func51 ntmps51 results51 λnx hd=>?_
 have hlt:id<nx:=qO hd hS DR;have xw:=λobs=>(zD (S:=S) (obs:=obs) hlt).trans hS
 have xo:∀(A:Ob) obs,ext (S.set id A) nx obs id=A:=λA obs=>(zD hlt).trans (q11 _ _ _)
 have g1:¬nx<=id:=DQ
 refine D0 ?_;refine za (zz (some []) (Row.pures [0,1,2,3,5,6,7,8] (.alt 4 (.alt 9 (Row.pures [10,11,12,13] (.alt 14 (.done) .stop)) .stop) (.alt 9 (.alt 4 (Row.pures [10,11,12,13] (.alt 14 (.done) .stop)) .stop) .stop))) mixed (zA xw xo g1) ?_)
 repeat' refine And.intro ?_ ?_
 all_goals
  refine zH (hc) (zA xw xo g1) ?_;refine za (zz (some []) (Row.pures [0,1,2,3,5,6,7,8] (.alt 4 (.alt 9 (Row.pures [10,11,12,13] (.alt 14 (.done) .stop)) .stop) (.alt 9 (.alt 4 (Row.pures [10,11,12,13] (.alt 14 (.done) .stop)) .stop) .stop))) mixed (zA xw xo g1) ?_)
  repeat' refine And.intro ?_ ?_
  all_goals
   refine zH (hh) (zA xw xo g1) ?_;refine za (zz (some []) (Row.pures [0,1,2,3,5,6,7,8] (.alt 4 (.alt 9 (Row.pures [10,11,12,13] (.alt 14 (.done) .stop)) .stop) (.alt 9 (.alt 4 (Row.pures [10,11,12,13] (.alt 14 (.done) .stop)) .stop) .stop))) mixed (zA xw xo g1) ?_)
   repeat' refine And.intro ?_ ?_
   all_goals
    refine zH (hds) (zA xw xo g1) ?_;refine D0 ?_;exact zg ⟨_,_,rfl,⟨by simp[zn],rfl⟩,zR (qH hd hlt _)⟩
end
open Go Go.Proofs Hp
theorem ZdC{α:Type}[Enc α](id v:Nat)(cs:List PV)(l:List (List α)):(l.flatMap Enc.enc).map (qz id v cs)=(l.flatMap Enc.enc:List PV):=by
 refine(AQ λp hp=>?_).trans (C8 _);obtain⟨t,_,ht⟩:=B3.1 hp;rw[ZkZ,AY]at ht;subst ht;rfl
theorem ZdD(p:zF)(hp:p.length<=1000)(hd0:∀d∈p,d.length<=1000)(ht:∀d∈p,∀t∈d,t.length<=1000){S:Store}{nx:Nat}(hd:zW nx S):
  Spec prog 180 [.agg [L p]] S (λq S'=>∃v,q=.agg [.sl (nx+3) v 1 0 p.length]/\S'=S.set (nx+3) (.cells v 39 (p.flatMap Enc.enc))):=by
 refine u6 hd func180 ntmps180 results180 ?_;refine D0 ?_;intro v0 v1;refine D0 ?_;intro v2;refine jg 2 0 39 1 rfl rfl λv3=>?_
 repeat apply za
 refine zb ?_;refine zj (zC (λs:Nat × Nat=>s.1<=p.length) (λ(k,w)=>[(2,.ptr (nx+1) v1 0),(3,.ptr (nx+2) v2 0),(10,L p),(11,I p.length),(12,I k)]) (λ(k,w)=>[.cells v0 30 [L p],.cells v1 30 [yu],.cells v2 30 [.sl (nx+3) w 1 0 k],.cells w 39 ((p.take k).flatMap Enc.enc)]) (λs=>p.length-s.1) (0,v3) [] DR DR DR ?_);rintro⟨k,w⟩ hk;simp only at hk ⊢;refine D0 ?_;refine za (zv rfl (λhc=>?_) (λhc=>?_))
 ·simp at hc;obtain⟨d,tl,a1,a2,a3,e0⟩:=zE rfl p k hc;have hdm:=Ab a1;have hdl:=hd0 d hdm;have hk1:1<=p.length-k:=DQ
  have htk:(p.take k).length=k:=by rw[Aw];omega
  generalize hpk:p.take k=pk at *;have hqf:(pk.flatMap Enc.enc:List PV).length=k:=(jR pk).trans htk;have hqt:(pk.flatMap Enc.enc:List PV).take k=pk.flatMap Enc.enc:=Ae DQ;have hfp:∀id v cs,(pk.flatMap Enc.enc).map (qz id v cs)=(pk.flatMap Enc.enc:List PV):=λid v cs=>ZdC id v cs pk
  refine zh (za (zj (za (ze [] (zA hc e0 hk1) ?_))));intro v4;refine D0 ?_;intro v5;refine jg 5 0 42 1 rfl rfl λv6=>?_
  repeat apply za
  refine zb ?_;refine zj (zC (λs:Nat × Nat=>s.1<=d.length) (λ(j,w6)=>[(2,.ptr (nx+1) v1 0),(3,.ptr (nx+2) v2 0),(6,.ptr (nx+5) v5 0),(10,L p),(11,I p.length),(12,I k),(17,L d),(18,I d.length),(19,I j)])
   (λ(j,w6)=>[.cells v0 30 [L p],.cells v1 30 [yu],.cells v2 30 [.sl (nx+3) w 1 0 k],.cells w 39 (pk.flatMap Enc.enc),.cells v4 39 [L d],.cells v5 39 [.sl (nx+6) w6 1 0 j],.cells w6 42 ((d.take j).flatMap Enc.enc)]) (λs=>d.length-s.1) (0,v6) [] DR DR DR ?_)
  rintro⟨j,w6⟩ hj;simp only at hj ⊢;refine D0 ?_;refine za (zv rfl (λhcj=>?_) (λhcj=>?_))
  ·simp at hcj;obtain⟨t,tl2,b1,b2,b3,f0⟩:=zE rfl d j hcj;have htl:=ht d hdm t (Ab b1);have hj1:1<=d.length-j:=DQ
   have htj:(d.take j).length=j:=by rw[Aw];omega
   generalize hdj:d.take j=dj at *;have hrf:(dj.flatMap Enc.enc:List PV).length=j:=(jR dj).trans htj;have hrt:(dj.flatMap Enc.enc:List PV).take j=dj.flatMap Enc.enc:=Ae DQ;have hfd:∀id v cs,(dj.flatMap Enc.enc).map (qz id v cs)=(dj.flatMap Enc.enc:List PV):=λid v cs=>ZdC id v cs dj
   have htf:(t.flatMap Enc.enc:List PV).length=t.length*2:=Qb t;refine zh (za (zj (za (ze [] (zA hcj f0 hj1) ?_))));intro v7;refine zz (some [nx+7]) (Row.pures [0,2,3] (.alt 1 (.alt 4 (Row.pures [5,6] (.alt 7 (Row.pures [8] (.alt 9 (.done) .stop)) .stop)) .stop) (.alt 4 (Row.pures [5,6] (.alt 1 (.alt 7 (Row.pures [8] (.alt 9 (.done) .stop)) .stop) .stop)) .stop))) mixed (zo hrf hrt) ?_;refine⟨⟨by omega,λv8=>⟨⟨by omega,by omega⟩,?_⟩⟩,⟨by omega,λv8=>⟨⟨by omega,by omega⟩,?_⟩⟩⟩
   all_goals
    refine zZ 8 rfl ?_;simp only[AA,Bk,AU,A5,xG,hfp,hfd,List.map_append];refine zb ?_;exact zq (j+1,w6+1) [_,_] DV DV (by simp[zu j (by omega)]) rfl (by simp[b3,qz,htf];exact⟨rfl,rfl⟩)
  ·simp at hcj;obtain rfl:j=d.length:=DQ
   rw[Ai];have hfd:∀id v cs,(d.flatMap Enc.enc).map (qz id v cs)=(d.flatMap Enc.enc:List PV):=λid v cs=>ZdC id v cs d
   refine zx (zZ 6 rfl ?_);simp only[AA,Bk,AU,A5,xG,hfp,hfd];refine ze [] (zo hqf hqt) ?_;refine⟨by omega,?_⟩;refine zb ?_;exact zq (k+1,w+1) [_,_,_] DV DV (by simp[zu k (by omega)]) rfl (by simp[a3];exact⟨rfl,rfl,rfl⟩)
 ·simp at hc;obtain rfl:k=p.length:=DQ
  rw[Ai];refine zx (D0 ?_);exact zg ⟨_,_,DT,⟨w,by simp[zn],rfl⟩,QW (j:=3) hd DR⟩
theorem Ztz(p:zF)(hp:p.length<=1000)(hd0:∀d∈p,d.length<=1000)(ht:∀d∈p,∀t∈d,t.length<=1000):Pure prog 180 [.agg [L p]] (.agg [L p]) :=
 ZeH (sz:=1) 3 (λS nx hd=>ZdD p hp hd0 ht hd) (by rw[jR,BR])
def vX(x:Inst)(p:zF)(day b:Int):zF × Bool :=
 if day<0\/(p.length:Int)<=day then (p,false)
 else if W (yA x (p.getD day.toNat []))<=W (yA x (vf x b (p.getD day.toNat []))) then (p,false)
 else (p.set day.toNat (vf x b (p.getD day.toNat [])),true)
structure PlanM (x:Inst) (p:zF):Prop where
 cust:x.cust.length<=900
 inst:InstH x
 len:p.length<=1000
 may:∀d∈p,yg x d=0
theorem PlanM.sizes{x:Inst}{p:zF}(h:PlanM x p):∀d∈p,d.length<=1000/\(∀t∈d,t.length<=1000)/\DayOk d/\d.flatten.length<=1000:=by
 intro d hd;obtain⟨h1,h2,h3⟩:=ZaE h.cust (h.may d hd);have:=h.cust;exact⟨by omega,λt ht=>by have:=Zax d t ht;omega,h3.ok,by omega⟩
theorem ZiU{x:Inst}(hx:x.cust.length<=900)(hi:InstH x){d:zp}(h:yg x d=0)(b:Int):yg x (vf x b d)=0/\(vf x b d).flatten.Perm d.flatten/\yA x (vf x b d)<=yA x d:=by
 obtain⟨hs,hg⟩:=Zin hx hi.arc hi.veh h;obtain⟨h1,h2,h3⟩:=Zag hs hi.diag b.toNat d hg;obtain⟨m1,m2,m3⟩:=(wC x d).1 h;change SG x d.flatten (vf x b d) at h1;change yA x (vf x b d)<=yA x d at h2;change (vf x b d).length<=d.length at h3;exact⟨(wC x _).2 ⟨h1.may,(h1.perm.map _).nodup_iff.2 m2,by omega⟩,h1.perm,h2⟩
theorem ZtA{x:Inst}(hx:x.cust.length<=900)(hi:InstH x){d:zp}(h:yg x d=0){b:Int}(hb:b<=9223372036854775807):∃k:Int,Pure prog 252 [.agg (zy x),.agg [L d],I b] (.tup [.agg [L (vf x b d)],I k]):=by
 obtain⟨hs,hg⟩:=Zin hx hi.arc hi.veh h;have o:=hg.ok hs;exact⟨_,Zgs x d b (un x) (SG x d.flatten) hb o.n o.t (λ_=>hg) (ZgX hs hi.diag)⟩
theorem ZtB{x:Inst}{p:zF}(h:PlanM x p)(day b:Int)(hb:b<=9223372036854775807):
  Pure prog 216 [.agg (zy x),.agg [L p],I day,I b] (.tup [.agg [L (vX x p day b).1],B (vX x p day b).2]):=by
 have hsz:=h.sizes;have hpl:=h.len;refine zr func216 ntmps216 results216 λS nx hd=>?_
 refine D0 ?_;intro v0 v1 v2;refine D0 ?_;refine λhsuf=>((ZdD p h.len (λd hd=>(hsz d hd).1) (λd hd=>(hsz d hd).2.1) jP).mono ?_).v
 rintro _ _ ⟨v3,rfl,rfl⟩;refine⟨_,_,X6 3 _,jG [] Nat.add_assoc hsuf ?_⟩;intro v4
 by_cases h0:day<0
 ·have hz:vX x p day b=(p,false):=by unfold vX;rw[if_pos (.inl h0)]
  rw[hz]
  repeat apply za
  refine ze [(2,17)] (zo h0 zB) ?_;refine zk rfl (zZ 6 rfl ?_);refine D0 ?_;exact D1 hd
 by_cases h1:(p.length:Int)<=day
 ·have hz:vX x p day b=(p,false):=by unfold vX;rw[if_pos (.inr h1)]
  rw[hz]
  repeat apply za
  refine ze [(2,17)] (zo h0 h1) ?_;refine zk rfl (zZ 6 rfl ?_);refine D0 ?_;exact D1 hd
 obtain⟨k,rfl⟩:=Au (show 0<=day by omega);have hk:k<p.length:=DQ
 obtain⟨d,tl,a1,a2,a3,e0⟩:=zE rfl p k hk;have hdm:=Ab a1;have hgd:p.getD (k:Int).toNat []=d:=by rw[AJ,Aa,a1];rfl
 have hz:vX x p k b=if W (yA x d)<=W (yA x (vf x b d)) then (p,false) else (p.set k (vf x b d),true):=by
  unfold vX;rw[if_neg DQ,hgd,AJ]
 obtain⟨m,hI⟩:=ZtA h.cust h.inst (h.may d hdm) hb;have him:=ZiU h.cust h.inst (h.may d hdm) b;have hc1:=J4 x d (hsz d hdm).2.2.1;have hc2:=J4 x (vf x b d) (ZaE h.cust him.1).2.2.ok;rw[hz];generalize vf x b d=e at *;generalize W (yA x d)=z1 at *;generalize W (yA x e)=z2 at *;have hk1:1<=p.length-k:=DQ
 have hpf:(p.flatMap Enc.enc:List PV).length=p.length:=jR p;have hsp:=Zda (α:=zp) rfl p k e hk;have hsp':yf (p.flatMap Enc.enc) k [L e]=(p.set k e).flatMap Enc.enc:=by simpa using hsp
 repeat apply za
 refine ze [(2,17)] (zo h0 h1) ?_;refine zm rfl (zh (za (zz (some [nx,nx+6,nx+7]) (Row.pures [0,1,2,3,4,5,6,7,8,9,10] (.alt 11 (.alt 12 (Row.pures [13] .done) .stop) .stop)) mixed (zA e0 hk hk1) ?_)));refine zH (hI) (zA e0 hk hk1) ?_;intro v5
 by_cases hle:z1<=z2
 ·rw[if_pos hle]
  repeat apply za
  refine zz (some [nx,nx+6,nx+7,nx+8]) (Row.pures [0,1,2,3,4,5,6,7,8,9,10] .done) mixed (zJ e0 hk hk1 hle) ?_;refine zH (hc2) (zJ e0 hk hk1 hle) ?_;refine zH (hc1) (zJ e0 hk hk1 hle) ?_;refine zk rfl (zZ 6 rfl ?_);refine D0 ?_;exact D1 hd
 ·rw[if_neg hle]
  repeat apply za
  refine zz (some [nx,nx+6,nx+7,nx+8]) (Row.pures [0,1,2,3,4,5,6,7,8,9,10] .done) mixed (zJ e0 hk hk1 hle) ?_;refine zH (hc2) (zJ e0 hk hk1 hle) ?_;refine zH (hc1) (zJ e0 hk hk1 hle) ?_;refine zm rfl (zh (za (ze [] (zA hk hsp' hpf) ?_)));refine⟨by omega,?_⟩;refine zZ 6 rfl ?_;refine D0 ?_;exact zg (zi hd DT (by simp[zn]))
open Go Go.Proofs Hp
structure PlanS (n K:Nat) (p:zF):Prop where
 len:p.length=n
 ok:∀d∈p,DayOk d/\d.flatten.length<=K/\d.length<=K
theorem ZdE{x:Inst}{d:zp}{s:Stop}{K:Nat}(hx:x.cust.length<=1048576)(h1:DayOk d)(h2:d.flatten.length<=K)(h3:d.length<=K)(hK:K<=100000):DayOk (yN x d s).1/\(yN x d s).1.flatten.length<=K+1/\(yN x d s).1.length<=K+1:=by
 refine⟨Zgo hx h1 DQ DQ,?_,?_⟩
 ·cases hi:(yN x d s).2 with
  | true=>rw[(Zcg hi).length_eq,Ad];omega
  | false=>rw[ZfZ hi];omega
 grind[yN,jI]
theorem ZtC(x:Inst)(p:zF)(c:Nat){n K:Nat}(hn1:n<=1000)(hK:K<=100000)(hx:x.cust.length<=1000)(hc:c<x.cust.length)(hp:PlanS n K p):Pure prog 322 [.agg (zy x),.agg [L p],I c] (L (p.map (vn x (vT x c)))):=by
 have hth:=Zim x c;rw[show (decide (0<=(c:Int)) && decide ((c:Int)<x.cust.length))=true from by simp;omega]at hth;obtain⟨cu,tlc,a1,-,-,e1,e0⟩:=el 8 rfl x.cust c hc;have e11:=e1 1 DQ;have hq:vT x c=⟨c,if cu.kind=1 then cu.demand else 1⟩:=by unfold vT;rw[Aa,a1];rfl
 have hplen:p.length<=1000:=by have:=hp.len;omega
 refine zr func322 ntmps322 results322 λS nx hd=>?_
 refine D0 ?_;intro v0 v1;refine D0 ?_;intro v2;refine za (qa (nx:=nx) (σ:=Unit) (λ_=>True) (λ_=>[(3,.ptr nx v0 0),(4,.ptr (nx+1) v1 0),(7,.ptr (nx+2) v2 0)]) (λ_=>S) (λ_=>[.cells v0 25 (zy x),.cells v1 30 [L p],.cells v2 100 [I c,I (vT x c).q]]) ?_ ?_)
 ·by_cases hk:cu.kind=1
  ·rw[if_pos hk]at hq;refine za (ze [(3,19)] (zA e0 hc hk) ?_);refine qi [(3,19)] hth (zA e0 hc hk) ?_;refine zk (by simp[hk]) ?_;refine ze [] (zo e11 hc) ?_;exact zS () [] trivial DR rfl (by simp[hq])
  ·rw[if_neg hk]at hq;refine za (ze [(3,19)] (zA e0 hc hk) ?_);refine qi [(3,19)] hth (zA e0 hc hk) ?_;refine zm (by simp[hk]) ?_;exact zh (zS () [] trivial DR rfl (by simp[hq]))
 intro _ _;have hsc:(vT x c).c=c:=rfl;generalize hst:vT x c=s at hsc;clear hq;refine D0 ?_;refine za (qt 8 3 1 rfl λv3=>?_);refine D0 ?_;refine zj (zC (λst:Nat × List Int × Nat=>st.1<=p.length/\st.2.1=(p.take st.1).map (vn x s)) (λ(k,out,w)=>[(3,.ptr nx v0 0),(7,.ptr (nx+2) v2 0),(8,.sl (nx+3) w 1 0 out.length),(36,L p),(37,I p.length),(38,I k)]) (λ(k,out,w)=>[.cells v0 25 (zy x),.cells v1 30 [L p],.cells v2 100 [I c,I s.q],.cells w 3 (out.flatMap Enc.enc)]) (λst=>p.length-st.1) (0,[],v3) [] DR DR DR ?_);rintro⟨k,out,w⟩ ⟨hk,ho⟩;simp only at hk ho ⊢;have hol:out.length=k:=by rw[ho];simp;omega
 refine D0 ?_;refine za (zv rfl (λhc1=>?_) (λhc1=>?_))
 ·simp at hc1;obtain⟨d,tl,b1,b2,b3,f0⟩:=zE rfl p k hc1;obtain⟨g1,g3,g4⟩:=hp.ok d (Ab b1);have g5:=(ZdE (x:=x) (s:=s) DQ g1 g3 g4 hK).1;have hins:=Zcn x d s DQ g1 DQ;have hc2:=J4 x d g1;have hc3:=J4 x _ g5;have hpr:vn x s d=if (yN x d s).2=true then max 0 (W (W (yA x (yN x d s).1)-W (yA x d))) else 4294967296:=rfl
  rw[hsc]at hins;generalize yN x d s=r at *;obtain⟨e,ok⟩:=r;simp only at hins hc3 hpr;generalize W (yA x d)=z1 at *;generalize W (yA x e)=z2 at *;have h1p:1<=p.length-k:=DQ
  refine zh (za (zj (za (ze [] (zA f0 hc1 h1p) ?_))));intro v4;refine D0 ?_
  repeat apply za
  refine zb ?_;refine zt hins ?_;intro v5;refine D0 ?_;cases ok with
  | true =>
   rw[if_pos rfl]at hpr;have hmax:jk (0:Int) (W (z2-z1))=vn x s d:=by rw[hpr];unfold jk;split<;>omega
   refine zk rfl (zz (some [nx,nx+4,nx+5]) (Row.pures [0,1,2,3,4,5,6,7,8] .done) mixed trivial ?_);refine zH (hc3) hmax ?_;refine zH (hc2) hmax ?_;refine zb ?_;refine⟨by omega,?_⟩;refine zb ?_;exact zq (k+1,out++[vn x s d],w+1) [_,_] ⟨hc1,by rw[b3,List.map_append,ho];rfl⟩ DV (by simp[zu k (by omega)]) rfl (by simp[hpr];exact⟨rfl,rfl⟩)
  | false =>
   rw[if_neg DX]at hpr;refine zm rfl (zh (zb ?_));refine⟨by omega,?_⟩;refine zb ?_;exact zq (k+1,out++[vn x s d],w+1) [_,_] ⟨hc1,by rw[b3,List.map_append,ho];rfl⟩ DV (by simp[zu k (by omega)]) rfl (by simp[hpr];exact⟨rfl,rfl⟩)
 ·simp at hc1;obtain rfl:k=p.length:=DQ
  rw[Ai]at ho;refine zx (zZ 3 rfl ?_);refine D0 ?_;exact zg (zi hd DT (by simp[zn,ho]))
def Ye(x:Inst)(p:zF):Bool:=p.all λd=>decide (yg x d=0)
theorem ZtD(x:Inst)(p:zF){n K:Nat}(hn1:n<=1000)(hK:K<=100000)(hx:x.cust.length<=1000)(hp:PlanS n K p):Pure prog 289 [.agg (zy x),.agg [L p]] (B (Ye x p)):=by
 have hplen:p.length<=1000:=by have:=hp.len;omega
 refine zr func289 ntmps289 results289 λS nx hd=>?_
 refine D0 ?_;intro v0 v1
 repeat apply za
 refine zb ?_;refine zj (zC (λk:Nat=>k<=p.length/\∀d∈p.take k,yg x d=0) (λk=>[(2,.ptr nx v0 0),(8,L p),(9,I p.length),(10,I k)]) (λ_=>[.cells v0 25 (zy x),.cells v1 30 [L p]]) (λk=>p.length-k) 0 [] DR DR DR ?_);rintro k ⟨hk,hE⟩;refine D0 ?_;refine za (zv rfl (λhc=>?_) (λhc=>?_))
 ·simp at hc;obtain⟨d,tl,a1,a2,a3,e0⟩:=zE rfl p k hc;obtain⟨g1,g2,g3⟩:=hp.ok d (Ab a1);have hD:=ZbO x d DQ g1.n g1.t DQ;have hk1:1<=p.length-k:=DQ
  refine zh (za (zj (za (ze [] (zA e0 hc hk1) ?_))));intro v2
  by_cases h0:yg x d=0
  ·rw[h0]at hD;refine D0 ?_;refine zt hD ?_;refine zm DR ?_;refine zh (zb ?_);exact zq (k+1) [_] ⟨hc,λe he=>by rw[a3]at he;rcases Ay.1 he with q | q;exact hE e q;rw[AY.1 q];exact h0⟩ DQ (by simp[zu k (by omega)]) rfl DT
  ·have ho:Ye x p=false:=by
    unfold Ye;rw[Bm];exact⟨d,Ab a1,by simpa using h0⟩
   rw[ho];generalize yg x d=z at *;refine D0 ?_;refine zt hD ?_;refine zk (by simp[h0]) ?_;refine D0 ?_;exact zg (zi hd rfl rfl)
 ·simp at hc;obtain rfl:k=p.length:=DQ
  rw[Ai]at hE;have ho:Ye x p=true:=by
   unfold Ye;rw[Ax];intro d hd;simpa using hE d hd
  rw[ho];refine zx (D0 ?_);exact zg (zi hd rfl rfl)
def ZJ(x:Inst)(c:Nat)(st:zF × Bool)(w:Visit):zF × Bool :=
 if st.2=true then (if (yN x (st.1.getD w.d.toNat []) ⟨c,w.q⟩).2=true then (st.1.set w.d.toNat (yN x (st.1.getD w.d.toNat []) ⟨c,w.q⟩).1,true) else ([],false)) else st
def vu(x:Inst)(n:Nat)(p:zF)(c:Nat):zF × Bool :=
 if (qE n x.cap (x.cust.getD c default) (p.map (vn x (vT x c)))).2=true then (qE n x.cap (x.cust.getD c default) (p.map (vn x (vT x c)))).1.foldl (ZJ x c) (p,true) else ([],false)
theorem ZdF(x:Inst)(c:Nat):∀v:List Visit,v.foldl (ZJ x c) ([],false)=([],false)
 | []=>rfl
 | w :: v=>by rw[A3];exact ZdF x c v
theorem ZtE(x:Inst)(s:Stop)(p:zF):∀z∈p.map (vn x s),zO z:=by
 intro z hz;obtain⟨d,-,rfl⟩:=Al.1 hz;unfold vn;split
 ·have:=Zdc (W (yA x (yN x d s).1)-W (yA x d));unfold zO at *;omega
 ·unfold zO;omega
theorem PlanS.sizes{n K:Nat}{p:zF}(h:PlanS n K p)(hn1:n<=1000)(hK:K<=1000):p.length<=1000/\(∀d∈p,d.length<=1000)/\∀d∈p,∀t∈d,t.length<=1000:=by
 refine⟨by have:=h.len;omega,λd hd=>by have:=(h.ok d hd).2.2;omega,λd hd t ht=>?_⟩;have:=Zax d t ht;have:=(h.ok d hd).2.1;omega
theorem PlanS.set{n K:Nat}{p:zF}(h:PlanS n K p){k:Nat}{e:zp}(he:DayOk e/\e.flatten.length<=K+1/\e.length<=K+1):PlanS n (K+1) (p.set k e):=by
 refine⟨by rw[BH];exact h.len,λd hd=>?_⟩;rcases Bw hd with q | q
 ·obtain⟨g1,g2,g3⟩:=h.ok d q;exact⟨g1,by omega,by omega⟩
 ·rw[q];exact he
theorem ZiV{x:Inst}{n:Nat}(h:InstA x n){p:zF}{K:Nat}(hK:K<=10000)(hp:PlanS n K p){c:Nat}(hc:c<x.cust.length)(h0:(vu x n p c).2=true):PlanS n (K+64) (vu x n p c).1:=by
 have hx:=h.h.cust;unfold vu at h0 ⊢;split at h0
 ·rename_i h1;rw[if_pos h1];have hcm:x.cust.getD c default∈x.cust:=by rw[Aa,Af hc];exact A9 hc
  have hg:=ZaD (h.made _ hcm) h.n60 x.cap _ h1;have hl:=hg.len;generalize (qE n x.cap (x.cust.getD c default) (p.map (vn x (vT x c)))).1=v at *;clear hg h1;have key:∀(v:List Visit) (q:zF) (K:Nat),K+v.length<=10100->PlanS n K q->(v.foldl (ZJ x c) (q,true)).2=true->PlanS n (K+v.length) (v.foldl (ZJ x c) (q,true)).1:=by
   intro v
   induction v with
   | nil=>intro q K _ hq _;exact hq
   | cons w v ih =>
    intro q K hKl hq hz;rw[Ad]at hKl ⊢;rw[A3]at hz ⊢;have hs:ZJ x c (q,true) w=if (yN x (q.getD w.d.toNat []) ⟨c,w.q⟩).2=true then (q.set w.d.toNat (yN x (q.getD w.d.toNat []) ⟨c,w.q⟩).1,true) else ([],false):=rfl
    rw[hs]at hz ⊢;split at hz
    ·rename_i hi;rw[if_pos hi];rw[show K+(v.length+1)=(K+1)+v.length by omega];refine ih _ _ DQ (hq.set ?_) hz;have hd:DayOk (q.getD w.d.toNat [])/\(q.getD w.d.toNat []).flatten.length<=K/\(q.getD w.d.toNat []).length<=K:=by
      rw[Aa];cases e:q[w.d.toNat]? with
      | none=>exact⟨⟨by simp,by simp,by simp⟩,by simp,by simp⟩
      | some d=>exact hq.ok d (Ab e)
     exact ZdE DQ hd.1 hd.2.1 hd.2.2 DQ
    ·rw[ZdF]at hz;cases hz
  have:=key v p K DQ hp h0;exact⟨this.len,λd hd=>by obtain⟨g1,g2,g3⟩:=this.ok d hd;exact⟨g1,by omega,by omega⟩⟩
 ·cases h0
theorem ZtF{x:Inst}{n:Nat}(h:InstA x n){p:zF}{K:Nat}(hK:K<=900)(hp:PlanS n K p)(c:Nat)(hc:c<x.cust.length):Pure prog 288 [.agg (zy x),.agg [L p],I c] (.tup [.agg [L (vu x n p c).1],B (vu x n p c).2]):=by
 have hx:=h.h.cust;have hn60:=h.n60;have hxd:=h.days;have hpl:=hp.len;obtain⟨hs1,hs2,hs3⟩:=hp.sizes DQ DQ;obtain⟨cu,tlc,a1,-,-,e1,e0⟩:=el 8 rfl x.cust c hc;have hcm:=Ab a1;have hgc:x.cust.getD c default=cu:=by rw[Aa,a1];rfl
 have hPr:=ZtC x p c (n:=n) (K:=K) DQ DQ hx hc hp;have hI:=ZtE x (vT x c) p;have hlen:(p.map (vn x (vT x c))).length<=1000:=by rw[List.length_map];omega
 have hput:vu x n p c=if (qE n x.cap cu (p.map (vn x (vT x c)))).2=true then (qE n x.cap cu (p.map (vn x (vT x c)))).1.foldl (ZJ x c) (p,true) else ([],false):=by unfold vu;rw[hgc]
 have hgood:=ZaD (h.made cu hcm) hn60 x.cap (p.map (vn x (vT x c)));rw[hput];generalize p.map (vn x (vT x c))=pr at *;have hSo:Pure prog 207 [.agg (zV cu),I x.days,I x.cap,L pr] (.tup [L (qE n x.cap cu pr).1,B (qE n x.cap cu pr).2]):=by
  rw[hxd];exact λS=>Zdp cu n x.cap (.inl rfl) hI hlen (h.made cu hcm) (h.pats cu hcm) hn60
 clear hput;generalize qE n x.cap cu pr=r at *;obtain⟨v,ok⟩:=r;simp only at hSo hgood ⊢;refine zr func288 ntmps288 results288 λS nx hd=>?_
 refine D0 ?_;intro v0 v1 v2;refine za (zz (some [nx,nx+1]) (Row.pures [0,1,2,3,4,5,6,7,8,9,10,11,12,13,14,15,16,17,18] .done) mixed (zo e0 hc) ?_);refine zH (hPr) (zo e0 hc) ?_;refine zH (hSo) (zo e0 hc) ?_;cases ok with
 | false =>
  rw[if_neg DX]
  repeat apply za
  refine zb ?_;refine zk rfl (D0 ?_);refine qu 2 0 rfl rfl ?_;exact D1 hd
 | true =>
  have hg:=hgood rfl;have hvl:=hg.len;rw[if_pos rfl]
  repeat apply za
  refine zb ?_;refine zm rfl (zh (D0 ?_));refine λhsuf=>((ZdD p hs1 hs2 hs3 jP).mono ?_).v
  rintro _ _ ⟨v3,rfl,rfl⟩;refine⟨_,_,X6 3 _,jG [] Nat.add_assoc hsuf ?_⟩;intro v4
  repeat apply za
  refine zb ?_;refine zj (zC (λs:Nat × zF × Nat=>s.1<=v.length/\(v.take s.1).foldl (ZJ x c) (p,true)=(s.2.1,true)/\PlanS n (K+s.1) s.2.1) (λ(k,q,w)=>[(2,I c),(3,.ptr nx v0 0),(6,.ptr (nx+2) v2 0),(10,.ptr (nx+7) v4 0),(38,L v),(39,I v.length),(40,I k)]) (λ(k,q,w)=>[.cells v0 25 (zy x),.cells v1 30 [L p],.cells v2 30 [yu],.dead,.dead,.dead,.cells w 39 (q.flatMap Enc.enc),.cells v4 30 [.sl (nx+6) w 1 0 q.length]]) (λs=>v.length-s.1) (0,p,v3) [] ⟨by simp,by simp,hp⟩ DR DR ?_);rintro⟨k,q,w⟩ ⟨hk,hq,hqs⟩;simp only at hk hq hqs ⊢;have hql:=hqs.len;refine D0 ?_;refine za (zv rfl (λhc1=>?_) (λhc1=>?_))
  ·simp at hc1;obtain⟨u,tl,b1,b2,b3,f1,f0⟩:=el 2 rfl v k hc1;have hu:=hg.ok u (Ab b1);obtain⟨z,hz⟩:∃z:Nat,u.d=z:=⟨u.d.toNat,by omega⟩;have hzl:z<q.length:=DQ
   obtain⟨d,tld,d1,d2,d3,d0⟩:=zE rfl q z hzl;obtain⟨g1,g2,g3⟩:=hqs.ok d (Ab d1);have hins:=Zcn x d ⟨c,u.q⟩ DQ g1 DQ;have hsz:=ZdE (x:=x) (s:=⟨c,u.q⟩) DQ g1 g2 g3 DQ;have hst:(v.take (k+1)).foldl (ZJ x c) (p,true)=if (yN x d ⟨c,u.q⟩).2=true then (q.set z (yN x d ⟨c,u.q⟩).1,true) else ([],false):=by
    rw[b3,Br,hq];have e9:q.getD u.d.toNat []=d:=by rw[hz,AJ,Aa,d1];rfl
    show ZJ x c (q,true) u=_
    unfold ZJ;rw[if_pos rfl,e9,hz,AJ]
   generalize yN x d ⟨c,u.q⟩=e at *;obtain⟨d',ok'⟩:=e;simp only at hins hst hsz;have hz1:1<=q.length-z:=DQ
   have hqf:(q.flatMap Enc.enc:List PV).length=q.length:=jR q;have hsp:=Zda (α:=zp) rfl q z d' hzl;have hsp':yf (q.flatMap Enc.enc) z [L d']=(q.set z d').flatMap Enc.enc:=by simpa using hsp
   refine zh (za (zj (za (ze [] (zA f0 hc1 hz) ?_))));intro v5;refine D0 ?_;intro v6;refine za (zz (some [nx,nx+6,nx+7,nx+8,nx+9]) (Row.pures [0,1,2,3,4,5,6,7,8,9,10,11] (.alt 12 (.alt 13 (Row.pures [14] .done) .stop) .stop)) mixed (zJ d0 hzl hz1 hz) ?_);refine zH (hins) (zJ d0 hzl hz1 hz) ?_;intro v7;cases ok' with
   | false =>
    rw[if_neg DX]at hst;have hall:v.foldl (ZJ x c) (p,true)=([],false):=by
     conv=>lhs;rw[<-List.take_append_drop (k+1) v,Br,hst,ZdF]
    rw[hall]
    repeat apply za
    refine zb ?_;refine zk rfl (D0 ?_);refine qu 2 0 rfl rfl ?_;exact D1 hd
   | true =>
    rw[if_pos rfl]at hst
    repeat apply za
    refine zb ?_;refine zm rfl (zh (ze [] (zJ hzl hsp' hqf hz) ?_));refine⟨by omega,?_⟩;refine zb ?_;exact zq (k+1,q.set z d',w) [_,_,_] ⟨hc1,hst,hqs.set hsz⟩ DV (by simp[zu k (by omega)]) rfl (by simp;exact⟨rfl,rfl,rfl⟩)
  ·simp at hc1;obtain rfl:k=v.length:=DQ
   rw[Ai]at hq;rw[hq];refine zx (zZ 6 rfl ?_);refine D0 ?_;exact D1 hd
open Go Go.Proofs Hp
theorem PlanS.wo{n K:Nat}{p:zF}(h:PlanS n K p)(c:Int):PlanS n K (Js c p):=by
 refine⟨by unfold Js;rw[List.length_map];exact h.len,λe he=>?_⟩;obtain⟨d,hd,rfl⟩:=Al.1 he;obtain⟨g1,g2,g3⟩:=h.ok d hd;have hl:=Zgn c d;have hm:∀t∈j7 c d,∃u∈d,t=xP c u:=λt ht=>by
  obtain⟨u,hu,e⟩:=Al.1 (Bj.1 ht).1;exact⟨u,hu,e.symm⟩
 refine⟨⟨by have:=g1.n;omega,λt ht=>?_,λt ht s hs=>?_⟩,?_,by omega⟩
 ·obtain⟨u,hu,rfl⟩:=hm t ht;exact AB (Zcp c u) (g1.t u hu)
 ·obtain⟨u,hu,rfl⟩:=hm t ht;exact g1.s u hu s (Bj.1 hs).1
 grind[Zsm]
structure PlanG (x:Inst) (n:Nat) (p:zF):Prop where
 a:InstA x n
 six:x.cust.length<=6
 len:p.length=n
 may:∀d∈p,yg x d=0
theorem PlanG.m{x:Inst}{n:Nat}{p:zF}(h:PlanG x n p):PlanM x p:=⟨by have:=h.six;omega,h.a.h,by have:=h.len;have:=h.a.n60;omega,h.may⟩
theorem PlanG.s{x:Inst}{n:Nat}{p:zF}(h:PlanG x n p):PlanS n 6 p:=by
 refine⟨h.len,λd hd=>?_⟩;obtain⟨h1,h2,h3⟩:=ZaE (by have:=h.six;omega) (h.may d hd);have:=h.six;exact⟨h3.ok,by omega,by omega⟩
theorem PlanG.serves{x:Inst}{n:Nat}{p:zF}(h:PlanG x n p):Serves x p:=by
 have hs:=h.s;have hn:=h.a.n60;have hl:=hs.len;have hcn:Xt p<=1000*p.length:=by
  have:∀p:zF,(∀d∈p,d.flatten.length<=1000)->Xt p<=1000*p.length:=by
   intro p
   induction p with
   | nil=>intro _;simp[Xt]
   | cons d p ih =>
    intro h;have:=ih λe he=>h e (by simp[he])
    have:=h d DR;simp only[Xt,AA,Cg,Ad]at *;omega
  exact this p λd hd=>by have:=(hs.ok d hd).2.1;omega
 refine⟨⟨by omega,λd hd=>by have:=(hs.ok d hd).2.2;omega,λd hd=>(hs.ok d hd).1.t,by rw[Zh0];omega⟩,λs hst=>?_,by omega⟩;obtain⟨d,hd,hsd⟩:=ZcW p 0 s hst;have:=ZcX (h.may d hd) s.1 hsd
 grind[qZ]
theorem PlanG.cost{x:Inst}{n:Nat}{p:zF}(h:PlanG x n p):Pure prog 68 [.agg (zy x),.agg [L p]] (I (xW x p)) :=
 Zry x p h.serves (by have:=h.six;omega) (λc hc=>(h.a.made c hc).fits) λd hd=>(h.s.ok d hd).1
theorem PlanG.clone{x:Inst}{n:Nat}{p:zF}(h:PlanG x n p):Pure prog 180 [.agg [L p]] (.agg [L p]):=by
 obtain⟨h1,h2,h3⟩:=h.s.sizes (by have:=h.a.n60;omega) DQ;exact Ztz p h1 h2 h3
theorem PlanS.open{x:Inst}{n K:Nat}(h:InstA x n)(h6:x.cust.length<=6){p:zF}(hp:PlanS n K p)(ho:Ye x p=true):PlanG x n p :=
 ⟨h,h6,hp.len,λd hd=>by simp_all[Ye]⟩
def uU(cs:List Nat)(p:zF):zF:=cs.foldl (λq (c:Nat)=>Js c q) p
def WP(x:Inst)(n:Nat)(st:zF × Bool)(c:Nat):zF × Bool:=if st.2=true then vu x n st.1 c else st
def uu(x:Inst)(n:Nat)(cs:List Nat)(q:zF):zF × Bool:=cs.foldl (WP x n) (q,true)
def wO(x:Inst)(n:Nat)(p:zF)(cs:List Nat):zF × Bool :=
 if (uu x n cs (uU cs p)).2=true then
  (if Ye x (uu x n cs (uU cs p)).1=true/\¬xW x p<=xW x (uu x n cs (uU cs p)).1 then ((uu x n cs (uU cs p)).1,true) else (p,false))
 else (p,false)
theorem ZdG(x:Inst)(n:Nat)(q:zF):∀cs:List Nat,cs.foldl (WP x n) (q,false)=(q,false)
 | []=>rfl
 | c :: cs=>by rw[A3];exact ZdG x n q cs
theorem ZiW{x:Inst}{n:Nat}{p:zF}(h:PlanG x n p)(cs:List Nat)(hl:cs.length<=10)(hcs:∀c∈cs,c<x.cust.length):Pure prog 251 [.agg (zy x),.agg [L p],L (cs.map λ(c:Nat)=>(c:Int))] (.tup [.agg [L (wO x n p cs).1],B (wO x n p cs).2]):=by
 have hA:=h.a;have h6:=h.six;have hn60:=hA.n60;have hcl:=h.clone;have hps:=h.s;have hcost:=h.cost;obtain⟨zs,hzs⟩:∃zs,zs=cs.map λ(c:Nat)=>(c:Int):=⟨_,rfl⟩
 have hzl:zs.length=cs.length:=by rw[hzs,List.length_map]
 have hat:∀(k c:Nat),cs[k]?=some c->zs[k]?=some (c:Int):=λk c e=>by rw[hzs,Aj,e];rfl
 have hanew:wO x n p cs=if (uu x n cs (uU cs p)).2=true then (if Ye x (uu x n cs (uU cs p)).1=true/\¬xW x p<=xW x (uu x n cs (uU cs p)).1 then ((uu x n cs (uU cs p)).1,true) else (p,false)) else (p,false):=rfl
 rw[<-hzs];clear hzs;refine zr func251 ntmps251 results251 λS nx hd=>?_
 refine D0 ?_;intro v0 v1 v2;refine D0 ?_;intro v3
 repeat apply za
 refine zb ?_;refine zj (zC (λs:Nat × zF=>s.1<=zs.length/\s.2=uU (cs.take s.1) p/\PlanS n 6 s.2) (λ(k,q)=>[(2,L zs),(3,.ptr nx v0 0),(4,.ptr (nx+1) v1 0),(6,.ptr (nx+2) v2 0),(8,.ptr (nx+3) v3 0),(9,B true),(15,L zs),(16,I zs.length),(17,I k)]) (λ(k,q)=>[.cells v0 25 (zy x),.cells v1 30 [L p],.cells v2 30 [yu],.cells v3 30 [L q]]) (λs=>zs.length-s.1) (0,p) [] ⟨by simp,by simp[uU],hps⟩ DR DR ?_)
 ·rintro⟨k,q⟩ ⟨hk,hq,hqs⟩;simp only at hk hq hqs ⊢;refine D0 ?_;refine za (zv rfl (λhc1=>?_) (λhc1=>?_))
  ·simp at hc1;obtain⟨c,hc⟩:∃c,cs[k]?=some c:=⟨_,Af DQ⟩;have hcx:=hcs c (Ab hc);obtain⟨z,tl,b1,b2,b3,f0⟩:=zE rfl zs k hc1;obtain rfl:z=(c:Int):=by have:=hat k c hc;rw[b1]at this;exact Option.some.inj this
   have hth:=Zim x c;rw[show (decide (0<=(c:Int)) && decide ((c:Int)<x.cust.length))=true from by simp;omega]at hth;obtain⟨s1,s2,s3⟩:=hqs.sizes DQ DQ;have hwo:=Zsk q c s1 (λd hd=>by have:=s2 d hd;omega) (λd hd t ht=>by have:=s3 d hd t ht;omega);have hnext:Js c q=uU (cs.take (k+1)) p:=by
    rw[hq,AG,hc];simp[uU]
   have hqs2:=hqs.wo c;have hqs2:=hqs.wo c;generalize Js c q=q2 at *;refine zh (za (zj (za (ze [] (zo f0 hc1) ?_))))
   repeat apply za
   refine zb ?_;refine zt hth ?_;refine zm DR ?_;refine zh (zb ?_);refine zt hwo ?_;refine zb ?_;exact zq (k+1,q2) [] ⟨hc1,hnext,hqs2⟩ DV (by simp[zu k (by omega)]) rfl DR
  ·simp at hc1;obtain rfl:k=zs.length:=DQ
   rw[hzl,Ai]at hq;refine zx ?_
   repeat apply za
   refine zb ?_;refine zj (zC (λs:Nat × zF=>s.1<=zs.length/\(cs.take s.1).foldl (WP x n) (q,true)=(s.2,true)/\PlanS n (6+64*s.1) s.2) (λ(k,q)=>[(2,L zs),(3,.ptr nx v0 0),(4,.ptr (nx+1) v1 0),(6,.ptr (nx+2) v2 0),(8,.ptr (nx+3) v3 0),(31,L zs),(32,I zs.length),(33,I k)]) (λ(k,q)=>[.cells v0 25 (zy x),.cells v1 30 [L p],.cells v2 30 [yu],.cells v3 30 [L q]]) (λs=>zs.length-s.1) (0,q) [] ⟨by simp,by simp,hqs⟩ DR DR ?_);rw[<-hq]at hanew;clear hqs hq hk hc1;rintro⟨k,r⟩ ⟨hk,hr,hrs⟩;simp only at hk hr hrs ⊢;refine D0 ?_;refine za (zv rfl (λhc1=>?_) (λhc1=>?_))
   ·simp at hc1;obtain⟨c,hc⟩:∃c,cs[k]?=some c:=⟨_,Af DQ⟩;have hcx:=hcs c (Ab hc);obtain⟨z,tl,b1,b2,b3,f0⟩:=zE rfl zs k hc1;obtain rfl:z=(c:Int):=by have:=hat k c hc;rw[b1]at this;exact Option.some.inj this
    have hput:=ZtF hA (K:=6+64*k) DQ hrs c hcx;have hsz:=ZiV hA (K:=6+64*k) DQ hrs hcx;have hst:(cs.take (k+1)).foldl (WP x n) (q,true)=vu x n r c:=by
     rw[AG,hc,Br,hr];rfl
    generalize vu x n r c=e at *;obtain⟨r2,ok⟩:=e;simp only at hput hsz;refine zh (za (zj (za (ze [] (zo f0 hc1) ?_))));refine D0 ?_;refine zt hput ?_;cases ok with
    | false =>
     have hall:uu x n cs q=(r2,false):=by
      unfold uu
      conv=>lhs;rw[<-List.take_append_drop (k+1) cs,Br,hst,ZdG]
     rw[hall,if_neg DR]at hanew;rw[hanew];refine D0 ?_;refine zk rfl (D0 ?_);refine zt hcl ?_;exact D1 hd
    | true =>
     refine D0 ?_;refine zm rfl (zh (zb ?_));exact zq (k+1,r2) [] ⟨hc1,hst,by have:=hsz rfl;rw[show 6+64*(k+1)=6+64*k+64 by omega];exact this⟩ DV (by simp[zu k (by omega)]) rfl DR
   ·simp at hc1;obtain rfl:k=zs.length:=DQ
    rw[hzl,Ai]at hr;have hall:uu x n cs q=(r,true):=hr;rw[hall,if_pos rfl]at hanew;have hop:=ZtD x r (n:=n) (K:=6+64*zs.length) DQ DQ DQ hrs;refine zx ?_;cases ho:Ye x r with
    | false =>
     rw[ho]at hop;rw[ho,if_neg DR]at hanew;rw[hanew]
     repeat apply za
     refine zz (some [nx,nx+1,nx+3]) (Row.pures [0,1,2,3,4,5,6,7,8,9,10,11,12] .done) mixed zB ?_;refine zH (hop) zB ?_;refine zk rfl (D0 ?_);refine zt hcl ?_;exact D1 hd
    | true =>
     rw[ho]at hop;have hcr:=(hrs.open hA h6 ho).cost;generalize xW x r=z2 at *;generalize xW x p=z1 at *
     by_cases hle:z1<=z2
     ·rw[if_neg (λq=>q.2 hle)]at hanew;rw[hanew]
      repeat apply za
      refine zz (some [nx,nx+1,nx+3]) (Row.pures [0,1,2,3,4,5,6,7,8,9,10,11,12] .done) mixed hle ?_;refine zH (hop) hle ?_;refine zH (hcr) hle ?_;refine zH (hcost) hle ?_;refine zk rfl (D0 ?_);refine zt hcl ?_;exact D1 hd
     ·rw[if_pos ⟨ho,hle⟩]at hanew;rw[hanew]
      repeat apply za
      refine zz (some [nx,nx+1,nx+3]) (Row.pures [0,1,2,3,4,5,6,7,8,9,10,11,12] .done) mixed hle ?_;refine zH (hop) hle ?_;refine zH (hcr) hle ?_;refine zH (hcost) hle ?_;refine zm rfl (zh (D0 ?_));exact D1 hd
theorem ZtG{x:Inst}{n:Nat}{p:zF}(h:PlanG x n p)(c:Nat)(hc:c<x.cust.length):Pure prog 214 [.agg (zy x),.agg [L p],I c] (.tup [.agg [L (wO x n p [c]).1],B (wO x n p [c]).2]):=by
 have ha:=ZiW h [c] DR (by simpa using hc);simp only[AA,Bk]at ha;refine zr func214 ntmps214 results214 λS nx hd=>?_
 refine D0 ?_;intro v0 v1 v2;refine D0 ?_;refine zt ha ?_;exact D1 hd
def Zf(x:Inst)(n:Nat)(p:zF)(a b:Nat):zF × Bool:=if a=b then (p,false) else wO x n p [a,b]
theorem ZtH{x:Inst}{n:Nat}{p:zF}(h:PlanG x n p)(a b:Nat)(ha:a<x.cust.length)(hb:b<x.cust.length):Pure prog 215 [.agg (zy x),.agg [L p],I a,I b] (.tup [.agg [L (Zf x n p a b).1],B (Zf x n p a b).2]):=by
 have hcl:=h.clone;unfold Zf
 by_cases hab:a=b
 ·rw[if_pos hab];refine zr func215 ntmps215 results215 λS nx hd=>?_
  refine D0 ?_;intro v0 v1 v2
  repeat apply za
  refine zb ?_;refine zk (by simp[hab]) ?_;refine D0 ?_;refine zt hcl ?_;exact D1 hd
 ·rw[if_neg hab];have hn:=ZiW h [a,b] DR (by simpa using ⟨ha,hb⟩);simp only[AA,Bk]at hn;refine zr func215 ntmps215 results215 λS nx hd=>?_
  refine D0 ?_;intro v0 v1 v2
  repeat apply za
  refine zb ?_;refine zm DV ?_;refine zh (D0 ?_);refine zt hn ?_;exact D1 hd
theorem ZiX{x:Inst}{n:Nat}(h:InstA x n):∀(cs:List Nat) (K:Nat) (q:zF),(∀c∈cs,c<x.cust.length)->K+64*cs.length<=1000->PlanS n K q->(uu x n cs q).2=true->PlanS n (K+64*cs.length) (uu x n cs q).1
 | [],K,q,_,_,hq,_=>hq
 | c :: cs,K,q,hc,hK,hq,hz=>by
  rw[Ad]at hK ⊢;have e:uu x n (c :: cs) q=cs.foldl (WP x n) (vu x n q c):=rfl;rw[e]at hz ⊢;cases ho:(vu x n q c).2 with
  | false =>
   have:vu x n q c=((vu x n q c).1,false):=by rw[<-ho]
   rw[this,ZdG]at hz;cases hz
  | true =>
   have h1:=ZiV h DQ hq (hc c DR) ho;have:vu x n q c=((vu x n q c).1,true):=by rw[<-ho]
   rw[this]at hz ⊢;have:=ZiX h cs (K+64) _ (λc hc'=>hc c (by simp[hc'])) DQ h1 hz;rw[show K+64*(cs.length+1)=K+64+64*cs.length by omega];exact this
theorem ZiY{n K:Nat}:∀(cs:List Nat) (p:zF),PlanS n K p->PlanS n K (uU cs p)
 | [],_,h=>h
 | c :: cs,p,h=>ZiY cs _ (h.wo c)
theorem ZdH{x:Inst}{n:Nat}{p:zF}(h:PlanG x n p)(cs:List Nat)(hl:cs.length<=10)(hcs:∀c∈cs,c<x.cust.length):PlanG x n (wO x n p cs).1/\xW x (wO x n p cs).1<=xW x p:=by
 unfold wO;split
 ·rename_i h1;split
  ·rename_i h2;exact⟨(ZiX h.a cs 6 _ hcs DQ (ZiY cs p h.s) h1).open h.a h.six h2.1,by have:=h2.2;dsimp only;omega⟩
  ·exact⟨h,CL _⟩
 ·exact⟨h,CL _⟩
theorem ZiZ{x:Inst}{n:Nat}{p:zF}(h:PlanG x n p)(a b:Nat)(ha:a<x.cust.length)(hb:b<x.cust.length):PlanG x n (Zf x n p a b).1/\xW x (Zf x n p a b).1<=xW x p:=by
 unfold Zf;split
 ·exact⟨h,CL _⟩
 ·exact ZdH h [a,b] DR (by simpa using ⟨ha,hb⟩)
open Go Go.Proofs Hp
theorem ZtI(op:BinOp)(x y:Int):0<=bits op .u64 x y/\bits op .u64 x y<18446744073709551616:=by
 have h:=wf_bits op .u64 x y;simp[Lit.wf,IntKind.min,IntKind.max,IntKind.signed,IntKind.bits]at h;omega
abbrev jX(s:Int):List PV:=[.sc (.int .u64 s)]
def yJ(s:Int):Int:=IntKind.u64.wrap (s+11400714819323198485)
def QH(s:Int):Int :=
 let a:=yJ s
 let b:=IntKind.u64.wrap (bits .xor .u64 a (a.fdiv (2 ^ 30))*13787848793156543929)
 let c:=IntKind.u64.wrap (bits .xor .u64 b (b.fdiv (2 ^ 27))*10723151780598845931)
 bits .xor .u64 c (c.fdiv (2 ^ 31))
theorem ZtJ(s:Int):0<=QH s/\QH s<18446744073709551616:=by unfold QH;exact ZtI _ _ _
theorem Yf{S:Store}{nx id:Nat}(hd:zW nx S)(hlt:id<nx)(o:Ob):zW nx (S.set id o):=λi hi=>by rw[q10 _ _ _ _ DQ];exact hd i hi
theorem ZtK:IntKind.u64.bits=64:=rfl
theorem ZtL(s:Int){S:Store}{id v:Nat}(hS:S id=.cells v 179 (jX s)):Spec prog 126 [.ptr id v 0] S (λq S'=>q=.sc (.int .u64 (QH s))/\S'=S.set id (.cells v 179 (jX (yJ s)))):=by
 refine yl func126 ntmps126 results126 λnx hd=>?_
 have hlt:id<nx:=yW hd hS DR;have xw:=λobs=>(zD (S:=S) (obs:=obs) hlt).trans hS
 have yw:=λ(o:Ob) obs=>(zD (S:=S.set id o) (obs:=obs) hlt).trans (q11 _ _ _)
 have g1:¬nx<=id:=DQ
 refine D0 ?_;refine za (ze [] (zo xw g1) ?_);refine za (ze [] (zo yw g1) ?_);refine D0 ?_;refine D0 ?_;refine D0 ?_;exact zg ⟨_,_,rfl,⟨by simp[zn,QH,yJ,ZtK],rfl⟩,zR (Yf hd hlt _)⟩
def jN(s:Int)(n:Nat):Nat:=(QH s).toNat % n
theorem Jv(s:Int){n:Nat}(h:0<n):jN s n<n:=Nat.mod_lt _ h
theorem WQ(s:Int)(n:Nat)(h0:0<n)(hn:n<=4611686018427387904){S:Store}{id v:Nat}(hS:S id=.cells v 179 (jX s)):Spec prog 81 [.ptr id v 0,I n] S (λq S'=>q=I (jN s n)/\S'=S.set id (.cells v 179 (jX (yJ s)))):=by
 have hb:=ZtJ s;have hbl:=Jv s h0;have e1:(QH s).tmod (n:Int)=(jN s n:Int):=by
  unfold jN;obtain⟨m,hm⟩:=Au hb.1;rw[hm,AJ,Bd DQ];omega
 have w1:IntKind.u64.wrap (n:Int)=n:=by rw[IntWalk.u64_in _ DQ]
 have w2:IntKind.i64.wrap (jN s n:Int)=jN s n:=wr _ DQ DQ;have hw:=λ(S:Store) hS=>ZtL s (S:=S) (id:=id) (v:=v) hS
 generalize QH s=r at *;generalize jN s n=k at *;refine yl func81 ntmps81 results81 λnx hd=>?_
 have hlt:id<nx:=yW hd hS DR;have xw:=λobs=>(zD (S:=S) (obs:=obs) hlt).trans hS
 refine D0 ?_
 repeat apply za
 refine zb ?_;refine zm DV ?_;refine zh (za (ze [] (zA w1 e1 w2) ?_));refine λhsuf=>((hw _ (xw _)).mono ?_).v
 rintro _ _ ⟨rfl,rfl⟩;refine⟨S.set id (.cells v 179 (jX (yJ s))),[],y9 _ hlt,?_⟩;have g2:¬n=0:=DQ
 refine jG [] (zJ w1 e1 w2 g2) hsuf ?_;exact zg ⟨_,_,rfl,⟨by simp[zn],rfl⟩,zR (Yf hd hlt _)⟩
theorem Zi0(s:Int){S:Store}{nx:Nat}(hd:zW nx S):Spec prog 78 [I s] S (λq S'=>∃v,q=.ptr nx v 0/\S'=S.set nx (.cells v 179 (jX (IntKind.u64.wrap s)))):=by
 refine u6 hd func78 ntmps78 results78 ?_;refine D0 ?_;refine D0 ?_;intro v0;exact zg ⟨_,_,rfl,⟨v0,by simp[zn],rfl⟩,QW (j:=0) hd DR⟩
open Go Go.Proofs Hp
abbrev Jw(x:Inst)(p:zF)(a o d:Nat)(b:Int):List PV:=[I x.days,I x.veh,I x.cap,I x.len,L x.cust,L x.dist,L p,I a,I o,I d,I b]
theorem ZtM{x:Inst}{n:Nat}{p:zF}(h:PlanG x n p)(d:Nat)(b:Int):PlanG x n (vX x p d b).1:=by
 unfold vX;split
 ·exact h
 ·split
  ·exact h
  ·refine⟨h.a,h.six,by rw[BH];exact h.len,λe he=>?_⟩;rcases Bw he with q | q
   ·exact h.may e q
   ·rw[q];rename_i h1 h2;have hlt:(d:Int).toNat<p.length:=DQ
    refine(ZiU (by have:=h.six;omega) h.a.h (h.may _ ?_) b).1;rw[Aa,Af hlt];exact A9 hlt
theorem ZtN{x:Inst}{n:Nat}{p:zF}(h:PlanG x n p)(a o d:Nat)(b:Int)(ha:a<x.cust.length){S:Store}{id v:Nat}(hS:S id=.cells v 245 (Jw x p a o d b)):
  Spec prog 181 [.ptr id v 0] S (λ_ S'=>S'=S.set id (.cells v 245 (Jw x (wO x n p [a]).1 a o d b))):=by
 have hr:=ZtG h a ha;generalize wO x n p [a]=r at *;obtain⟨q,ok⟩:=r;simp only at hr ⊢;refine yl func181 ntmps181 results181 λnx hd=>?_
 have hlt:id<nx:=yW hd hS DR;have xw:=λobs=>(zD (S:=S) (obs:=obs) hlt).trans hS
 have g1:¬nx<=id:=DQ
 refine zz (some []) (Row.pures [0,1,2,3,5,6,7,9,10,11] (.alt 4 (.alt 8 (.alt 12 (Row.pures [13,14,15,16,17,18] (.alt 19 (.done) .stop)) .stop) (.alt 12 (.alt 8 (Row.pures [13,14,15,16,17,18] (.alt 19 (.done) .stop)) .stop) .stop)) (.alt 8 (.alt 4 (.alt 12 (Row.pures [13,14,15,16,17,18] (.alt 19 (.done) .stop)) .stop) (.alt 12 (.alt 4 (Row.pures [13,14,15,16,17,18] (.alt 19 (.done) .stop)) .stop) .stop)) (.alt 12 (.alt 4 (.alt 8 (Row.pures [13,14,15,16,17,18] (.alt 19 (.done) .stop)) .stop) (.alt 8 (.alt 4 (Row.pures [13,14,15,16,17,18] (.alt 19 (.done) .stop)) .stop) .stop)) .stop)))) mixed (zo xw g1) ?_
 repeat' refine And.intro ?_ ?_
 all_goals
  refine zH (hr) (zo xw g1) ?_;exact⟨_,_,rfl,by simp,zR (Yf hd hlt _)⟩
theorem ZtO{x:Inst}{n:Nat}{p:zF}(h:PlanG x n p)(a o d:Nat)(b:Int)(ha:a<x.cust.length)(ho:o<x.cust.length){S:Store}{id v:Nat}(hS:S id=.cells v 245 (Jw x p a o d b)):
  Spec prog 182 [.ptr id v 0] S (λ_ S'=>S'=S.set id (.cells v 245 (Jw x (Zf x n p a o).1 a o d b))):=by
 have hr:=ZtH h a o ha ho;generalize Zf x n p a o=r at *;obtain⟨q,ok⟩:=r;simp only at hr ⊢;refine yl func182 ntmps182 results182 λnx hd=>?_
 have hlt:id<nx:=yW hd hS DR;have xw:=λobs=>(zD (S:=S) (obs:=obs) hlt).trans hS
 have g1:¬nx<=id:=DQ
 refine zz (some []) (Row.pures [0,1,2,3,5,6,7,9,10,11,13,14,15] (.alt 4 (.alt 8 (.alt 12 (.alt 16 (Row.pures [17,18,19,20,21,22] (.alt 23 (.done) .stop)) .stop) (.alt 16 (.alt 12 (Row.pures [17,18,19,20,21,22] (.alt 23 (.done) .stop)) .stop) .stop)) (.alt 12 (.alt 8 (.alt 16 (Row.pures [17,18,19,20,21,22] (.alt 23 (.done) .stop)) .stop) (.alt 16 (.alt 8 (Row.pures [17,18,19,20,21,22] (.alt 23 (.done) .stop)) .stop) .stop)) (.alt 16 (.alt 8 (.alt 12 (Row.pures [17,18,19,20,21,22] (.alt 23 (.done) .stop)) .stop) (.alt 12 (.alt 8 (Row.pures [17,18,19,20,21,22] (.alt 23 (.done) .stop)) .stop) .stop)) .stop))) (.alt 8 (.alt 4 (.alt 12 (.alt 16 (Row.pures [17,18,19,20,21,22] (.alt 23 (.done) .stop)) .stop) (.alt 16 (.alt 12 (Row.pures [17,18,19,20,21,22] (.alt 23 (.done) .stop)) .stop) .stop)) (.alt 12 (.alt 4 (.alt 16 (Row.pures [17,18,19,20,21,22] (.alt 23 (.done) .stop)) .stop) (.alt 16 (.alt 4 (Row.pures [17,18,19,20,21,22] (.alt 23 (.done) .stop)) .stop) .stop)) (.alt 16 (.alt 4 (.alt 12 (Row.pures [17,18,19,20,21,22] (.alt 23 (.done) .stop)) .stop) (.alt 12 (.alt 4 (Row.pures [17,18,19,20,21,22] (.alt 23 (.done) .stop)) .stop) .stop)) .stop))) (.alt 12 (.alt 4 (.alt 8 (.alt 16 (Row.pures [17,18,19,20,21,22] (.alt 23 (.done) .stop)) .stop) (.alt 16 (.alt 8 (Row.pures [17,18,19,20,21,22] (.alt 23 (.done) .stop)) .stop) .stop)) (.alt 8 (.alt 4 (.alt 16 (Row.pures [17,18,19,20,21,22] (.alt 23 (.done) .stop)) .stop) (.alt 16 (.alt 4 (Row.pures [17,18,19,20,21,22] (.alt 23 (.done) .stop)) .stop) .stop)) (.alt 16 (.alt 4 (.alt 8 (Row.pures [17,18,19,20,21,22] (.alt 23 (.done) .stop)) .stop) (.alt 8 (.alt 4 (Row.pures [17,18,19,20,21,22] (.alt 23 (.done) .stop)) .stop) .stop)) .stop))) (.alt 16 (.alt 4 (.alt 8 (.alt 12 (Row.pures [17,18,19,20,21,22] (.alt 23 (.done) .stop)) .stop) (.alt 12 (.alt 8 (Row.pures [17,18,19,20,21,22] (.alt 23 (.done) .stop)) .stop) .stop)) (.alt 8 (.alt 4 (.alt 12 (Row.pures [17,18,19,20,21,22] (.alt 23 (.done) .stop)) .stop) (.alt 12 (.alt 4 (Row.pures [17,18,19,20,21,22] (.alt 23 (.done) .stop)) .stop) .stop)) (.alt 12 (.alt 4 (.alt 8 (Row.pures [17,18,19,20,21,22] (.alt 23 (.done) .stop)) .stop) (.alt 8 (.alt 4 (Row.pures [17,18,19,20,21,22] (.alt 23 (.done) .stop)) .stop) .stop)) .stop))) .stop))))) mixed (zo xw g1) ?_
 repeat' refine And.intro ?_ ?_
 all_goals
  refine zH (hr) (zo xw g1) ?_;exact⟨_,_,rfl,by simp,zR (Yf hd hlt _)⟩
theorem ZtP{x:Inst}{n:Nat}{p:zF}(h:PlanG x n p)(a o d:Nat)(b:Int)(hb:b<=9223372036854775807){S:Store}{id v:Nat}(hS:S id=.cells v 245 (Jw x p a o d b)):
  Spec prog 183 [.ptr id v 0] S (λ_ S'=>S'=S.set id (.cells v 245 (Jw x (vX x p d b).1 a o d b))):=by
 have hr:=ZtB h.m d b hb;generalize vX x p d b=r at *;obtain⟨q,ok⟩:=r;simp only at hr ⊢;refine yl func183 ntmps183 results183 λnx hd=>?_
 have hlt:id<nx:=yW hd hS DR;have xw:=λobs=>(zD (S:=S) (obs:=obs) hlt).trans hS
 have g1:¬nx<=id:=DQ
 refine zz (some []) (Row.pures [0,1,2,3,5,6,7,9,10,11,13,14,15] (.alt 4 (.alt 8 (.alt 12 (.alt 16 (Row.pures [17,18,19,20,21,22] (.alt 23 (.done) .stop)) .stop) (.alt 16 (.alt 12 (Row.pures [17,18,19,20,21,22] (.alt 23 (.done) .stop)) .stop) .stop)) (.alt 12 (.alt 8 (.alt 16 (Row.pures [17,18,19,20,21,22] (.alt 23 (.done) .stop)) .stop) (.alt 16 (.alt 8 (Row.pures [17,18,19,20,21,22] (.alt 23 (.done) .stop)) .stop) .stop)) (.alt 16 (.alt 8 (.alt 12 (Row.pures [17,18,19,20,21,22] (.alt 23 (.done) .stop)) .stop) (.alt 12 (.alt 8 (Row.pures [17,18,19,20,21,22] (.alt 23 (.done) .stop)) .stop) .stop)) .stop))) (.alt 8 (.alt 4 (.alt 12 (.alt 16 (Row.pures [17,18,19,20,21,22] (.alt 23 (.done) .stop)) .stop) (.alt 16 (.alt 12 (Row.pures [17,18,19,20,21,22] (.alt 23 (.done) .stop)) .stop) .stop)) (.alt 12 (.alt 4 (.alt 16 (Row.pures [17,18,19,20,21,22] (.alt 23 (.done) .stop)) .stop) (.alt 16 (.alt 4 (Row.pures [17,18,19,20,21,22] (.alt 23 (.done) .stop)) .stop) .stop)) (.alt 16 (.alt 4 (.alt 12 (Row.pures [17,18,19,20,21,22] (.alt 23 (.done) .stop)) .stop) (.alt 12 (.alt 4 (Row.pures [17,18,19,20,21,22] (.alt 23 (.done) .stop)) .stop) .stop)) .stop))) (.alt 12 (.alt 4 (.alt 8 (.alt 16 (Row.pures [17,18,19,20,21,22] (.alt 23 (.done) .stop)) .stop) (.alt 16 (.alt 8 (Row.pures [17,18,19,20,21,22] (.alt 23 (.done) .stop)) .stop) .stop)) (.alt 8 (.alt 4 (.alt 16 (Row.pures [17,18,19,20,21,22] (.alt 23 (.done) .stop)) .stop) (.alt 16 (.alt 4 (Row.pures [17,18,19,20,21,22] (.alt 23 (.done) .stop)) .stop) .stop)) (.alt 16 (.alt 4 (.alt 8 (Row.pures [17,18,19,20,21,22] (.alt 23 (.done) .stop)) .stop) (.alt 8 (.alt 4 (Row.pures [17,18,19,20,21,22] (.alt 23 (.done) .stop)) .stop) .stop)) .stop))) (.alt 16 (.alt 4 (.alt 8 (.alt 12 (Row.pures [17,18,19,20,21,22] (.alt 23 (.done) .stop)) .stop) (.alt 12 (.alt 8 (Row.pures [17,18,19,20,21,22] (.alt 23 (.done) .stop)) .stop) .stop)) (.alt 8 (.alt 4 (.alt 12 (Row.pures [17,18,19,20,21,22] (.alt 23 (.done) .stop)) .stop) (.alt 12 (.alt 4 (Row.pures [17,18,19,20,21,22] (.alt 23 (.done) .stop)) .stop) .stop)) (.alt 12 (.alt 4 (.alt 8 (Row.pures [17,18,19,20,21,22] (.alt 23 (.done) .stop)) .stop) (.alt 8 (.alt 4 (Row.pures [17,18,19,20,21,22] (.alt 23 (.done) .stop)) .stop) .stop)) .stop))) .stop))))) mixed (zo xw g1) ?_
 repeat' refine And.intro ?_ ?_
 all_goals
  refine zH (hr) (zo xw g1) ?_;exact⟨_,_,rfl,by simp,zR (Yf hd hlt _)⟩
open Go Go.Proofs Hp
def YT(x:Inst)(n:Nat)(p:zF)(s b:Int):zF :=
 if x.cust.length=0 then p else
  (vX x (Zf x n (wO x n p [jN s x.cust.length]).1 (jN s x.cust.length) (jN (yJ s) x.cust.length)).1 (jN (yJ (yJ s)) n) b).1
def Jx(x:Inst)(s:Int):Int:=if x.cust.length=0 then s else yJ (yJ (yJ s))
theorem ZtQ{x:Inst}{n:Nat}{p:zF}(h:PlanG x n p)(s b:Int):PlanG x n (YT x n p s b):=by
 unfold YT;split
 ·exact h
 ·rename_i h0;have ha:=Jv s (n:=x.cust.length) DQ;have ho:=Jv (yJ s) (n:=x.cust.length) DQ;exact ZtM (ZiZ (ZdH h _ DR (by simpa using ha)).1 _ _ ha ho).1 _ _
def QI(p q1 q2 q3:zF)(k:Nat):zF:=if k=0 then p else if k=1 then q1 else if k=2 then q2 else q3
theorem Zi1(p q1 q2 q3:zF):QI p q1 q2 q3 0=p:=if_pos rfl
theorem Zi2(p q1 q2 q3:zF):QI p q1 q2 q3 1=q1:=by unfold QI;rw[if_neg DX,if_pos rfl]
theorem Zi3(p q1 q2 q3:zF):QI p q1 q2 q3 2=q2:=by unfold QI;rw[if_neg DX,if_neg DX,if_pos rfl]
theorem Zi4(p q1 q2 q3:zF):QI p q1 q2 q3 3=q3:=by unfold QI;rw[if_neg DX,if_neg DX,if_neg DX]
theorem ZtR{x:Inst}{n:Nat}{p:zF}(h:PlanG x n p)(hn0:0<n)(s b:Int)(hb:b<=9223372036854775807){S:Store}{id v:Nat}(hS:S id=.cells v 179 (jX s)):
  Spec prog 129 [.agg (zy x),.agg [L p],.ptr id v 0,I b] S (λq S'=>q=.agg [L (YT x n p s b)]/\S'=S.set id (.cells v 179 (jX (Jx x s)))):=by
 have hcl:=h.clone;have h6:=h.six;have hxd:=h.a.days;have hn60:=h.a.n60
 by_cases hm:x.cust.length=0
 ·have e1:YT x n p s b=p:=by unfold YT;rw[if_pos hm]
  have e2:Jx x s=s:=by unfold Jx;rw[if_pos hm]
  rw[e1,e2];refine yl func129 ntmps129 results129 λnx hd=>?_
  have hlt:id<nx:=yW hd hS DR;refine D0 ?_;intro v0 v1 v2;refine za (zz (some [nx,nx+1]) (Row.pures [0,1,2,3,4] (.alt 5 (Row.pures [6] .done) .stop)) mixed trivial ?_);refine zH (hcl) trivial ?_;intro v3;refine D0 ?_
  repeat apply za
  refine zb ?_;refine zk (by simp[Cn.1 hm]) ?_;refine D0 ?_;have eS:S.set id (.cells v 179 (jX s))=S:=by
   rw[<-hS];funext i
   by_cases hi:i=id
   ·subst hi;exact q11 _ _ _
   ·exact q10 _ _ _ _ hi
  rw[eS];exact zg ⟨_,S,DT,⟨by simp[zn],rfl⟩,zR hd⟩
 have e1:YT x n p s b=(vX x (Zf x n (wO x n p [jN s x.cust.length]).1 (jN s x.cust.length) (jN (yJ s) x.cust.length)).1 (jN (yJ (yJ s)) n) b).1:=by unfold YT;rw[if_neg hm]
 have e2:Jx x s=yJ (yJ (yJ s)):=by unfold Jx;rw[if_neg hm]
 rw[e1,e2];have ha:=Jv s (n:=x.cust.length) DQ;have ho:=Jv (yJ s) (n:=x.cust.length) DQ;have hdd:=Jv (yJ (yJ s)) hn0;have b1:=λ(S:Store) hS=>WQ s x.cust.length DQ DQ (S:=S) (id:=id) (v:=v) hS
 have b2:=λ(S:Store) hS=>WQ (yJ s) x.cust.length DQ DQ (S:=S) (id:=id) (v:=v) hS
 have b3:=λ(S:Store) hS=>WQ (yJ (yJ s)) n DQ DQ (S:=S) (id:=id) (v:=v) hS
 rw[<-hxd]at b3;have hp1:PlanG x n (wO x n p [jN s x.cust.length]).1:=(ZdH h _ DR (by simpa using ha)).1;have hp2:=(ZiZ hp1 _ _ ha ho).1;generalize jN s x.cust.length=a at *;generalize jN (yJ s) x.cust.length=o at *;generalize jN (yJ (yJ s)) n=d at *;generalize yJ (yJ s)=s2 at *;generalize yJ s=s1 at *;generalize yJ s2=s3 at *;have r1:=λ(S:Store) (i w:Nat) hS=>ZtN h a o d b ha (S:=S) (id:=i) (v:=w) hS
 have r2:=λ(S:Store) (i w:Nat) hS=>ZtO hp1 a o d b ha ho (S:=S) (id:=i) (v:=w) hS
 have r3:=λ(S:Store) (i w:Nat) hS=>ZtP hp2 a o d b hb (S:=S) (id:=i) (v:=w) hS
 clear hp1 hp2;generalize (vX x (Zf x n (wO x n p [a]).1 a o).1 d b).1=q3 at *;generalize (Zf x n (wO x n p [a]).1 a o).1=q2 at *;generalize (wO x n p [a]).1=q1 at *;clear e1 e2;refine yl func129 ntmps129 results129 λnx hd=>?_
 have hlt:id<nx:=yW hd hS DR;have xw:=λobs=>(zD (S:=S) (obs:=obs) hlt).trans hS
 refine D0 ?_;intro v0 v1 v2;refine za (zz (some [nx,nx+1]) (Row.pures [0,1,2,3,4] (.alt 5 (Row.pures [6] .done) .stop)) mixed trivial ?_);refine zH (hcl) trivial ?_;intro v3;refine D0 ?_
 repeat apply za
 refine zb ?_;have hm2:¬x.cust=[]:=λe=>hm (by rw[e];rfl)
 refine zm (by simp[hm2]) ?_;refine zh (D0 ?_);refine λhsuf=>((b1 _ (xw _)).mono ?_).v
 rintro _ _ ⟨rfl,rfl⟩;refine⟨_,_,y9 _ hlt,zN hsuf ?_⟩;have hS1:(S.set id (.cells v 179 (jX s1))) id=.cells v 179 (jX s1):=q11 _ _ _;have hd1:=Yf hd hlt (.cells v 179 (jX s1));obtain⟨S1,hS1e⟩:∃S1,S1=S.set id (.cells v 179 (jX s1)):=⟨_,rfl⟩;rw[<-hS1e]at hS1 hd1 ⊢;have xw1:=λobs=>(zD (S:=S1) (obs:=obs) hlt).trans hS1
 refine D0 ?_;refine λhsuf=>((b2 _ (xw1 _)).mono ?_).v
 rintro _ _ ⟨rfl,rfl⟩;refine⟨_,_,y9 _ hlt,zN hsuf ?_⟩;have hS2:(S1.set id (.cells v 179 (jX s2))) id=.cells v 179 (jX s2):=q11 _ _ _;have hd2:=Yf hd1 hlt (.cells v 179 (jX s2));obtain⟨S2,hS2e⟩:∃S2,S2=S1.set id (.cells v 179 (jX s2)):=⟨_,rfl⟩;rw[<-hS2e]at hS2 hd2 ⊢;have xw2:=λobs=>(zD (S:=S2) (obs:=obs) hlt).trans hS2
 refine D0 ?_;refine λhsuf=>((b3 _ (xw2 _)).mono ?_).v
 rintro _ _ ⟨rfl,rfl⟩;refine⟨_,_,y9 _ hlt,zN hsuf ?_⟩;have hd3:=Yf hd2 hlt (.cells v 179 (jX s3));obtain⟨S3,hS3e⟩:∃S3,S3=S2.set id (.cells v 179 (jX s3)):=⟨_,rfl⟩;rw[<-hS3e]at hd3 ⊢
 repeat apply za
 refine zb ?_;refine zj (zC (λk:Nat=>k<=3) (λk=>[(8,.ptr (nx+2) v2 0),(9,.ptr (nx+3) v3 0),(53,.lst 3 [.fn (.func 181) [.ptr (nx+3) v3 0] [],.fn (.func 182) [.ptr (nx+3) v3 0] [],.fn (.func 183) [.ptr (nx+3) v3 0] []]),(54,I 3),(55,I k)]) (λk=>[.cells v0 25 (zy x),.cells v1 30 [L p],.cells v2 30 [yu],.cells v3 245 (Jw x (QI p q1 q2 q3 k) a o d b)]) (λk=>3-k) 0 [] DR DR (by simp[Zi1]) ?_);rintro k hk;refine D0 ?_;refine za (zv rfl (λhc=>?_) (λhc=>?_))
 ·simp at hc;refine zh (za (zj ?_));obtain rfl | rfl | rfl:k=0\/k=1\/k=2:=DQ
  ·refine D0 ?_;refine zb ?_;refine λhsuf=>((r1 _ (nx+3) v3 (by rw[yb];simp[Zi1])).mono ?_).v
   rintro _ _ rfl;refine⟨S3,_,(by rw[yk _ (by omega) (by simp),AH]),zN hsuf ?_⟩;refine zb ?_;exact zq 1 [] DQ DQ (by simp;exact wr 1 (by omega) (by omega)) rfl (by simp[Zi2])
  ·refine D0 ?_;refine zb ?_;refine λhsuf=>((r2 _ (nx+3) v3 (by rw[yb];simp[Zi2])).mono ?_).v
   rintro _ _ rfl;refine⟨S3,_,(by rw[yk _ (by omega) (by simp),AH]),zN hsuf ?_⟩;refine zb ?_;exact zq 2 [] DQ DQ (by simp;exact wr 2 (by omega) (by omega)) rfl (by simp[Zi3])
  ·refine D0 ?_;refine zb ?_;refine λhsuf=>((r3 _ (nx+3) v3 (by rw[yb];simp[Zi3])).mono ?_).v
   rintro _ _ rfl;refine⟨S3,_,(by rw[yk _ (by omega) (by simp),AH]),zN hsuf ?_⟩;refine zb ?_;exact zq 3 [] DQ DQ (by simp;exact wr 3 (by omega) (by omega)) rfl (by simp[Zi4])
 ·simp at hc;obtain rfl:k=3:=DQ
  refine zx ?_;rw[Zi4];refine D0 ?_;have eS:S.set id (.cells v 179 (jX s3))=S3:=by rw[hS3e,hS2e,hS1e,Store.set_set,Store.set_set]
  rw[eS];exact zg ⟨_,S3,DT,⟨by simp[zn],rfl⟩,zR hd3⟩
open Go Go.Proofs Hp
def we(x:Inst)(n:Nat)(b:Int)(p:zF)(s:Int):Nat->zF × Int
 | 0=>(p,s)
 | k+1=>(YT x n (we x n b p s k).1 (we x n b p s k).2 b,Jx x (we x n b p s k).2)
def Yg(x:Inst)(n:Nat)(b:Int)(p:zF)(s:Int)(k:Nat):List zF:=(List.range (k+1)).map λi=>(we x n b p s i).1
theorem ZtS(x:Inst)(n:Nat)(b:Int)(p:zF)(s:Int):Yg x n b p s 0=[p]:=rfl
theorem Zi5(x:Inst)(n:Nat)(b:Int)(p:zF)(s:Int)(k:Nat):Yg x n b p s (k+1)=Yg x n b p s k++[(we x n b p s (k+1)).1]:=by
 unfold Yg;rw[AK,List.map_append];rfl
theorem ZtT(x:Inst)(n:Nat)(b:Int)(p:zF)(s:Int)(k:Nat):(Yg x n b p s k).length=k+1:=by simp[Yg]
theorem ZdI{x:Inst}{n:Nat}{p:zF}(h:PlanG x n p)(b s:Int):∀k,PlanG x n (we x n b p s k).1
 | 0=>h
 | k+1=>ZtQ (ZdI h b s k) _ _
abbrev Jy(seed r b cl:Int):List PV:=[I seed,I r,I b,I cl]
theorem ZtU{x:Inst}{n:Nat}(hA:InstA x n)(hn0:0<n)(hmay:∀b,(jL x b).2=0->PlanG x n (jL x b).1)(seed:Int)(r:Nat)(hr:r<=1000)(b:Int)(hb:b<=9223372036854775807)(cl:Int)(fn:FuncId)(cs:List PV){S:Store}(St:List zF->Store)(hS0:St []=S)
  (hdead:∀nx,zW nx S->∀h,zW nx (St h))
  (hshow:∀nx,zW nx S->∀(h:List zF) (p:zF) (obs:List Ob),h.length<=1001->PlanG x n p->Spec prog fn ([.agg [L p]]++cs) (ext (St h) nx obs) (λ_ S'=>S'=ext (St (h++[p])) nx obs)) :
  Spec prog 84 [.agg (zy x),.agg (Jy seed r b cl),.fn (.func fn) [] cs] S (λq S'=>q=I (jL x b).2/\S'=St (if (jL x b).2=0 then Yg x n b (jL x b).1 (IntKind.u64.wrap seed) r else [])):=by
 subst hS0;have hSt:=Zsh hA hb;have hmay:=hmay b;generalize jL x b=st at *;obtain⟨p0,e⟩:=st;simp only at hSt hmay ⊢;refine yl func84 ntmps84 results84 λnx hd=>?_
 have hshow:=hshow nx hd;have hdead:=hdead nx hd;refine D0 ?_;intro v0 v1;refine D0 ?_;refine zt hSt ?_;intro v2
 by_cases he:e=0
 case neg =>
  rw[if_neg he]
  repeat apply za
  refine zb ?_;refine zk (by simp[he]) ?_;refine D0 ?_;exact zg ⟨_,_,rfl,⟨by simp[zn],rfl⟩,zR hd⟩
 subst he;rw[if_pos rfl];have hG:=hmay rfl;have hit:=ZdI hG b (IntKind.u64.wrap seed)
 repeat apply za
 refine zb ?_;refine zm DR ?_;refine zh (D0 ?_);refine λhsuf=>((hshow [] p0 _ DR hG).mono ?_).v
 rintro _ _ rfl;refine⟨_,_,rfl,zN hsuf ?_⟩;refine D0 ?_;refine λhsuf=>((Zi0 seed jP).mono ?_).v
 rintro _ _ ⟨v3,rfl,rfl⟩;refine⟨_,_,qY _,zN hsuf ?_⟩
 repeat apply za
 refine zb ?_;have hz:Yg x n b p0 (IntKind.u64.wrap seed) 0=[]++[p0]:=rfl;generalize IntKind.u64.wrap seed=s0 at *;refine zj (jx (σ:=Nat) (λk=>k<=r) (λk=>[(2,.fn (.func fn) [] cs),(3,.ptr nx v0 0),(4,.ptr (nx+1) v1 0),(7,.ptr (nx+2) v2 0),(9,.ptr (nx+3) v3 0),(27,I r),(28,I k)]) (λk=>St (Yg x n b p0 s0 k)) (λk=>[.cells v0 25 (zy x),.cells v1 65 (Jy seed r b cl),.cells v2 30 [L (we x n b p0 s0 k).1],.cells v3 179 (jX (we x n b p0 s0 k).2)]) (λk=>r-k) (zS 0 [] DR DR (by rw[ZtS]) (by simp[we])) ?_);rintro k hk;have hgk:=hit k;have hgn:=hit (k+1);have hrd:=λ(S:Store) (id v:Nat) hS=>ZtR hgk hn0 (we x n b p0 s0 k).2 b hb (S:=S) (id:=id) (v:=v) hS
 have hnx:YT x n (we x n b p0 s0 k).1 (we x n b p0 s0 k).2 b=(we x n b p0 s0 (k+1)).1:=rfl;have hnx2:Jx x (we x n b p0 s0 k).2=(we x n b p0 s0 (k+1)).2:=rfl;have hhs:=Zi5 x n b p0 s0 k;have hhl:=ZtT x n b p0 s0 k;rw[hnx,hnx2]at hrd;refine D0 ?_;refine za (zv rfl (λhc=>?_) (λhc=>?_))
 ·simp at hc;refine zh (za (zj (D0 ?_)));refine λhsuf=>((hrd _ (nx+3) v3 (by rw[yb];rfl)).mono ?_).v
  rintro _ _ ⟨rfl,rfl⟩;refine⟨_,_,yk _ DQ DR,zN hsuf ?_⟩
  try simp only[AH,AU,A5]
  refine zb ?_;refine λhsuf=>((hshow _ _ _ DQ hgn).mono ?_).v
  rintro _ _ rfl;refine⟨_,_,rfl,zN hsuf ?_⟩;refine zb ?_;exact zq (k+1) [] hc DQ (by simp[zu k (by omega)]) (by rw[hhs]) DR
 ·simp at hc;obtain rfl:k=r:=DQ
  refine zx (D0 ?_);exact zg ⟨_,_,rfl,⟨by simp[zn],rfl⟩,zR (hdead _)⟩
open Go Go.Proofs Hp
theorem ZtV(p:zF){S:Store}{id v:Nat}{old:PV}(hS:S id=.cells v 30 [old]):Spec prog 85 [.agg [L p],.ptr id v 0] S (λ_ S'=>S'=S.set id (.cells v 30 [L p])):=by
 refine yl func85 ntmps85 results85 λnx hd=>?_
 have hlt:id<nx:=yW hd hS DR;have xw:=λobs=>(zD (S:=S) (obs:=obs) hlt).trans hS
 have g1:¬nx<=id:=DQ
 refine D0 ?_;intro v0;refine ze [] (zo xw g1) ?_;exact⟨_,_,rfl,by simp,zR (Yf hd hlt _)⟩
def WR(h:List zF):PV:=match h.getLast? with
 | none=>yu
 | some p=>L p
theorem Zi6(h:List zF)(p:zF):WR (h++[p])=L p:=by unfold WR;rw[List.getLast?_append];rfl
theorem ZtW(x:Inst)(n:Nat)(b:Int)(p:zF)(s:Int)(k:Nat):WR (Yg x n b p s k)=L (we x n b p s k).1:=by
 cases k with
 | zero=>rfl
 | succ k=>rw[Zi5,Zi6]
def Jz(x:Inst)(n:Nat)(seed:Int)(r:Nat)(b:Int):zF × Int :=
 if (jL x b).2=0 then ((we x n b (jL x b).1 (IntKind.u64.wrap seed) r).1,0) else ([],(jL x b).2)
theorem ZtX{x:Inst}{n:Nat}(hA:InstA x n)(hn0:0<n)(hmay:∀b,(jL x b).2=0->PlanG x n (jL x b).1)(seed:Int)(r:Nat)(hr:r<=1000)(b:Int)(hb:b<=9223372036854775807)(cl:Int):
  Pure prog 35 [.agg (zy x),.agg (Jy seed r b cl)] (.tup [.agg [L (Jz x n seed r b).1],I (Jz x n seed r b).2]):=by
 have hw:=λ(S:Store) fn cs St h1 h2 h3=>ZtU hA hn0 hmay seed r hr b hb cl fn cs (S:=S) St h1 h2 h3
 have hrz:Jz x n seed r b=if (jL x b).2=0 then ((we x n b (jL x b).1 (IntKind.u64.wrap seed) r).1,0) else ([],(jL x b).2):=rfl
 have hl:=λp s=>ZtW x n b p s r
 generalize jL x b=st at *;obtain⟨p0,e⟩:=st;simp only at hw hrz;generalize IntKind.u64.wrap seed=s0 at *;refine zr func35 ntmps35 results35 λS nx hd=>?_
 refine D0 ?_;intro v0 v1 v2;refine D0 ?_;intro v3;obtain⟨S1,hS1⟩:∃S1,S1=ext S nx [.cells v0 25 (zy x),.cells v1 65 (Jy seed r b cl),.cells v2 30 [yu],.cells v3 30 [yu]]:=⟨_,rfl⟩;have h1:S1 (nx+3)=.cells v3 30 [yu]:=by rw[hS1,yb];rfl
 have hwk:=hw S1 85 [.ptr (nx+3) v3 0] (λh=>S1.set (nx+3) (.cells v3 30 [WR h])) (by
   funext i
   by_cases hi:i=nx+3
   ·subst hi;rw[q11];exact h1.symm
   ·exact q10 _ _ _ _ hi) (λnx' hd' h=>Yf hd' (yW hd' h1 DR) _) (λnx' hd' h p obs _ _=>by
   have hlt:nx+3<nx':=yW hd' h1 DR;refine(ZtV p (id:=nx+3) (v:=v3) (old:=WR h) (by rw[zD hlt];exact q11 _ _ _)).mono ?_;rintro _ _ rfl;rw[y9 _ hlt,Store.set_set,Zi6])
 rw[hS1]at hwk;refine D0 ?_;refine λhsuf=>(hwk.mono ?_).v
 rintro _ _ ⟨rfl,rfl⟩;refine⟨_,_,yk _ DQ DR,zN hsuf ?_⟩
 try simp only[AH,AU,A5]
 by_cases he:e=0
 ·rw[if_pos he]at hrz;rw[hrz];simp only[if_pos he,hl];subst he;refine D0 ?_;exact D1 hd
 ·rw[if_neg he]at hrz;rw[hrz];simp only[if_neg he]
  show PW _ _ _ _ _ _ _ (ext _ _ _)
  refine D0 ?_;refine qu 2 0 rfl rfl ?_;exact D1 hd
end Go.Proofs.YtcocagkbfpgmiaaGreatDoor.Pv
