/- Part of a proof, packed. -/
import Derived.Test.YtcocagkbfpgmiaaGreatDoorC5
open Go.Proofs.Tryz
set_option maxRecDepth 100000
set_option maxHeartbeats 3200000
namespace Go.Proofs.YtcocagkbfpgmiaaGreatDoor.Pv
open Go Go.Proofs
theorem J0{l names:Ln}{z:List Int}(h:qi l names=some z):z.length=names.length:=by
 unfold qi at h;split at h
 ·rw[Zcs h,VS]
 ·cases h
abbrev yg(ver:Nat)(ls:List Ln)(r:Rdr)(cs ds:PV):Ob:=.cells ver 164 (Yu ls r cs ds)
theorem ZqP{S:Store}{id ver:Nat}(ls:List Ln)(r:Rdr)(cs ds:PV)(hS:S id=yg ver ls r cs ds)(hl:LnsOk ls):
  Spec prog 102 [.ptr id ver 0] S (λq S'=>q=B (decide (zK ls r.pos=[wd,[49]]))/\S'=S.set id (yg ver ls (yT ls r) cs ds)):=by
 have hnext:=λS (h:S id=_)=>XZ (S:=S) (id:=id) (ver:=ver) ls r cs ds h hl.1
 have heq:=Zhg (zK ls r.pos) [wd,[49]] (hl.at r.pos).1 DC;obtain⟨S1,hS1⟩:∃S1,S1=S.set id (yg ver ls (yT ls r) cs ds):=⟨_,rfl⟩;rw[<-hS1];generalize zK ls r.pos=ln at *;refine yi func102 ntmps102 results102 λnx hd=>?_
 have hlt:id<nx:=qC hd hS DC;have hd1:zX nx S1:=by rw[hS1];exact qw hd hlt _
 refine DK ?_;refine DK ?_;refine λhsuf=>((hnext _ ((zE hlt).trans hS)).mono ?_).v
 rintro _ _ ⟨rfl,rfl⟩;refine⟨S1,[],by rw[yZ _ hlt,<-hS1],zQ hsuf ?_⟩;refine λhsuf=>((heq _).mono ?_).v
 rintro _ _ ⟨rfl,rfl⟩;refine⟨_,_,rfl,zQ hsuf ?_⟩;clear hnext hd hS1 hS;have hd:=hd1;exact DL hd
theorem ZqQ{S:Store}{id ver:Nat}(ls:List Ln)(r:Rdr)(cs ds:PV)(hS:S id=yg ver ls r cs ds)(hl:LnsOk ls):
  Spec prog 103 [.ptr id ver 0] S (λq S'=>match qi (zK ls r.pos) [jM,jN,jO,jP] with
   | some [d,v,c,l]=>q=B true/\S'=S.set id (yg ver ls { yT ls r with d:=d,v:=v,c:=c,l:=l } cs ds)
   | _=>q=B false/\S'=S.set id (yg ver ls (yT ls r) cs ds)):=by
 have hnamed:=λS (h:S id=_)=>Zhh (S:=S) (id:=id) (ver:=ver) ls r cs ds [jM,jN,jO,jP] h hl DC
 cases hz:qi (zK ls r.pos) [jM,jN,jO,jP] with
 | none =>
  rw[hz]at hnamed;simp only[qY]at hnamed ⊢;obtain⟨S1,hS1⟩:∃S1,S1=S.set id (yg ver ls (yT ls r) cs ds):=⟨_,rfl⟩;rw[<-hS1];refine yi func103 ntmps103 results103 λnx hd=>?_
  have hlt:id<nx:=qC hd hS DC;have hd1:zX nx S1:=by rw[hS1];exact qw hd hlt _
  refine DK ?_;refine ze (xk [] DG DG λK Gc Gh hK hGc hGh X hX0 hX=>?_);simp -implicitDefEqProofs [hX0,hX]
  try clear hX0 hX X
  refine hGc _ _ _ _ _ _ _ λhsuf=>((hnamed _ ((zE hlt).trans hS)).mono ?_).v
  rintro _ _ ⟨rfl,rfl⟩;refine⟨S1,[],by rw[yZ _ hlt,<-hS1],?_⟩;clear hGc hGh;clear Gc Gh;refine xH hsuf (D:=[]) DG λGc Gh hGc hGh X hX0 hX=>?_
  simp -implicitDefEqProofs [hX0,hX];clear hX0 hX X;refine hK _ _ _ ?_;clear hK hGc hGh;clear K Gc Gh;clear hnamed hsuf hd hS1 hS;have hd:=hd1
  repeat apply ze
  refine zg ?_;refine zp DC ?_;refine zk (DK ?_);exact DL hd
 | some z =>
  obtain⟨d,v,c,l,rfl⟩:∃d v c l,z=[d,v,c,l]:=by
   have:=J0 hz
   match z,this with
   | [d,v,c,l],_=>exact⟨d,v,c,l,rfl⟩
  rw[hz]at hnamed;simp only[qY]at hnamed ⊢;generalize yT ls r=r1 at *;obtain⟨pos,d0,v0,c0,l0,m,bad⟩:=r1;refine yi func103 ntmps103 results103 λnx hd=>?_
  have hlt:id<nx:=qC hd hS DC;refine DK ?_;refine DK ?_;refine λhsuf=>((hnamed _ ((zE hlt).trans hS)).mono ?_).v
  rintro _ _ ⟨rfl,rfl⟩;refine⟨_,[],yZ _ hlt,zQ hsuf ?_⟩;obtain⟨S1,hS1⟩:∃S1,S1=S.set id (yg ver ls ⟨pos,d0,v0,c0,l0,m,bad⟩ cs ds):=⟨_,rfl⟩;rw[<-hS1];have g1:¬nx<=id:=DB
  have x1:∀obs,ext S1 nx obs id=yg ver ls ⟨pos,d0,v0,c0,l0,m,bad⟩ cs ds:=λobs=>by rw[zE hlt,hS1,q11]
  repeat apply ze
  refine zg ?_;refine zo DC ?_;have x2:∀A obs,ext (S1.set id A) nx obs id=A:=λA obs=>by rw[zE hlt,q11]
  refine zB (some []) (Row.pures [0,1,2,3,4,5,6,7,8,9,10,11,12,13,14,15,16,17,18] (.alt 19 (Row.pures [20,21,22] (.alt 23 (Row.pures [24,25,26] (.alt 27 (Row.pures [28,29,30] (.alt 31 (.done) .stop)) .stop)) .stop)) .stop)) mixed (zN x1 g1 x2 Store.set_set) ?_;have hfin:S1.set id (.cells ver 164 [L (wl ls),I pos,I d,I v,I c,I l,cs,ds,I m,B bad])=S.set id (yg ver ls ⟨pos,d,v,c,l,m,bad⟩ cs ds):=by rw[hS1,Store.set_set]
  rw[hfin];refine DK ?_;refine zj ⟨_,_,by simp;rfl,⟨by simp[zq],rfl⟩,zU ?_⟩;exact qw hd hlt _
theorem ZqR{S:Store}{id ver:Nat}(ls:List Ln)(r:Rdr)(cs ds:PV)(hS:S id=yg ver ls r cs ds)(hl:LnsOk ls):
  Spec prog 104 [.ptr id ver 0] S (λq S'=>match qi (zK ls r.pos) [jQ] with
   | some [m]=>q=B true/\S'=S.set id (yg ver ls { yT ls r with m:=m } cs ds)
   | _=>q=B false/\S'=S.set id (yg ver ls (yT ls r) cs ds)):=by
 have hnamed:=λS (h:S id=_)=>Zhh (S:=S) (id:=id) (ver:=ver) ls r cs ds [jQ] h hl DC
 cases hz:qi (zK ls r.pos) [jQ] with
 | none =>
  rw[hz]at hnamed;simp only[qY]at hnamed ⊢;obtain⟨S1,hS1⟩:∃S1,S1=S.set id (yg ver ls (yT ls r) cs ds):=⟨_,rfl⟩;rw[<-hS1];refine yi func104 ntmps104 results104 λnx hd=>?_
  have hlt:id<nx:=qC hd hS DC;have hd1:zX nx S1:=by rw[hS1];exact qw hd hlt _
  refine DK ?_;refine ze (xk [] DG DG λK Gc Gh hK hGc hGh X hX0 hX=>?_);simp -implicitDefEqProofs [hX0,hX]
  try clear hX0 hX X
  refine hGc _ _ _ _ _ _ _ λhsuf=>((hnamed _ ((zE hlt).trans hS)).mono ?_).v
  rintro _ _ ⟨rfl,rfl⟩;refine⟨S1,[],by rw[yZ _ hlt,<-hS1],?_⟩;clear hGc hGh;clear Gc Gh;refine xH hsuf (D:=[]) DG λGc Gh hGc hGh X hX0 hX=>?_
  simp -implicitDefEqProofs [hX0,hX];clear hX0 hX X;refine hK _ _ _ ?_;clear hK hGc hGh;clear K Gc Gh;clear hnamed hsuf hd hS1 hS;have hd:=hd1
  repeat apply ze
  refine zg ?_;refine zp DC ?_;refine zk (DK ?_);exact DL hd
 | some z =>
  obtain⟨m,rfl⟩:∃m,z=[m]:=by
   have:=J0 hz
   match z,this with
   | [m],_=>exact⟨m,rfl⟩
  rw[hz]at hnamed;simp only[qY]at hnamed ⊢;generalize yT ls r=r1 at *;obtain⟨pos,d,v,c,l,m0,bad⟩:=r1;refine yi func104 ntmps104 results104 λnx hd=>?_
  have hlt:id<nx:=qC hd hS DC;refine DK ?_;refine DK ?_;refine λhsuf=>((hnamed _ ((zE hlt).trans hS)).mono ?_).v
  rintro _ _ ⟨rfl,rfl⟩;refine⟨_,[],yZ _ hlt,zQ hsuf ?_⟩;obtain⟨S1,hS1⟩:∃S1,S1=S.set id (yg ver ls ⟨pos,d,v,c,l,m0,bad⟩ cs ds):=⟨_,rfl⟩;rw[<-hS1];have g1:¬nx<=id:=DB
  have x1:∀obs,ext S1 nx obs id=yg ver ls ⟨pos,d,v,c,l,m0,bad⟩ cs ds:=λobs=>by rw[zE hlt,hS1,q11]
  repeat apply ze
  refine zg ?_;refine zo DC ?_;refine zi [] (zt x1 g1) ?_;have hfin:S1.set id (.cells ver 164 [L (wl ls),I pos,I d,I v,I c,I l,cs,ds,I m,B bad])=S.set id (yg ver ls ⟨pos,d,v,c,l,m,bad⟩ cs ds):=by rw[hS1,Store.set_set]
  rw[hfin];refine DK ?_;refine zj ⟨_,_,by simp;rfl,⟨by simp[zq],rfl⟩,zU ?_⟩;exact qw hd hlt _
theorem ZqS{S:Store}{id ver:Nat}(ls:List Ln)(r:Rdr)(cs ds:PV)(hS:S id=yg ver ls r cs ds):
  Spec prog 107 [.ptr id ver 0] S (λq S'=>q=B (decide (r.pos=ls.length))/\S'=S):=by
 obtain⟨pos,d,v,c,l,m,bad⟩:=r;have hwl:(wl ls).length=ls.length:=DC
 refine yi func107 ntmps107 results107 λnx hd=>?_
 have hlt:id<nx:=qC hd hS DC;have g1:¬nx<=id:=DB
 have x1:∀obs,ext S nx obs id=yg ver ls ⟨pos,d,v,c,l,m,bad⟩ cs ds:=λobs=>(zE hlt).trans hS
 refine DK ?_;refine ze (zB (some [id]) (Row.pures [0,1,2,3,4,5,6,7,8,9,10] .done) mixed (zF x1 g1 hwl) ?_);exact zj (zm hd DD (by simp[zq,Int.natCast_inj]))
open Go Go.Proofs
def Zi(n:Int)(ps:Ln)(k:Nat):Bool:=!((ps.take k).all λw=>decide ((w.length:Int)=n))
theorem ZqT(n:Int)(ps:Ln):Zi n ps 0=false:=by simp[Zi]
theorem ZqU{n:Int}{ps:Ln}{k:Nat}{w:Wd}(h:ps[k]?=some w):Zi n ps (k+1)=(Zi n ps k || !decide ((w.length:Int)=n)):=by
 unfold Zi;rw[AC,h];simp
theorem ZqV{w:Wd}(h:ju w=true):(qm w).1=qj w/\(qm w).2≠2:=by
 unfold qm qj;rw[if_pos h];split<;>simp
theorem ZqW{w:Wd}(h:ju w=false):(qm w).2=2:=by
 unfold qm;rw[if_neg (by rw[h];simp)]
theorem ZqX{S:Store}{id ver idC vC:Nat}(ls:List Ln)(r:Rdr)(cu:List Cust)(ds:PV)(l:Ln)(hS:S id=yg ver ls r (.sl idC vC 8 0 cu.length) ds)(hC:S idC=.cells vC 87 (cu.flatMap Enc.enc))(hcu:cu.length<=1048576)(hl:l.length<=1048576/\∀w∈l,w.length<=1048576):
  Spec prog 142 [.ptr id ver 0,L (l.map bs)] S (λq S'=>match ZR r.d l with
   | none=>q=B false/\∃b,S'=S.set id (yg ver ls { r with bad:=b } (.sl idC vC 8 0 cu.length) ds)
   | some (c,ok)=>q=B true/\S'=(S.set id (yg ver ls { r with bad:=r.bad || !ok } (.sl idC (vC+1) 8 0 (cu.length+1)) ds)).set idC (.cells (vC+1) 87 ((cu++[c]).flatMap Enc.enc))):=by
 have hne:id≠idC:=by rintro rfl;rw[hS]at hC;simp at hC
 obtain⟨pos,d,v,c,ln,m,bad⟩:=r;rcases l with _ | ⟨dw,ps⟩
 ·simp only[ZR];refine yi func142 ntmps142 results142 λnx hd=>?_
  refine DK ?_
  repeat apply ze
  refine zg ?_;refine zo DC ?_;refine DK ?_;refine zj ⟨_,_,by simp;rfl,⟨by simp[zq],bad,(ZU S id _ hS).symm⟩,zU ?_⟩;exact hd
 ·rw[VO];have hnum:=Zgv dw (by have:=hl.2 dw (by simp);omega);cases hz:yX dw with
  | none =>
   rw[hz]at hnum;simp only[Zc,CA,AP,false_and,if_false]at hnum ⊢;refine yi func142 ntmps142 results142 λnx hd=>?_
   refine DK ?_
   repeat apply ze
   refine zg ?_;refine zp DF ?_;refine zk (DK ?_);refine zu hnum ?_
   repeat apply ze
   refine zg ?_;refine zo DC ?_;refine DK ?_;refine zj ⟨_,_,by simp;rfl,⟨by simp[zq],bad,(ZU S id _ hS).symm⟩,zU ?_⟩;exact hd
  | some dn =>
   have hdv:yl dw=dn:=by unfold yl;rw[hz];rfl
   rw[hz]at hnum;simp only[Zc]at hnum;refine yi func142 ntmps142 results142 λnx hd=>?_
   have hlt:id<nx:=qC hd hS DC;have hltC:idC<nx:=qC hd hC DC;have g1:¬nx<=id:=DB
   refine DK ?_
   repeat apply ze
   refine zg ?_;refine zp DF ?_;refine zk (DK ?_);refine zu hnum ?_
   repeat apply ze
   refine zg ?_;refine zp DC ?_;refine zk (DK ?_);intro v0;refine jd 0 2 98 1 rfl rfl λv1=>?_
   obtain⟨o,ho⟩:∃o,o=(if (some dn).isSome=true/\(ps.all ju)=true then some (uN dw ps,ps.all λw=>decide ((w.length:Int)=d)) else none):=⟨_,rfl⟩;rw[<-ho];have htk:List.take ps.length ((ps.map bs).flatMap Enc.enc)=(ps.map bs).flatMap Enc.enc:=Ae (by rw[Zb3,List.length_map];exact Af _);obtain⟨rdB,hrd⟩:∃rdB:Nat->Store,∀k,rdB k=S.set id (yg ver ls ⟨pos,d,v,c,ln,m,bad || Zi d ps k⟩ (.sl idC vC 8 0 cu.length) ds):=⟨_,λ_=>rfl⟩;have hr0:rdB 0=S:=by rw[hrd,ZqT,Bool.or_false];exact ZU S id _ hS
   have x1:∀k obs,ext (rdB k) nx obs id=yg ver ls ⟨pos,d,v,c,ln,m,bad || Zi d ps k⟩ (.sl idC vC 8 0 cu.length) ds:=λk obs=>by rw[zE hlt,hrd,q11]
   have hdB:∀k,zX nx (rdB k):=λk=>by rw[hrd];exact qw hd hlt _
   have hpl:ps.length<=1048576:=by have:=hl.1;simp at this;omega
   repeat apply ze
   refine zi [] htk ?_;refine zn (jo (λs:Nat × Nat × Nat=>s.1<=ps.length/\∀w∈ps.take s.1,ju w=true) (λ(k,w0,w1)=>[(0,.ptr id ver 0),(7,.ptr nx w0 0),(27,L (ps.map bs)),(28,I ps.length),(29,I k)]) (λs=>rdB s.1) (λ(k,w0,w1)=>[.cells w0 87 [I 1,I dn,.sl (nx+1) w1 1 0 k,I 0,I 0,I 0,I 0,I 0],.cells w1 98 (((ps.map qj).take k).flatMap Enc.enc)]) (λs=>ps.length-s.1) (zT (0,v0,v1) [] DC DC hr0 DC) ?_);rintro⟨k,w0,w1⟩ ⟨hk,hso⟩;simp only at hk hso ⊢;refine DK ?_;refine ze (zz rfl (λhc=>?_) (λhc=>?_))
   ·simp at hc;obtain⟨w,tl,hw,f0⟩:=JZ ps k hc;have hwl:w.length<=1048576:=hl.2 w (by simp[Ab hw]);have hdp:=Zqu w hwl;have hsz:=j8 w;refine zk (ze (zn (ze (zi [] (zt f0 hc) ?_))));refine DK ?_;refine zu hdp ?_;cases hsg:ju w with
    | false =>
     have hf:=ZqW hsg;have hon:o=none:=by
      rw[ho,if_neg];rintro⟨_,h2⟩;have:=Az.1 h2 w (Ab hw);rw[hsg]at this;cases this
     repeat apply ze
     refine zi [] hf ?_;refine zo DC ?_;refine DK ?_;refine zj ⟨_,_,by simp;rfl,by rw[hon];exact⟨by simp[zq],_,hrd k⟩,zU (hdB k)⟩
    | true =>
     obtain⟨hf1,hf2⟩:=ZqV hsg;have hso':∀u∈ps.take (k+1),ju u=true:=by
      rw[AC,hw];intro u hu;rw[AG]at hu;rcases hu with hu | hu
      ·exact hso u hu
      ·obtain rfl:u=w:=by simpa using hu
       exact hsg
     have hnx:((ps.map qj).take (k+1)).flatMap Enc.enc=((ps.map qj).take k).flatMap Enc.enc++[U (qj w)]:=by rw[AC,Ah,hw,Al];rfl
     have hol:(((ps.map qj).take k).flatMap Enc.enc).length=k:=by rw[ZdO,As,List.length_map];omega
     have htk2:List.take k (((ps.map qj).take k).flatMap Enc.enc)=((ps.map qj).take k).flatMap Enc.enc:=Ae (by rw[hol];exact Af _);have hbk:=ZqU (n:=d) hw
     repeat apply ze
     refine zi [] hf2 ?_;refine zp DC ?_;refine zk ?_
     by_cases hq:(w.length:Int)=d
     ·have hrk:rdB (k+1)=rdB k:=by rw[hrd,hrd,hbk,decide_eq_true hq,Bool.not_true,Bool.or_false]
      repeat apply ze
      refine zi [] (zF x1 hsz hq) ?_;refine zp DC ?_;refine zk (zi [] (zt hf1 htk2) ?_);refine⟨by omega,?_⟩;refine zg ?_;exact zv (k+1,w0,w1+1) [] ⟨hc,hso'⟩ DB (by simp[zA k (by omega)]) hrk (by simp only[hnx,AF])
     ·have hrk:(rdB k).set id (yg ver ls ⟨pos,d,v,c,ln,m,true⟩ (.sl idC vC 8 0 cu.length) ds)=rdB (k+1):=by rw[hrd,hrd,hbk,decide_eq_false hq,C4,Bool.or_true,Bool.or_true,Store.set_set]
      repeat apply ze
      refine zi [] (zF x1 hsz hq) ?_;refine zo DC ?_;refine zi [] (zt x1 g1) ?_;have hrk2:(rdB k).set id (.cells ver 164 [L (wl ls),I pos,I d,I v,I c,I ln,.sl idC vC 8 0 cu.length,ds,I m,B true])=rdB (k+1):=hrk;rw[hrk2];refine zi [] (zt hf1 htk2) ?_;refine⟨by omega,?_⟩;refine zg ?_;exact zv (k+1,w0,w1+1) [] ⟨hc,hso'⟩ DB (by simp[zA k (by omega)]) rfl (by simp only[hnx,AF])
   ·simp at hc;obtain rfl:k=ps.length:=DB
    rw[Ag]at hso;refine zC ?_;have hon:o=some (uN dw ps,ps.all λw=>decide ((w.length:Int)=d)):=by
     rw[ho,if_pos ⟨rfl,Az.2 hso⟩]
    have hbl:Zi d ps ps.length=!(ps.all λw=>decide ((w.length:Int)=d)):=by unfold Zi;rw[Ag]
    have hpl2:(ps.map qj).length=ps.length:=DC
    rw[show (ps.map qj).take ps.length=ps.map qj from Ae DC];refine yb 1 rfl ?_;have hx1:=x1 ps.length;have g2:¬nx<=idC:=DB
    have hxC:∀obs,ext (rdB ps.length) nx obs idC=.cells vC 87 (cu.flatMap Enc.enc):=λobs=>by rw[zE hltC,hrd,q10 _ _ _ _ (Ne.symm hne),hC]
    have hx2:∀A obs,ext ((rdB ps.length).set idC A) nx obs id=yg ver ls ⟨pos,d,v,c,ln,m,bad || Zi d ps ps.length⟩ (.sl idC vC 8 0 cu.length) ds:=λA obs=>by rw[zE hlt,q10 _ _ _ _ hne,hrd,q11]
    refine ze (zB (some [nx]) (Row.pures [0,1,2,3,4,6,7] (.alt 5 (.alt 8 (Row.pures [9,10,11] (.alt 12 (.done) .stop)) .stop) .stop)) mixed (zS hx1 hxC hx2 g1 g2 hpl2) ?_);refine⟨by omega,?_⟩;have hcl:(cu++[uN dw ps]).flatMap Enc.enc=cu.flatMap Enc.enc++[I 1,I dn,.lst ps.length ((ps.map qj).flatMap Enc.enc),I 0,I 0,I 0,I 0,I 0]:=by
     rw[Al];congr 1
     show yc (uN dw ps)=_
     unfold uN yc;rw[hdv]
     show [I 1,I dn,.lst (ps.map qj).length ((ps.map qj).flatMap Enc.enc),I 0,I 0,I 0,I 0,I 0]=_
     rw[hpl2]
    rw[<-hcl];have hfin:((rdB ps.length).set idC (.cells (vC+1) 87 ((cu++[uN dw ps]).flatMap Enc.enc))).set id (.cells ver 164 [L (wl ls),I pos,I d,I v,I c,I ln,.sl idC (vC+1) 8 0 (cu.length+1),ds,I m,B (bad || Zi d ps ps.length)])=(S.set id (yg ver ls ⟨pos,d,v,c,ln,m,bad || !(ps.all λw=>decide ((w.length:Int)=d))⟩ (.sl idC (vC+1) 8 0 (cu.length+1)) ds)).set idC (.cells (vC+1) 87 ((cu++[uN dw ps]).flatMap Enc.enc)):=by
     rw[<-hbl,hrd,Store.set_comm _ idC id _ _ hne,Store.set_set]
    rw[hfin];refine DK ?_;refine zj ⟨_,_,by simp;rfl,by rw[hon];exact⟨by simp[zq],by rw[Al];rfl⟩,zU ?_⟩;exact qw (qw hd hlt _) hltC _
theorem X1(a:ByteArray):yt .eql a a=some (.bool true):=by simp[yt]
theorem Zhi{l:Ln}(h:l.length≠5):ux l=none:=by
 match l,h with
 | [],_=>rfl
 | [_],_=>rfl
 | [_,_],_=>rfl
 | [_,_,_],_=>rfl
 | [_,_,_,_],_=>rfl
 | [_,_,_,_,_],h=>exact absurd rfl h
 | _ :: _ :: _ :: _ :: _ :: _ :: _,_=>rfl
theorem ZqY{S:Store}{id ver idC vC:Nat}(ls:List Ln)(r:Rdr)(cu:List Cust)(ds:PV)(l:Ln)(hS:S id=yg ver ls r (.sl idC vC 8 0 cu.length) ds)(hC:S idC=.cells vC 87 (cu.flatMap Enc.enc))(hcu:cu.length<=1048576)(hl:l.length<=1048576/\∀w∈l,w.length<=1048576):
  Spec prog 143 [.ptr id ver 0,L (l.map bs)] S (λq S'=>match ux l with
   | none=>q=B false/\S'=S
   | some c=>q=B true/\S'=(S.set id (yg ver ls r (.sl idC (vC+1) 8 0 (cu.length+1)) ds)).set idC (.cells (vC+1) 87 ((cu++[c]).flatMap Enc.enc))):=by
 have hneq:id≠idC:=by rintro rfl;rw[hS]at hC;simp at hC
 obtain⟨pos,d,v,c,ln,m,bad⟩:=r
 by_cases h5:l.length=5
 ·obtain⟨a,b,e,ru,h,rfl⟩:∃a b c d e,l=[a,b,c,d,e]:=by
   match l,h5 with
   | [a,b,c,d,e],_=>exact⟨a,b,c,d,e,rfl⟩
  obtain⟨o,ho⟩:∃o,o=ux [a,b,e,ru,h]:=⟨_,rfl⟩;rw[<-ho];rw[Zct]at ho;have hnum:=Zcu [a,b,e,h] DC (λw hw=>by
   have:=hl.2 w (by simp at hw ⊢;rcases hw with rfl | rfl | rfl | rfl<;>simp);omega)
  cases hz:yB [a,b,e,h] with
  | none =>
   rw[hz]at hnum;simp only[qY]at hnum;have hon:o=none:=by rw[ho,hz];simp
   refine yi func143 ntmps143 results143 λnx hd=>?_
   refine DK ?_
   repeat apply ze
   refine zg ?_;refine zp DC ?_;refine zk (ze (zB none (Row.pures [0,1,2,3,4,5,6,7,8,9,10,11,12,13,14,15,16,17,18] .done) mixed trivial ?_));refine zP (hnum) trivial ?_
   repeat apply ze
   refine zg ?_;refine zo DC ?_;refine DK ?_;refine zj ⟨_,_,by simp;rfl,by rw[hon];exact⟨by simp[zq],rfl⟩,zU hd⟩
  | some z =>
   have hzv:z=[yl a,yl b,yl e,yl h]:=by
    unfold yB at hz;split at hz<;>cases hz;rfl
   subst hzv;rw[hz]at hnum ho;simp only[qY]at hnum;obtain⟨na,hna⟩:∃x,x=yl a:=⟨_,rfl⟩;obtain⟨nb,hnb⟩:∃x,x=yl b:=⟨_,rfl⟩;obtain⟨ne,hne'⟩:∃x,x=yl e:=⟨_,rfl⟩;obtain⟨nh,hnh⟩:∃x,x=yl h:=⟨_,rfl⟩;rw[<-hna,<-hnb,<-hne',<-hnh]at hnum ho;have hfill:ru=Zg->yt .eql (bs ru) ⟨#[102,105,108,108]⟩=some (.bool true):=λq=>by rw[q];exact X1 _
   have hnfill:ru≠Zg->yt .eql (bs ru) ⟨#[102,105,108,108]⟩=some (.bool false):=λq=>VB λhh=>q (Qf.1 hh)
   have hany:ru=Qd->yt .eql (bs ru) ⟨#[97,110,121]⟩=some (.bool true):=λq=>by rw[q];exact X1 _
   have hnany:ru≠Qd->yt .eql (bs ru) ⟨#[97,110,121]⟩=some (.bool false):=λq=>VB λhh=>q (Qf.1 hh)
   refine yi func143 ntmps143 results143 λnx hd=>?_
   have hlt:id<nx:=qC hd hS DC;have hltC:idC<nx:=qC hd hC DC;have g1:¬nx<=id:=DB
   have g2:¬nx<=idC:=DB
   refine DK ?_
   repeat apply ze
   refine zg ?_;refine zp DC ?_;refine zk (ze (zB none (Row.pures [0,1,2,3,4,5,6,7,8,9,10,11,12,13,14,15,16,17,18] .done) mixed trivial ?_));refine zP (hnum) trivial ?_
   repeat apply ze
   refine zg ?_;refine zp DC ?_;refine zk (ze (zB (some []) (Row.pures [0,1,2,3,4,5,6,7,8,9,10,11,12] (.alt 13 (.alt 14 (.done) .stop) .stop)) mixed trivial ?_));intro v0;refine yf 0 2 rfl rfl ?_
   repeat apply ze
   refine zg ?_;refine zn ?_
   by_cases hf:ru=Zg
   ·have e1:=hfill hf;refine ze (zi [] e1 ?_);refine zo DC ?_;refine zg ?_;have hon:o=some ⟨2,0,[],na,nb,ne,1,nh⟩:=by rw[ho,if_pos ⟨rfl,.inl hf⟩];unfold ZS;rw[if_pos hf]
    have hx1:∀obs,ext S nx obs id=yg ver ls ⟨pos,d,v,c,ln,m,bad⟩ (.sl idC vC 8 0 cu.length) ds:=λobs=>(zE hlt).trans hS
    have hxC:∀obs,ext S nx obs idC=.cells vC 87 (cu.flatMap Enc.enc):=λobs=>(zE hltC).trans hC
    have hx2:∀A obs,ext (S.set idC A) nx obs id=yg ver ls ⟨pos,d,v,c,ln,m,bad⟩ (.sl idC vC 8 0 cu.length) ds:=λA obs=>by rw[zE hlt,q10 _ _ _ _ hneq,hS]
    refine ze (zB (some [nx]) (Row.pures [0,1,2,3,4,6,7] (.alt 5 (.alt 8 (Row.pures [9,10,11] (.alt 12 (.done) .stop)) .stop) .stop)) mixed (yq hx1 hxC hx2 g1 g2) ?_);refine⟨by omega,?_⟩;have hcl:(cu++[(⟨2,0,[],na,nb,ne,1,nh⟩:Cust)]).flatMap Enc.enc=cu.flatMap Enc.enc++[I 2,I 0,.lst 0 [],I na,I nb,I ne,I 1,I nh]:=by rw[Al];rfl
    have hfin:(S.set idC (.cells (vC+1) 87 (cu.flatMap Enc.enc++[I 2,I 0,.lst 0 [],I na,I nb,I ne,I 1,I nh]))).set id (.cells ver 164 [L (wl ls),I pos,I d,I v,I c,I ln,.sl idC (vC+1) 8 0 (cu.length+1),ds,I m,B bad])=(S.set id (yg ver ls ⟨pos,d,v,c,ln,m,bad⟩ (.sl idC (vC+1) 8 0 (cu.length+1)) ds)).set idC (.cells (vC+1) 87 ((cu++[(⟨2,0,[],na,nb,ne,1,nh⟩:Cust)]).flatMap Enc.enc)):=by
     rw[hcl,Store.set_comm _ idC id _ _ hneq]
    rw[hfin];refine DK ?_;refine zj ⟨_,_,by simp;rfl,by rw[hon];exact⟨by simp[zq],by rw[Al];rfl⟩,zU ?_⟩;exact qw (qw hd hlt _) hltC _
   ·have e1:=hnfill hf;refine ze (zi [] e1 ?_);refine zp DC ?_
    by_cases hy:ru=Qd
    ·have e2:=hany hy;refine ze (zi [] e2 ?_);refine zo DC ?_;refine zg ?_;have hon:o=some ⟨2,0,[],na,nb,ne,2,nh⟩:=by rw[ho,if_pos ⟨rfl,.inr hy⟩];unfold ZS;rw[if_neg hf]
     have hx1:∀obs,ext S nx obs id=yg ver ls ⟨pos,d,v,c,ln,m,bad⟩ (.sl idC vC 8 0 cu.length) ds:=λobs=>(zE hlt).trans hS
     have hxC:∀obs,ext S nx obs idC=.cells vC 87 (cu.flatMap Enc.enc):=λobs=>(zE hltC).trans hC
     have hx2:∀A obs,ext (S.set idC A) nx obs id=yg ver ls ⟨pos,d,v,c,ln,m,bad⟩ (.sl idC vC 8 0 cu.length) ds:=λA obs=>by rw[zE hlt,q10 _ _ _ _ hneq,hS]
     refine ze (zB (some [nx]) (Row.pures [0,1,2,3,4,6,7] (.alt 5 (.alt 8 (Row.pures [9,10,11] (.alt 12 (.done) .stop)) .stop) .stop)) mixed (yq hx1 hxC hx2 g1 g2) ?_);refine⟨by omega,?_⟩;have hcl:(cu++[(⟨2,0,[],na,nb,ne,2,nh⟩:Cust)]).flatMap Enc.enc=cu.flatMap Enc.enc++[I 2,I 0,.lst 0 [],I na,I nb,I ne,I 2,I nh]:=by rw[Al];rfl
     have hfin:(S.set idC (.cells (vC+1) 87 (cu.flatMap Enc.enc++[I 2,I 0,.lst 0 [],I na,I nb,I ne,I 2,I nh]))).set id (.cells ver 164 [L (wl ls),I pos,I d,I v,I c,I ln,.sl idC (vC+1) 8 0 (cu.length+1),ds,I m,B bad])=(S.set id (yg ver ls ⟨pos,d,v,c,ln,m,bad⟩ (.sl idC (vC+1) 8 0 (cu.length+1)) ds)).set idC (.cells (vC+1) 87 ((cu++[(⟨2,0,[],na,nb,ne,2,nh⟩:Cust)]).flatMap Enc.enc)):=by
      rw[hcl,Store.set_comm _ idC id _ _ hneq]
     rw[hfin];refine DK ?_;refine zj ⟨_,_,by simp;rfl,by rw[hon];exact⟨by simp[zq],by rw[Al];rfl⟩,zU ?_⟩;exact qw (qw hd hlt _) hltC _
    ·have e2:=hnany hy;have hon:o=none:=by rw[ho,if_neg];rintro⟨_,q | q⟩;exact hf q;exact hy q
     refine ze (zi [] e2 ?_);refine zp DC ?_;refine DK ?_;refine zj ⟨_,_,by simp;rfl,by rw[hon];exact⟨by simp[zq],rfl⟩,zU hd⟩
 ·rw[Zhi h5];refine yi func143 ntmps143 results143 λnx hd=>?_
  refine DK ?_;have h5':¬(l.length:Int)=5:=DB
  repeat apply ze
  refine zi [] h5' ?_;refine zo DC ?_;refine DK ?_;refine zj ⟨_,_,by simp;rfl,⟨by simp[zq],rfl⟩,zU hd⟩
open Go Go.Proofs
abbrev Zhj:Cust:=⟨0,0,[],0,0,0,0,0⟩
def ZV(n:Int)(ps:Ln):Bool:=ps.all λw=>decide (w.length<=64/\(w.length:Int)=n)
def vV(n:Int)(l:Ln):Bool:=match l with
 | w :: _ :: ps=>if w=jR then ZV n ps else true
 | _=>true
def Zj(n:Int)(l:Ln):PV:=match qk n l with
 | none=>.tup [.agg (yc Zhj),B false,B false]
 | some (c,_)=>.tup [.agg (yc c),B true,B (vV n l)]
theorem ZqZ(w:Wd):yB [w]=(yX w).map (λn:Nat=>[(n:Int)]):=by
 unfold yB yl;cases h:yX w<;>simp[h]
theorem Zq0{n:Int}{ps:Ln}{k:Nat}{w:Wd}(h:ps[k]?=some w):ZV n (ps.take (k+1))=(ZV n (ps.take k) && decide (w.length<=64/\(w.length:Int)=n)):=by
 unfold ZV;rw[AC,h];simp
theorem Zq1{w:Wd}(h:(qm w).2=2):ju w=false:=by
 unfold qm at h;cases hs:ju w with
 | false=>rfl
 | true=>rw[if_pos hs]at h;split at h<;>simp at h
theorem Zq2{w:Wd}(h:¬(qm w).2=2):ju w=true/\(qm w).1=qj w/\((qm w).2=0<->w.length<=64):=by
 unfold qm at h ⊢;unfold qj;cases hs:ju w with
 | false=>rw[hs]at h;exact absurd rfl h
 | true =>
  simp only[if_true];split<;>simp<;>omega
theorem Zq3(dw:Wd)(ps:Ln)(n:Int)(hd:dw.length<=1048576)(hl:ps.length<=1048576)(hp:∀w∈ps,w.length<=1048576):Pure prog 75 [L ((jR :: dw :: ps).map bs),I n] (Zj n (jR :: dw :: ps)):=by
 have hnum:=XY [dw] DC (by intro w hw;simp at hw;subst hw;omega);rw[ZqZ]at hnum;have hv:yt .eql (bs jR) ⟨#[118,105,115,105,116]⟩=some (.bool true):=X1 _;have hcz:qk n (jR :: dw :: ps)=ZR n (dw :: ps):=by simp[qk]
 have hcf:vV n (jR :: dw :: ps)=ZV n ps:=by simp[vV]
 unfold Zj;rw[hcz,VO,hcf];clear hcz hcf;have hLw:L ([dw].map bs)=.lst 1 [T (bs dw)]:=rfl;rw[hLw]at hnum;have hi0:(0:Int)<(ps.length:Int)+1+1:=DB
 have hi2:(2:Int)<=(ps.length:Int)+1+1:=DB
 cases hz:yX dw with
 | none =>
  rw[hz]at hnum;simp only[Option.map_none,qY,CA,AP,false_and,if_false]at hnum ⊢;refine zx func75 ntmps75 results75 λS nx hd=>?_
  repeat apply ze
  refine zg ?_;intro v0
  repeat apply ze
  refine zi [(4,23)] (zF hv hi0 hi2) ?_;intros
  repeat apply ze
  refine zo DC ?_
  repeat apply ze
  refine zi [] (zt hi0 hi2) ?_;refine zu hnum ?_;intros
  (repeat apply ze);refine zg ?_;intros
  repeat apply ze
  refine zo DC ?_
  (repeat apply ze);refine zg ?_;intros
  refine yf 0 2 rfl rfl ?_
  repeat apply ze
  exact DL hd
 | some dn =>
  have hdv:yl dw=dn:=by unfold yl;rw[hz];rfl
  rw[hz]at hnum;simp only[A5,qY]at hnum;have hL1:L [(dn:Int)]=.lst 1 [I dn]:=rfl;rw[hL1]at hnum;obtain⟨o,ho⟩:∃o,o=(if (some dn).isSome=true/\(ps.all ju)=true then some (uN dw ps,ps.all λw=>decide ((w.length:Int)=n)) else none):=⟨_,rfl⟩;rw[<-ho];obtain⟨ws,hws⟩:∃ws,ws=(jR :: dw :: ps).map bs:=⟨_,rfl⟩;have hwl:ws.length=ps.length+2:=by rw[hws];simp
  have hLw:L ((jR :: dw :: ps).map bs)=L ws:=by rw[hws]
  have hat:∀k (p:Wd),ps[k]?=some p->ws[k+2]?=some (bs p):=λk p h=>by rw[hws];simp[h]
  refine zx func75 ntmps75 results75 λS nx hd=>?_
  repeat apply ze
  refine zg ?_;intro v0
  repeat apply ze
  refine zi [(4,23)] (zF hv hi0 hi2) ?_;intros
  repeat apply ze
  refine zo DC ?_
  repeat apply ze
  refine zi [] (zt hi0 hi2) ?_;refine zu hnum ?_;intros
  (repeat apply ze);refine zg ?_;intros
  repeat apply ze
  refine zp DC ?_;refine zk ?_
  repeat apply ze
  refine zg ?_;intro v1;refine jd 1 2 98 1 rfl rfl λw0=>?_
  (repeat apply ze);refine zg ?_;intros
  (repeat apply ze);refine zg ?_;intros
  repeat apply ze
  refine zn (zJ (λs:Nat × Nat=>s.1<=ps.length/\(ps.take s.1).all ju=true) (λ(k,w)=>[(0,L ws),(1,I n),(4,.ptr nx v0 0),(9,.ptr (nx+1) v1 0),(10,B (ZV n (ps.take k))),(11,I ((k+2:Nat):Int))]) (λ(k,w)=>[.cells v0 87 [I 0,I 0,yJ,I 0,I 0,I 0,I 0,I 0],.cells v1 87 [I 1,I dn,.sl (nx+2) w 1 0 k,I 0,I 0,I 0,I 0,I 0],.cells w 98 (((ps.map qj).take k).flatMap Enc.enc)]) (λs=>ps.length-s.1) (0,w0) [] DC (by simp[hws,ZV]) (by simp[yR]) ?_);rintro⟨k,w⟩ ⟨hk,hso⟩;simp only at hk hso ⊢
  repeat apply ze
  refine zi [] hwl ?_;intros
  repeat apply ze
  refine zz rfl (λhc=>?_) (λhc=>?_)
  ·simp at hc;have hkl:k<ps.length:=DB
   obtain⟨p,hp1⟩:∃p,ps[k]?=some p:=⟨_,Ad hkl⟩;have hpm:=Ab hp1;obtain⟨t,tl,b1,b2,b3,f0⟩:=zL rfl ws (k+2) DB;obtain rfl:t=bs p:=by rw[hat k p hp1]at b1;exact(Option.some.inj b1).symm
   have hsg:=Zqz p (hp p hpm);have hpz:=j8 p;have hk2:(k:Int)+2<ws.length:=DB
   have hk4:(0:Int)<=(k:Int)+2:=DB
   have hk3:((k:Int)+2).toNat=k+2:=DB
   have hk2':k+2<ws.length:=DB
   refine zk (ze (zn ?_))
   by_cases he:(qm p).2=2
   ·have hbad:=Zq1 he;have hon:o=none:=by
     rw[ho,if_neg];rintro⟨-,h⟩;have:=Az.1 h p hpm;rw[hbad]at this;cases this
    rw[he]at hsg
    repeat apply ze
    refine zi [] (yq f0 hk2 hk2' hk3 hk4) ?_;refine zu hsg ?_;intros
    (repeat apply ze);refine zg ?_;intros
    repeat apply ze
    refine zo DC ?_
    (repeat apply ze);refine zg ?_;intros
    refine yf 0 2 rfl rfl ?_
    repeat apply ze
    exact zj (zm hd DD (by rw[hon];rfl))
   ·obtain⟨q1,q2,q3⟩:=Zq2 he;rw[q2]at hsg;have hsn:=Zq0 (n:=n) hp1;have hfl:(((ps.map qj).take k).flatMap Enc.enc:List PV).length=k:=by rw[qO];simp[Enc.sz];omega
    have htk:List.take k (((ps.map qj).take k).flatMap Enc.enc:List PV)=((ps.map qj).take k).flatMap Enc.enc:=Ae (by rw[hfl];exact Af _);have hnx:(((ps.map qj).take (k+1)).flatMap Enc.enc:List PV)=((ps.map qj).take k).flatMap Enc.enc++[U (qj p)]:=by rw[AC,Ah,hp1,Al];rfl
    have hw1:IntKind.i64.wrap ((k:Int)+2+1)=(k:Int)+1+2:=by rw[Ay];omega
    have hso':(ps.take (k+1)).all ju=true:=by rw[AC,hp1];simp at hso ⊢;exact⟨hso,q1⟩
    have he2:¬(2:Int)=(qm p).2:=λe=>he e.symm
    generalize ((ps.map qj).take k).flatMap Enc.enc=pc at *;generalize qj p=sw at *;generalize (qm p).2=ee at *
    repeat apply ze
    refine zi [] (yq f0 hk2 hk2' hk3 hk4) ?_;refine zu hsg ?_;intros
    (repeat apply ze);refine zg ?_;intros
    repeat apply ze
    refine zp (by simp[he]) ?_;refine zk (ze (qE (nx:=nx) (σ:=Bool) (λt=>t=ZV n (ps.take (k+1))) (λt=>[(0,L ws),(1,I n),(4,.ptr nx v0 0),(9,.ptr (nx+1) v1 0),(10,B t),(11,I ((k+2:Nat):Int)),(12,U sw)]) (λ_=>S) (λ_=>[.cells v0 87 [I 0,I 0,yJ,I 0,I 0,I 0,I 0,I 0],.cells v1 87 [I 1,I dn,.sl (nx+2) w 1 0 k,I 0,I 0,I 0,I 0,I 0],.cells w 98 pc]) ?_ ?_))
    ·rw[hsn];cases hb:ZV n (ps.take k) with
     | false =>
      repeat apply ze
      refine zi [(1,59),(5,63)] zy ?_;intros;exact zT false [] rfl DC rfl DC
     | true =>
      by_cases h0:ee=0
      ·have h64:=q3.1 h0
       by_cases hn:(p.length:Int)=n
       ·repeat apply ze
        refine zi [(1,59),(5,63)] (zS f0 hk2 hk2' hk3 hk4 (zF h0 hpz hn)) ?_;intros;exact zT true [] (by simp[h64,hn]) DC rfl DC
       ·repeat apply ze
        refine zi [(1,59),(5,63)] (zS f0 hk2 hk2' hk3 hk4 (zF h0 hpz hn)) ?_;intros;exact zT false [] (by simp[hn]) DC rfl DC
      ·have h64:¬p.length<=64:=λh=>h0 (q3.2 h)
       repeat apply ze
       refine zi [(1,59),(5,63)] (zt h0 zy) ?_;intros;exact zT false [] (by simp[h64]) DC rfl DC
    ·rintro t rfl
     repeat apply ze
     refine zi [] htk ?_;refine⟨by omega,?_⟩;intros
     (repeat apply ze);refine zg ?_;intros
     exact zv (k+1,w+1) [] ⟨hkl,hso'⟩ DB (by simp[hw1]) rfl (by simp only[hnx,AF])
  ·simp at hc;obtain rfl:k=ps.length:=DB
   rw[Ag]at hso;rw[Ag];have hon:o=some (uN dw ps,ps.all λw=>decide ((w.length:Int)=n)):=by rw[ho,if_pos ⟨rfl,hso⟩]
   refine zC ?_;have hml:(ps.map qj).take ps.length=ps.map qj:=Ae DC;rw[hml];refine yb 2 DG ?_
   (repeat apply ze);refine zg ?_;intros
   repeat apply ze
   exact zj (zm hd DD (by rw[hon];simp[uN,hdv]))
theorem VT{n:Int}{l:Ln}(h:qk n l=none):Zj n l=.tup [.agg (yc Zhj),B false,B false]:=by unfold Zj;rw[h]
theorem wQ{w v:Wd}(h:w≠v):yt .eql (bs w) (bs v)=some (.bool false)/\yt .neq (bs w) (bs v)=some (.bool true):=⟨VB λe=>h (Qf.1 e),VQ λe=>h (Qf.1 e)⟩
theorem Zq4(a b c r h:Wd)(n:Int)(ha:∀w∈[a,b,c,h],w.length<=1048576):Pure prog 75 [L ((xg :: [a,b,c,r,h]).map bs),I n] (Zj n (xg :: [a,b,c,r,h])):=by
 have hv:yt .eql (bs xg) ⟨#[118,105,115,105,116]⟩=some (.bool false):=(wQ (v:=jR) DH).1;have ht:yt .neq (bs xg) ⟨#[116,97,110,107]⟩=some (.bool false):=vx _;have hn1:=XY [a,b,c] DC (λw hw=>by have:=ha w (by simp at hw ⊢;rcases hw with q | q | q<;>simp[q]);omega);have hn2:=XY [h] DC (λw hw=>by have:=ha w (by simp at hw ⊢;simp[hw]);omega);have hL1:L ([a,b,c].map bs)=.lst 3 [T (bs a),T (bs b),T (bs c)]:=rfl;have hL2:L ([h].map bs)=.lst 1 [T (bs h)]:=rfl;have hL0:L ((xg :: [a,b,c,r,h]).map bs)=.lst 6 [T (bs xg),T (bs a),T (bs b),T (bs c),T (bs r),T (bs h)]:=rfl;rw[hL1]at hn1;rw[hL2]at hn2;rw[hL0];have hcz:qk n (xg :: [a,b,c,r,h])=(ux [a,b,c,r,h]).map (·,true):=rfl;rw[Zct]at hcz
 by_cases hr:r=Zg\/r=Qd
 ·have hfa:(yt .neq (bs r) ⟨#[102,105,108,108]⟩=some (.bool false))\/(yt .neq (bs r) ⟨#[102,105,108,108]⟩=some (.bool true)/\yt .neq (bs r) ⟨#[97,110,121]⟩=some (.bool false)):=by
   by_cases q:r=Zg
   ·exact .inl (by rw[q];exact vx _)
   ·rcases hr with q2 | q2
    ·exact absurd q2 q
    ·exact .inr ⟨(wQ (v:=Zg) q).2,by rw[q2];exact vx _⟩
  have ho1:∃p q,qY (yB [a,b,c])=.tup [p,B q]:=by cases yB [a,b,c]<;>exact⟨_,_,rfl⟩
  have ho2:∃p q,qY (yB [h])=.tup [p,B q]:=by cases yB [h]<;>exact⟨_,_,rfl⟩
  by_cases hall:(yB [a,b,c,h]).isSome=true
  ·have h4:[a,b,c,h].all (λw=>(yX w).isSome)=true:=by
    unfold yB at hall;split at hall
    ·assumption
    ·cases hall
   simp only[Cj,Do,Ao,CR]at h4;have e1:yB [a,b,c]=some [yl a,yl b,yl c]:=by unfold yB;rw[if_pos (by simp[h4])];rfl
   have e2:yB [h]=some [yl h]:=by unfold yB;rw[if_pos (by simp[h4])];rfl
   rw[e1]at hn1;rw[e2]at hn2;simp only[qY]at hn1 hn2;have hA:L [yl a,yl b,yl c]=.lst 3 [I (yl a),I (yl b),I (yl c)]:=rfl;have hH:L [yl h]=.lst 1 [I (yl h)]:=rfl;rw[hA]at hn1;rw[hH]at hn2;rw[if_pos ⟨hall,hr⟩]at hcz;have hres:Zj n (xg :: [a,b,c,r,h])=.tup [.agg (yc ⟨2,0,[],yl a,yl b,yl c,ZS r,yl h⟩),B true,B true]:=by unfold Zj;rw[hcz];rfl
   rw[hres];have hru:(ZS r=1/\yt .eql (bs r) ⟨#[97,110,121]⟩=some (.bool false))\/(ZS r=2/\yt .eql (bs r) ⟨#[97,110,121]⟩=some (.bool true)):=by
    by_cases q:r=Zg
    ·exact .inl ⟨if_pos q,by rw[q];exact(wQ (v:=Qd) DH).1⟩
    ·rcases hr with q2 | q2
     ·exact absurd q2 q
     ·exact .inr ⟨if_neg q,by rw[q2];exact X1 _⟩
   generalize ZS r=ru at *;generalize yl a=za at *;generalize yl b=zb at *;generalize yl c=zc at *;generalize yl h=zh at *;clear hcz hres e1 e2 hA hH hr ha ho1 ho2 hall h4;refine zx func75 ntmps75 results75 λS nx hd=>?_
   repeat apply ze
   refine zg ?_;intro v0
   repeat apply ze
   refine zi [(4,23)] (zt hv zy) ?_;intros
   repeat apply ze
   refine zp DC ?_;refine zk ?_;rcases hfa with f1 | ⟨f1,f2⟩
   rotate_left
   repeat apply ze
   refine zi [(4,84),(9,89),(14,94)] (zN ht f1 f2 zy) ?_;intros
   repeat apply ze
   refine zp DC ?_
   rotate_left
   repeat apply ze
   refine zi [(4,84),(9,89),(14,94)] (zF ht f1 zy) ?_;intros
   repeat apply ze
   refine zp DC ?_
   all_goals
    refine zk ?_
    repeat apply ze
    refine zg ?_;refine zu hn1 ?_;intros
    repeat apply ze
    refine zg ?_;refine zu hn2 ?_;intros
    repeat apply ze
    refine zi [(2,116)] zy ?_;intros
    repeat apply ze
    refine zp DC ?_;refine zk ?_
    repeat apply ze
    refine zB (some []) (Row.pures [0,1,2,3,4,5,6,7,8,9,10,11,12] (.alt 13 (.alt 14 (.done) .stop) .stop)) mixed trivial ?_;intros;rcases hru with ⟨rfl,g⟩ | ⟨rfl,g⟩
    ·repeat apply ze
     refine zi [] g ?_;intros
     repeat apply ze
     refine zp DC ?_;refine zk (yf 1 2 rfl rfl ?_)
     (repeat apply ze);refine zg ?_;intros
     repeat apply ze
     exact DL hd
    ·repeat apply ze
     refine zi [] g ?_;intros
     repeat apply ze
     refine zo DC ?_
     (repeat apply ze);refine zg ?_;intros
     refine yf 1 2 rfl rfl ?_
     (repeat apply ze);refine zg ?_;intros
     repeat apply ze
     exact DL hd
  ·have hnone:qk n (xg :: [a,b,c,r,h])=none:=by rw[hcz,if_neg (λq=>hall q.1)];rfl
   rw[VT hnone];obtain⟨p1,b1,g1⟩:=ho1;obtain⟨p2,b2,g2⟩:=ho2;have hb:b1=false\/b2=false:=by
    by_cases h1:[a,b,c].all (λw=>(yX w).isSome)=true
    ·right;have:yB [h]=none:=by
      unfold yB;rw[if_neg];intro h2;apply hall;unfold yB;rw[if_pos (by simp at h1 h2 ⊢;exact⟨h1.1,h1.2.1,h1.2.2,h2⟩)];rfl
     rw[this]at g2;cases g2;rfl
    ·left;have:yB [a,b,c]=none:=by unfold yB;rw[if_neg h1]
     rw[this]at g1;cases g1;rfl
   rw[g1]at hn1;rw[g2]at hn2;clear hcz hnone hr ha hall;refine zx func75 ntmps75 results75 λS nx hd=>?_
   repeat apply ze
   refine zg ?_;intro v0
   repeat apply ze
   refine zi [(4,23)] (zt hv zy) ?_;intros
   repeat apply ze
   refine zp DC ?_;refine zk ?_;rcases hfa with f1 | ⟨f1,f2⟩
   rotate_left
   repeat apply ze
   refine zi [(4,84),(9,89),(14,94)] (zN ht f1 f2 zy) ?_;intros
   repeat apply ze
   refine zp DC ?_
   rotate_left
   repeat apply ze
   refine zi [(4,84),(9,89),(14,94)] (zF ht f1 zy) ?_;intros
   repeat apply ze
   refine zp DC ?_
   all_goals
    refine zk ?_
    repeat apply ze
    refine zg ?_;refine zu hn1 ?_;intros
    repeat apply ze
    refine zg ?_;refine zu hn2 ?_;intros;cases b1
    ·repeat apply ze
     refine zi [(2,116)] zy ?_;intros
     repeat apply ze
     refine zo DC ?_
     (repeat apply ze);refine zg ?_;intros
     refine yf 0 2 rfl rfl ?_
     repeat apply ze
     exact DL hd
    ·obtain rfl:b2=false:=by simpa using hb
     repeat apply ze
     refine zi [(2,116)] zy ?_;intros
     repeat apply ze
     refine zo DC ?_
     (repeat apply ze);refine zg ?_;intros
     refine yf 0 2 rfl rfl ?_
     repeat apply ze
     exact DL hd
 ·have hnone:qk n (xg :: [a,b,c,r,h])=none:=by rw[hcz,if_neg (λq=>hr q.2)];rfl
  rw[VT hnone];have f1:yt .neq (bs r) ⟨#[102,105,108,108]⟩=some (.bool true):=(wQ (v:=Zg) λq=>hr (.inl q)).2;have f2:yt .neq (bs r) ⟨#[97,110,121]⟩=some (.bool true):=(wQ (v:=Qd) λq=>hr (.inr q)).2;refine zx func75 ntmps75 results75 λS nx hd=>?_
  repeat apply ze
  refine zg ?_;intro v0
  repeat apply ze
  refine zi [(4,23)] (zt hv zy) ?_;intros
  repeat apply ze
  refine zp DC ?_;refine zk ?_
  repeat apply ze
  refine zi [(4,84),(9,89),(14,94)] (zN ht f1 f2 zy) ?_;intros
  repeat apply ze
  refine zo DC ?_
  (repeat apply ze);refine zg ?_;intros
  refine yf 0 2 rfl rfl ?_
  repeat apply ze
  exact DL hd
theorem Zhk(w:Wd)(ls:Ln)(n:Int)(hl:ls.length<=1048576)(h1:w=jR->ls=[])(h2:w=xg->ls.length≠5):Pure prog 75 [L ((w :: ls).map bs),I n] (Zj n (w :: ls)):=by
 have hnone:qk n (w :: ls)=none:=by
  show (if w=jR then ZR n ls else if w=xg then (ux ls).map (·,true) else none)=none
  split
  ·rename_i h;rw[h1 h];rfl
  ·split
   ·rename_i h;have:ux ls=none:=by
     have h5:=h2 h;unfold ux;split
     ·simp at h5
     ·rfl
    rw[this];rfl
   ·rfl
 rw[VT hnone];have hi0:(0:Int)<(ls.length:Int)+1:=DB
 have hv0:yt .eql (bs jR) ⟨#[118,105,115,105,116]⟩=some (.bool true):=X1 _
 by_cases q1:w=jR
 ·rw[h1 q1,q1];have ht:yt .neq (bs jR) ⟨#[116,97,110,107]⟩=some (.bool true):=(wQ (v:=xg) DH).2;refine zx func75 ntmps75 results75 λS nx hd=>?_
  repeat apply ze
  refine zg ?_;intro v0
  repeat apply ze
  refine zi [(4,23)] hv0 ?_;intros
  repeat apply ze
  refine zp DC ?_;refine zk ?_
  repeat apply ze
  refine zi [(4,84),(9,89),(14,94)] (zt ht zy) ?_;intros
  repeat apply ze
  refine zo DC ?_
  (repeat apply ze);refine zg ?_;intros
  refine yf 0 2 rfl rfl ?_
  repeat apply ze
  exact DL hd
 have hv:yt .eql (bs w) ⟨#[118,105,115,105,116]⟩=some (.bool false):=(wQ (v:=jR) q1).1
 by_cases q2:w=xg
 ·have h5:=h2 q2;have ht:yt .neq (bs w) ⟨#[116,97,110,107]⟩=some (.bool false):=by rw[q2];exact vx _
  have h6:¬(ls.length:Int)+1=6:=DB
  have h6':¬(6:Int)=(ls.length:Int)+1:=DB
  have h5':¬ls.length=5:=h5;refine zx func75 ntmps75 results75 λS nx hd=>?_
  repeat apply ze
  refine zg ?_;intro v0
  repeat apply ze
  refine zi [(4,23)] (zF hv hi0 zy) ?_;intros
  repeat apply ze
  refine zp DC ?_;refine zk ?_
  repeat apply ze
  refine zi [(4,84),(9,89),(14,94)] (yq ht hi0 h6 h5' zy) ?_;intros
  repeat apply ze
  refine zo DC ?_
  (repeat apply ze);refine zg ?_;intros
  refine yf 0 2 rfl rfl ?_
  repeat apply ze
  exact DL hd
 ·have ht:yt .neq (bs w) ⟨#[116,97,110,107]⟩=some (.bool true):=(wQ (v:=xg) q2).2;refine zx func75 ntmps75 results75 λS nx hd=>?_
  repeat apply ze
  refine zg ?_;intro v0
  repeat apply ze
  refine zi [(4,23)] (zF hv hi0 zy) ?_;intros
  repeat apply ze
  refine zp DC ?_;refine zk ?_
  repeat apply ze
  refine zi [(4,84),(9,89),(14,94)] (zF ht hi0 zy) ?_;intros
  repeat apply ze
  refine zo DC ?_
  (repeat apply ze);refine zg ?_;intros
  refine yf 0 2 rfl rfl ?_
  repeat apply ze
  exact DL hd
theorem Zq5(l:Ln)(n:Int)(h0:l≠[])(hl:l.length<=1048576)(hw:∀w∈l,w.length<=1048576):Pure prog 75 [L (l.map bs),I n] (Zj n l):=by
 match l,h0,hl,hw with
 | w :: ls,_,hl,hw =>
  have hl':ls.length<=1048576:=by rw[Au]at hl;omega
  by_cases h1:w=jR
  ·subst h1
   match ls,hl',hw with
   | [],_,_=>exact Zhk _ _ n DC (λ_=>rfl) (λh=>by cases h)
   | d :: ps,hl',hw=>exact Zq3 d ps n (hw d DC) (by rw[Au]at hl';omega) (λw h=>hw w (by simp[h]))
  ·by_cases h2:w=xg/\ls.length=5
   ·obtain⟨rfl,h5⟩:=h2
    match ls,h5,hw with
    | [a,b,c,r,h],_,hw=>exact Zq4 a b c r h n λw q=>hw w (by simp at q ⊢;rcases q with q | q | q | q<;>simp[q])
   ·exact Zhk w ls n hl' (λe=>absurd e h1) λe e5=>h2 ⟨e,e5⟩
open Go Go.Proofs
def Yv(c:UInt8):Prop:=33<=c.toNat/\c.toNat<=126
instance (c:UInt8):Decidable (Yv c):=inferInstanceAs (Decidable (_/\_))
def we:List Ln->Ln->Wd->List UInt8->Option (List Ln)
 | out,line,cur,[]=>if cur=[]/\line=[] then some out else none
 | out,line,cur,c :: t =>
  if c=32\/c=10 then
   if cur=[] then none else if c=10 then we (out++[line++[cur]]) [] [] t else we out (line++[cur]) [] t
  else if Yv c then we out line (cur++[c]) t else none
theorem Zhl(out:List Ln)(line:Ln)(cur:Wd):we out line cur []=if cur=[]/\line=[] then some out else none:=rfl
theorem VU(out:List Ln)(line:Ln)(cur:Wd)(c:UInt8)(t:List UInt8):we out line cur (c :: t)=if c=32\/c=10 then (if cur=[] then none else if c=10 then we (out++[line++[cur]]) [] [] t else we out (line++[cur]) [] t) else if Yv c then we out line (cur++[c]) t else none:=rfl
theorem Zhm{c:UInt8}{x:UInt8}:∀{l:List UInt8},x∈l->x≠c->∃w∈yI c l,x∈w
 | a :: l,h,hx=>by
  rw[Zb8];rcases Aw.1 h with rfl | h
  ·rw[if_neg hx];cases yI c l with
   | nil=>exact⟨[x],by simp,by simp⟩
   | cons p q=>exact⟨x :: p,by simp,by simp⟩
  ·obtain⟨w,hw,hxw⟩:=Zhm h hx;split
   ·exact⟨w,by simp[hw],hxw⟩
   ·cases e:yI c l with
    | nil=>rw[e]at hw;simp at hw
    | cons p q =>
     rw[e]at hw;rcases Aw.1 hw with rfl | hw
     ·exact⟨a :: w,by simp,by simp[hxw]⟩
     ·exact⟨w,by simp[hw],hxw⟩
theorem Zhn{c:UInt8}(h:Yv c):c≠32/\c≠10:=by
 constructor<;>(rintro rfl;exact absurd h DH)
theorem Zho{w:Wd}(h0:w≠[])(h:∀c∈w,Yv c):vq w=true:=(Vx w).2 ⟨h0,h⟩
theorem ZcA(b:List UInt8):∀(a:List UInt8) (out:List Ln) (line:Ln) (cur:Wd),10 ∉ a->(∀c∈cur,Yv c)->we out line cur (a++10 :: b)=if (yI 32 (cur++a)).all vq=true then we (out++[line++yI 32 (cur++a)]) [] [] b else none
 | [],out,line,cur,_,hc=>by
  have h32:(32:UInt8) ∉ cur:=λh=>(Zhn (hc _ h)).1 rfl
  rw[AF,Zgn h32,AM,VU,if_pos (.inr rfl)];simp only[Cj,Do,CR]
  by_cases h0:cur=[]
  ·rw[if_pos h0,if_neg];rw[h0];decide
  ·rw[if_neg h0,if_pos trivial,if_pos (Zho h0 hc)]
 | c :: a,out,line,cur,h10,hc=>by
  rw[Aw,not_or]at h10;have h32:(32:UInt8) ∉ cur:=λh=>(Zhn (hc _ h)).1 rfl
  have hc10:c≠10:=λe=>h10.1 e.symm
  rw[List.cons_append,VU]
  by_cases h:c=32
  ·subst h;rw[if_pos (.inl rfl),if_neg hc10,Zgo a h32]
   by_cases h0:cur=[]
   ·rw[if_pos h0,if_neg];rw[h0];simp[vq]
   ·rw[if_neg h0,ZcA b a out (line++[cur]) [] h10.2 DC,AM];rw[Cj,Zho h0 hc,De,List.append_assoc,CL]
  ·rw[if_neg (by rintro(e | e);exact h e;exact hc10 e)]
   by_cases hg:Yv c
   ·rw[if_pos hg,ZcA b a out line (cur++[c]) h10.2 (by intro d hd;rw[AG,AZ]at hd;rcases hd with q | rfl;exact hc d q;exact hg)];rw[List.append_assoc,CL]
   ·rw[if_neg hg,if_neg];intro hall;obtain⟨w,hw,hcw⟩:=Zhm (c:=32) (x:=c) (l:=cur++c :: a) DC h;have:=(Vx w).1 (Az.1 hall w hw);exact hg (this.2 c hcw)
theorem ZcB:∀(a:List UInt8) (out:List Ln) (line:Ln) (cur:Wd),10 ∉ a->(a≠[]\/cur≠[]\/line≠[])->we out line cur a=none
 | [],out,line,cur,_,h=>by
  rw[Zhl,if_neg];rintro⟨rfl,rfl⟩;simp at h
 | c :: a,out,line,cur,h10,_=>by
  rw[Aw,not_or]at h10;have hc10:c≠10:=λe=>h10.1 e.symm
  rw[VU]
  by_cases h:c=32
  ·rw[if_pos (.inl h),if_neg hc10];split
   ·rfl
   ·exact ZcB a _ _ _ h10.2 DC
  ·rw[if_neg (by rintro(e | e);exact h e;exact hc10 e)];split
   ·exact ZcB a _ _ _ h10.2 DC
   ·rfl
theorem Zq6(n:Nat):∀(t:List UInt8) (out:List Ln),t.length<=n->we out [] [] t=(qJ t).map (out++·):=by
 induction n with
 | zero =>
  intro t out h;have:t=[]:=Ap DB;subst this;rw[XM];simp[we]
 | succ n ih =>
  intro t out h
  by_cases h0:t=[]
  ·subst h0;rw[XM];simp[we]
  cases hc:xO 10 t with
  | none =>
   rw[ZcB t out [] [] (Vw hc) (.inl h0)];unfold qJ;rw[if_neg h0];split
   ·rfl
   ·rename_i h2;rw[hc]at h2;cases h2
  | some p =>
   obtain⟨a,b⟩:=p;obtain⟨e1,e2⟩:=QV hc;have hlt:=Zb7 hc;have hz:qJ t=if (yI 32 a).all vq=true then (qJ b).map (yI 32 a :: ·) else none:=by
    conv=>lhs;unfold qJ
    rw[if_neg h0];split
    ·rename_i h2;rw[hc]at h2;cases h2
    ·rename_i h2;rw[hc]at h2;cases h2;rfl
   rw[hz]
   conv=>lhs;rw[e1]
   rw[ZcA b a out [] [] e2 DC,AM,AM];split
   ·rw[ih b _ DB];cases qJ b<;>simp
   ·rfl
def wg(t:List UInt8)(a b:Nat):List UInt8:=(t.take b).drop a
theorem VV(t:List UInt8)(a:Nat):wg t a a=[]:=by unfold wg;rw[List.drop_eq_nil_iff];simp;omega
theorem Zq7{t:List UInt8}{a b:Nat}{c:UInt8}(h:t[b]?=some c)(hab:a<=b):wg t a (b+1)=wg t a b++[c]:=by
 unfold wg;rw[AC,h,BZ]
 ·rfl
 ·rw[As];have:=(Ac.1 h).1;omega
theorem Zhp{t:List UInt8}{a b:Nat}(h:b<=t.length):(wg t a b).length=b-a:=by unfold wg;simp;omega
theorem Zq8(t:List UInt8)(hl:t.length<=1048576):Pure prog 40 [T (bs t)] (Qe (qJ t)):=by
 have hsc:we [] [] [] t=qJ t:=by
  rw[Zq6 t.length t [] (Af _)];cases qJ t<;>simp
 rw[<-hsc];obtain⟨o,ho⟩:∃o,o=we [] [] [] t:=⟨_,rfl⟩;rw[<-ho];clear hsc;obtain⟨B,hB⟩:∃B,B=bs t:=⟨_,rfl⟩;have hsz:B.size=t.length:=by rw[hB,j8]
 have hg:∀k,B[k]?=t[k]?:=λk=>by rw[hB];exact XN t k
 have hex:∀a b,B.extract a b=bs (wg t a b):=λa b=>by rw[hB];exact JX t a b
 rw[<-hB];refine zx func40 ntmps40 results40 λS nx hd=>?_
 (repeat apply ze);refine zg ?_;intros
 (repeat apply ze);refine zg ?_;intros
 refine qL 4 81 1 rfl λw0=>?_
 (repeat apply ze);refine zg ?_;intros
 refine qL 5 9 1 rfl λv0=>?_
 (repeat apply ze);refine zg ?_;intros
 (repeat apply ze);refine zg ?_;intros
 repeat apply ze
 refine zn (zJ (λs:Nat × Nat × Ln × List Ln × Nat × Nat=>(s.2.1<=s.1/\s.1<=t.length/\s.2.2.1.length<=s.1/\s.2.2.2.1.length<=s.1)/\o=we s.2.2.2.1 s.2.2.1 (wg t s.2.1 s.1) (t.drop s.1)) (λ(i,fr,ln,ot,w,v)=>[(0,T B),(4,.sl nx w 1 0 ot.length),(5,.sl (nx+1) v 1 0 ln.length),(6,I fr),(7,I i)]) (λ(i,fr,ln,ot,w,v)=>[.cells w 81 ((wl ot).flatMap Enc.enc),.cells v 9 ((ln.map bs).flatMap Enc.enc)]) (λs=>t.length-s.1) (0,0,[],[],w0,v0) [] (by simp[ho,wg]) DC DC ?_);rintro⟨i,fr,ln,ot,w,v⟩ ⟨⟨h1,h2,h3,h4⟩,hz⟩;simp only at h1 h2 h3 h4 hz ⊢
 repeat apply ze
 refine zi [] hsz ?_;intros
 repeat apply ze
 refine zz rfl (λhc=>?_) (λhc=>?_)
 ·simp at hc;obtain⟨c,hc1⟩:∃c,t[i]?=some c:=⟨_,Ad hc⟩;have hgk:=(hg i).trans hc1;have hdr:t.drop i=c :: t.drop (i+1):=by rw[AJ hc];rw[Ad hc]at hc1;cases hc1;rfl
  rw[hdr,VU]at hz;have hw1:=zA i DB;have hseg:=Zq7 hc1 h1;refine zk (ze (zn ?_))
  repeat apply ze
  refine zi [] hgk ?_;intros
  by_cases hsp:c=32\/c=10
  ·rw[if_pos hsp]at hz;have hcd:(c.toNat:Int)=32\/(¬(c.toNat:Int)=32/\(c.toNat:Int)=10):=by
    rcases hsp with rfl | rfl
    ·exact .inl rfl
    ·exact .inr ⟨by decide,rfl⟩
   have hcb:c.toNat=10<->c=10:=⟨λh=>UInt8.toNat_inj.1 h,λh=>by rw[h];rfl⟩;clear hsp;rcases hcd with d1 | ⟨d1,d2⟩
   rotate_left
   have d1':¬c.toNat=32:=DB
   have d2':(c.toNat=10)=True:=eq_true DB;have d2'':=eq_true d2
   repeat apply ze
   refine zi [(2,20)] (zN d1 d1' d2'' d2') ?_;intros
   repeat apply ze
   refine zp (by simp[d2',d2'']) ?_
   rotate_left
   have d1':(c.toNat=32)=True:=eq_true DB;have d1'':=eq_true d1
   repeat apply ze
   refine zi [(2,20)] (zF d1'' d1' zy) ?_;intros
   repeat apply ze
   refine zp (by simp[d1',d1'']) ?_
   all_goals
    refine zk ?_
    by_cases hif:i=fr
    ·subst hif;rw[VV,if_pos rfl]at hz
     (repeat apply ze);refine zg ?_;intros
     repeat apply ze
     refine zo DC ?_
     (repeat apply ze);refine zg ?_;intros
     repeat apply ze
     exact zj (zm hd DD (by rw[hz];rfl))
    ·have hlt:fr<i:=DB
     have hif':¬(i:Int)=(fr:Int):=DB
     have hne:wg t fr i≠[]:=λh=>by have:=congrArg List.length h;rw[Zhp DB]at this;simp at this;omega
     rw[if_neg hne]at hz;have hexi:=hex fr i;have hfl:((ln.map bs).flatMap Enc.enc:List PV).length=ln.length:=by rw[qO];simp[Enc.sz]
     have htk:List.take ln.length ((ln.map bs).flatMap Enc.enc:List PV)=(ln.map bs).flatMap Enc.enc:=Ae (by rw[hfl];exact Af _);have hnx:((ln++[wg t fr i]).map bs).flatMap Enc.enc=(ln.map bs).flatMap Enc.enc++[T (bs (wg t fr i))]:=by rw[List.map_append,Al];rfl
     have hln:(ln++[wg t fr i]).length=ln.length+1:=DC
     repeat apply ze
     refine zi [] (zt hif hif') ?_;intros
     repeat apply ze
     refine zp (by simp[hif,hif']) ?_;refine zk ?_;have hle:fr<=i:=h1;have hib:i<=B.size:=by rw[hsz];exact h2
     repeat apply ze
     refine zi [] (zN hle hib hexi htk) ?_;refine⟨by omega,?_⟩;intros;have hl1:(ln++[wg t fr i]).length<=i+1:=by rw[hln];omega
     rw[<-hnx,<-hln];generalize ln++[wg t fr i]=l1 at *;have hw2:IntKind.i64.wrap ((i:Int)+1)=((i+1:Nat):Int):=hw1
     repeat apply ze
     refine zi [] hw1 ?_;intros
     by_cases h10:c=10
     ·have e10:((c.toNat:Int)=10)=True:=eq_true (by rw[h10];rfl);have e10':(c.toNat=10)=True:=eq_true (hcb.2 h10);rw[if_pos h10]at hz
      repeat apply ze
      refine zi [] (zt e10 e10') ?_;intros
      repeat apply ze
      refine zo (by simp[e10,e10']) ?_;refine yb 1 rfl ?_;have hLL:PV.lst l1.length ((l1.map bs).flatMap Enc.enc)=L (l1.map bs):=by unfold L;rw[List.length_map]
      have hfo:((wl ot).flatMap Enc.enc:List PV).length=ot.length:=by rw[qO];simp[Enc.sz]
      have hto:List.take ot.length ((wl ot).flatMap Enc.enc:List PV)=(wl ot).flatMap Enc.enc:=Ae (by rw[hfo];exact Af _);have hno:(wl (ot++[l1])).flatMap Enc.enc=(wl ot).flatMap Enc.enc++[L (l1.map bs)]:=by rw[wl,List.map_append,Al];rfl
      have hol:(ot++[l1]).length=ot.length+1:=DC
      repeat apply ze
      refine zi [] (zt hLL hto) ?_;refine⟨by omega,?_⟩;intros;rw[<-hno,<-hol];have hol2:(ot++[l1]).length<=i+1:=by rw[hol];omega
      generalize ot++[l1]=o1 at *
      (repeat apply ze);refine zg ?_;intros
      refine Zjh [_] [.dead] rfl ?_;refine qL 5 9 1 rfl λv1=>?_
      (repeat apply ze);refine zg ?_;intros
      exact zv (i+1,i+1,[],o1,w+1,v1) [] ⟨⟨Af _,hc,Ca _,hol2⟩,by rw[hz,VV]⟩ DB (by simp[hw1]) rfl rfl
     ·have e10:¬(c.toNat:Int)=10:=λh=>h10 (hcb.1 DB)
      have e10':¬c.toNat=10:=λh=>h10 (hcb.1 h)
      rw[if_neg h10]at hz
      repeat apply ze
      refine zi [] (zt e10 e10') ?_;intros
      repeat apply ze
      refine zp (by simp[e10,e10']) ?_;refine zk ?_
      (repeat apply ze);refine zg ?_;intros
      exact zv (i+1,i+1,l1,ot,w,v+1) [] ⟨⟨Af _,hc,hl1,Ci h4⟩,by rw[hz,VV]⟩ DB (by simp[hw1]) rfl rfl
  ·rw[if_neg hsp]at hz;have n1:¬(c.toNat:Int)=32:=λh=>hsp (.inl (UInt8.toNat_inj.1 (by show c.toNat=32;omega)))
   have n2:¬(c.toNat:Int)=10:=λh=>hsp (.inr (UInt8.toNat_inj.1 (by show c.toNat=10;omega)))
   have n1':¬c.toNat=32:=DB
   have n2':¬c.toNat=10:=DB
   repeat apply ze
   refine zi [(2,20)] (zN n1 n1' n2 n2') ?_;intros
   repeat apply ze
   refine zo (by simp[*]) ?_
   by_cases hgd:Yv c
   ·rw[if_pos hgd]at hz;obtain⟨g1,g2⟩:=hgd;have g1':¬(c.toNat:Int)<33:=DB
    have g2':¬126<(c.toNat:Int):=DB
    have g1'':¬c.toNat<33:=DB
    have g2'':¬126<c.toNat:=DB
    repeat apply ze
    refine zi [(2,26)] (zN g1' g2' g1'' g2'') ?_;intros
    repeat apply ze
    refine zp (by simp[*]) ?_;refine zk (zC ?_)
    (repeat apply ze);refine zg ?_;intros
    exact zv (i+1,fr,ln,ot,w,v) [] ⟨⟨Ci h1,hc,Ci h3,Ci h4⟩,by rw[hz,hseg]⟩ DB (by simp[hw1]) rfl rfl
   ·rw[if_neg hgd]at hz;have hb:c.toNat<33\/(¬c.toNat<33/\126<c.toNat):=by unfold Yv at hgd;omega
    rcases hb with g1 | ⟨g1,g2⟩
    ·have g1':(c.toNat:Int)<33:=DB
     repeat apply ze
     refine zi [(2,26)] (zF g1 g1' zy) ?_;intros
     repeat apply ze
     refine zo (by simp[*]) ?_
     (repeat apply ze);refine zg ?_;intros
     repeat apply ze
     exact zj (zm hd DD (by rw[hz];rfl))
    ·have g1':¬(c.toNat:Int)<33:=DB
     have g2':126<(c.toNat:Int):=DB
     repeat apply ze
     refine zi [(2,26)] (zN g1 g1' g2 g2') ?_;intros
     repeat apply ze
     refine zo (by simp[*]) ?_
     (repeat apply ze);refine zg ?_;intros
     repeat apply ze
     exact zj (zm hd DD (by rw[hz];rfl))
 ·simp at hc;obtain rfl:i=t.length:=DB
  rw[BF,Zhl]at hz;refine zC ?_
  by_cases hfr:fr<t.length
  ·have hne:wg t fr t.length≠[]:=λh=>by have:=congrArg List.length h;rw[Zhp DB]at this;simp at this;omega
   have hfr':(fr:Int)<(t.length:Int):=DB
   rw[if_neg λq=>hne q.1]at hz
   repeat apply ze
   refine zi [(4,52)] (zN hsz hfr hfr' zy) ?_;intros
   repeat apply ze
   refine zo DC ?_
   (repeat apply ze);refine zg ?_;intros
   repeat apply ze
   exact zj (zm hd DD (by rw[hz];rfl))
  ·obtain rfl:fr=t.length:=DB
   rw[VV]at hz
   by_cases h0:ln=[]
   ·subst h0;rw[if_pos ⟨rfl,rfl⟩]at hz
    repeat apply ze
    refine zi [(4,52)] hsz ?_;intros
    repeat apply ze
    refine zp DC ?_;refine zk (yb 0 rfl ?_)
    (repeat apply ze);refine zg ?_;intros
    repeat apply ze
    exact zj (zm hd DD (by rw[hz];simp[Qe,L]))
   ·rw[if_neg λq=>h0 q.2]at hz;have hl0:0<ln.length:=BQ.2 h0;have hl0':(0:Int)<(ln.length:Int):=DB
    repeat apply ze
    refine zi [(4,52)] (zF hsz hl0 hl0') ?_;intros
    repeat apply ze
    refine zo DC ?_
    (repeat apply ze);refine zg ?_;intros
    repeat apply ze
    exact zj (zm hd DD (by rw[hz];rfl))
open Go Go.Proofs
theorem Qg(ls:List Ln)(p k:Nat):yu ls p (k+1)=yu ls p k++[zK ls (p+k)]:=by simp[yu,AT]
theorem VW(ls:List Ln)(p k:Nat):(yu ls p k).length=k:=by simp[yu]
theorem VX{ls:List Ln}{p k n:Nat}{f:Ln->Bool}(hk:k<n)(h:f (zK ls (p+k))=false):(yu ls p n).all f=false:=by
 rw[Bh];exact⟨zK ls (p+k),Ar.2 ⟨k,AH.2 hk,rfl⟩,by simp[h]⟩
theorem Zhq{a b:ByteArray}(h:a≠b):(a == b)=false:=by
 have e:(a == b)=(a.data == b.data):=by cases a;cases b;rfl
 rw[e,beq_eq_false_iff_ne];exact λhh=>h (by cases a;cases b;cases hh;rfl)
abbrev J1(id ver:Nat):List (Value × PV):=[(.string ⟨#[118,105,115,105,116]⟩,.fn (.func 142) [.ptr id ver 0] []),(.string ⟨#[116,97,110,107]⟩,.fn (.func 143) [.ptr id ver 0] [])]
def yN(ls:List Ln)(d:Int)(p k:Nat):List Cust:=(yu ls p k).map λl=>(xu d l).1
def jF(ls:List Ln)(d:Int)(p k:Nat):Bool:=(yu ls p k).all λl=>(xu d l).2
theorem ZcC(ls:List Ln)(d:Int)(p k:Nat):yN ls d p (k+1)=yN ls d p k++[(xu d (zK ls (p+k))).1]:=by simp[yN,Qg]
theorem Zhr(ls:List Ln)(d:Int)(p k:Nat):jF ls d p (k+1)=(jF ls d p k && (xu d (zK ls (p+k))).2):=by simp[jF,Qg]
theorem VY(ls:List Ln)(d:Int)(p k:Nat):(yN ls d p k).length=k:=by simp[yN,VW]
theorem Zq9{S:Store}{id ver idC vC:Nat}(ls:List Ln)(r:Rdr)(n:Nat)(ds:PV)(hS:S id=yg ver ls r (.sl idC vC 8 0 0) ds)(hC:S idC=.cells vC 87 [])(hl:LnsOk ls)(hm:r.m=n)(hp:r.pos<=ls.length)(hb:r.bad=false):
  Spec prog 105 [.ptr id ver 0] S (λq S'=>if (yu ls r.pos n).all (λl=>(qk r.d l).isSome)=true then
    q=B true/\r.pos+n<=ls.length/\S'=(S.set id (yg ver ls { r with pos:=r.pos+n,bad:=!(jF ls r.d r.pos n) } (.sl idC (vC+n) 8 0 n) ds)).set idC (.cells (vC+n) 87 ((yN ls r.d r.pos n).flatMap Enc.enc))
   else q=B false/\∃r' cs' oC,S'=(S.set id (yg ver ls r' cs' ds)).set idC oC):=by
 have hne:id≠idC:=by rintro rfl;rw[hS]at hC;simp at hC
 obtain⟨pos,d,v,c,ln,m,bad⟩:=r;simp only at hm hp hb ⊢;subst hm hb;obtain⟨o,ho⟩:∃o,o=(yu ls pos n).all (λl=>(qk d l).isSome):=⟨_,rfl⟩;rw[<-ho];obtain⟨St,hSt⟩:∃St:Nat->Store,∀k,St k=(S.set id (yg ver ls ⟨pos+k,d,v,c,ln,n,!(jF ls d pos k)⟩ (.sl idC (vC+k) 8 0 k) ds)).set idC (.cells (vC+k) 87 ((yN ls d pos k).flatMap Enc.enc)):=⟨_,λ_=>rfl⟩;have hS0:St 0=S:=by
  rw[hSt];have e1:S.set id (yg ver ls ⟨pos+0,d,v,c,ln,n,!(jF ls d pos 0)⟩ (.sl idC (vC+0) 8 0 0) ds)=S:=ZU S id _ hS;rw[e1];exact ZU S idC _ hC
 refine yi func105 ntmps105 results105 λnx hd=>?_
 have hlt:id<nx:=qC hd hS DC;have hltC:idC<nx:=qC hd hC DC;have g1:¬nx<=id:=DB
 have g2:¬nx<=idC:=DB
 have xi:∀k,St k id=yg ver ls ⟨pos+k,d,v,c,ln,n,!(jF ls d pos k)⟩ (.sl idC (vC+k) 8 0 k) ds:=λk=>by rw[hSt,q10 _ _ _ _ hne,q11]
 have xc:∀k,St k idC=.cells (vC+k) 87 ((yN ls d pos k).flatMap Enc.enc):=λk=>by rw[hSt,q11]
 have hdS:∀k,zX nx (St k):=λk=>by rw[hSt];exact qw (qw hd hlt _) hltC _
 have x1:∀obs,ext S nx obs id=yg ver ls ⟨pos,d,v,c,ln,n,false⟩ (.sl idC vC 8 0 0) ds:=λobs=>(zE hlt).trans hS
 refine DK ?_;refine DK ?_;intro v0;refine λhsuf=>Ya (.inr rfl) underlying202 underlying9 rfl rfl rfl (by rw[Zu];rfl) rfl ?_
 refine⟨_,_,yh _ (Af _) DC,zQ hsuf ?_⟩;refine λhsuf=>Ya (.inr rfl) underlying202 underlying9 rfl rfl rfl (by rw[Zu];simp;rfl) (by simp[qT,qK];rfl) ?_
 refine⟨_,_,yh _ (Af _) DC,zQ hsuf ?_⟩
 repeat apply ze
 refine zi [] x1 ?_;have hform:∀k r' cs',(St k).set id (yg ver ls r' cs' ds)=(S.set id (yg ver ls r' cs' ds)).set idC (.cells (vC+k) 87 ((yN ls d pos k).flatMap Enc.enc)):=λk r' cs'=>by
  rw[hSt,Store.set_comm _ idC id _ _ hne,Store.set_set]
 refine zn (jo (λk:Nat=>k<=n/\pos+k<=ls.length/\∀l∈yu ls pos k,(qk d l).isSome=true) (λk=>[(0,.ptr id ver 0),(3,.mp nx v0),(16,I n),(17,I k)]) St (λ_=>[.map v0 (J1 id ver)]) (λk=>n-k) (zT 0 [] ⟨by simp,by simpa using hp,by simp[yu]⟩ DC hS0 rfl) ?_);rintro k ⟨hk,hpk,hall⟩;refine DK ?_;refine ze (zz rfl (λhc=>?_) (λhc=>?_))
 ·simp at hc;have hkn:k<n:=DB
  have hnext:=λS (h:S id=_)=>XZ (S:=S) (id:=id) (ver:=ver) ls ⟨pos+k,d,v,c,ln,n,!(jF ls d pos k)⟩ (.sl idC (vC+k) 8 0 k) ds h hl.1
  have hla:=hl.at (pos+k);refine zk (ze (zn ?_));obtain⟨S1,hS1⟩:∃S1,S1=(St k).set id (yg ver ls (yT ls ⟨pos+k,d,v,c,ln,n,!(jF ls d pos k)⟩) (.sl idC (vC+k) 8 0 k) ds):=⟨_,rfl⟩;have hd1:zX nx S1:=by rw[hS1];exact qw (hdS k) hlt _
  have hbad:qk d (zK ls (pos+k))=none->o=false:=λq=>by rw[ho];exact VX hkn (by rw[q];rfl)
  simp only at hnext;refine ze (xk [] DG DG λK Gc Gh hK hGc hGh X hX0 hX=>?_);simp -implicitDefEqProofs [hX0,hX]
  try clear hX0 hX X
  refine hGc _ _ _ _ _ _ _ λhsuf=>((hnext _ ((zE hlt).trans (xi k))).mono ?_).v
  rintro _ _ ⟨rfl,rfl⟩;refine⟨S1,_,by rw[yZ _ hlt,<-hS1],?_⟩;clear hGc hGh;clear Gc Gh;refine xH hsuf (D:=[]) DG λGc Gh hGc hGh X hX0 hX=>?_
  simp -implicitDefEqProofs [hX0,hX];clear hX0 hX X;refine hK _ _ _ ?_;clear hK hGc hGh;clear K Gc Gh;clear hnext hsuf;rcases hline:zK ls (pos+k) with _ | ⟨w,l'⟩
  ·have hof:=hbad (by rw[hline];rfl)
   repeat apply ze
   refine zg ?_;refine zo DC ?_;refine DK ?_;refine zj ⟨_,_,by simp;rfl,by rw[hof];simp only[AP,if_false];exact⟨by simp[zq],_,_,_,by rw[hS1];exact hform k _ _⟩,zU hd1⟩
  ·repeat apply ze
   refine zg ?_;refine zp DF ?_;refine zk ?_;have hm0:ext S1 nx [.map v0 (J1 id ver)] nx=.map v0 (J1 id ver):=by rw[Zu];rfl
   have hp1:pos+k<ls.length:=by
    apply Di;intro hh;unfold zK at hline;rw[Aa,Ak hh]at hline;cases hline
   have hnk:yT ls ⟨pos+k,d,v,c,ln,n,!(jF ls d pos k)⟩=⟨pos+k+1,d,v,c,ln,n,!(jF ls d pos k)⟩:=if_pos hp1;rw[hnk]at hS1;have hcl:=VY ls d pos k;have hls:=hl.1;have hS1i:S1 id=yg ver ls ⟨pos+k+1,d,v,c,ln,n,!(jF ls d pos k)⟩ (.sl idC (vC+k) 8 0 (yN ls d pos k).length) ds:=by rw[hS1,q11,hcl]
   have hS1c:S1 idC=.cells (vC+k) 87 ((yN ls d pos k).flatMap Enc.enc):=by rw[hS1,q10 _ _ _ _ (Ne.symm hne),xc]
   have hl':l'.length<=1048576/\∀u∈l',u.length<=1048576:=by
    rw[hline]at hla;exact⟨by have:=hla.1;simp at this;omega,λu hu=>hla.2 u (by simp[hu])⟩
   have htl:List.take l'.length ((l'.map bs).flatMap Enc.enc)=(l'.map bs).flatMap Enc.enc:=Ae (by rw[Zb3,List.length_map];exact Af _);have hLL:L (l'.map bs)=.lst l'.length ((l'.map bs).flatMap Enc.enc):=by unfold L;rw[List.length_map]
   have hset1:∀r' cs',S1.set id (yg ver ls r' cs' ds)=(S.set id (yg ver ls r' cs' ds)).set idC (.cells (vC+k) 87 ((yN ls d pos k).flatMap Enc.enc)):=λr' cs'=>by rw[hS1,Store.set_set,hform]
   have hset2:∀r' cs' oC,(S1.set id (yg ver ls r' cs' ds)).set idC oC=(S.set id (yg ver ls r' cs' ds)).set idC oC:=λr' cs' oC=>by rw[hset1,Store.set_set]
   obtain⟨zf,hzf⟩:∃z,Program.zeroOf prog 201=some z:=BV.1 DE;have q1:w≠jR->(bs w == ⟨#[118,105,115,105,116]⟩)=false:=λh=>Zhq λhh=>h (Qf.1 hh)
   have q2:w≠xg->(bs w == ⟨#[116,97,110,107]⟩)=false:=λh=>Zhq λhh=>h (Qf.1 hh)
   by_cases hv:w=jR
   ·have hf:qT .string (.string (bs w)) (J1 id ver) 0=some (some (0,.fn (.func 142) [.ptr id ver 0] [])):=by rw[hv];rfl
    refine DK ?_;refine λhsuf=>uW rfl underlying202 underlying9 rfl rfl rfl hm0 hf hzf ?_
    refine⟨_,_,rfl,?_⟩;have hlk:Zs true zf (some (0,.fn (.func 142) [.ptr id ver 0] []))=.tup [.fn (.func 142) [.ptr id ver 0] [],B true]:=rfl;refine jy [] hlk hsuf ?_;have hvis:=λS (h1:S id=_) (h2:S idC=_)=>ZqX (S:=S) (id:=id) (ver:=ver) (idC:=idC) (vC:=vC+k) ls ⟨pos+k+1,d,v,c,ln,n,!(jF ls d pos k)⟩ (yN ls d pos k) ds l' h1 h2 (by rw[hcl];omega) hl'
    have hcz:qk d (zK ls (pos+k))=ZR d l':=by rw[hline];exact if_pos hv
    simp only[hLL]at hvis;cases hvz:ZR d l' with
    | none =>
     have hof:=hbad (by rw[hcz,hvz]);rw[hvz]at hvis;simp only at hvis;refine ze (zi [(2,34)] htl ?_);refine λhsuf=>((hvis _ ((zE hlt).trans hS1i) ((zE hltC).trans hS1c)).mono ?_).v
     rintro _ _ ⟨rfl,b,rfl⟩;refine⟨_,_,yZ _ hlt,jy [(2,34)] trivial hsuf ?_⟩;refine zo DC ?_;refine DK ?_;refine zj ⟨_,_,by simp;rfl,by rw[hof];simp only[AP,if_false];exact⟨by simp[zq],_,_,_,hset1 _ _⟩,zU (qw hd1 hlt _)⟩
    | some cc =>
     obtain⟨cu1,ok1⟩:=cc;rw[hvz]at hvis;simp only at hvis;refine ze (zi [(2,34)] htl ?_);refine λhsuf=>((hvis _ ((zE hlt).trans hS1i) ((zE hltC).trans hS1c)).mono ?_).v
     rintro _ _ ⟨rfl,rfl⟩;refine⟨_,_,by rw[yZ _ hlt,yZ _ hltC],jy [(2,34)] trivial hsuf ?_⟩;refine zp DC ?_;refine zk (zg ?_);have hcv:xu d (zK ls (pos+k))=(cu1,ok1):=by unfold xu;rw[hcz,hvz];rfl
     have hst:St (k+1)=(S1.set id (yg ver ls ⟨pos+k+1,d,v,c,ln,n,!(jF ls d pos k) || !ok1⟩ (.sl idC (vC+k+1) 8 0 ((yN ls d pos k).length+1)) ds)).set idC (.cells (vC+k+1) 87 ((yN ls d pos k++[cu1]).flatMap Enc.enc)):=by
      rw[hset2,hSt,Zhr,ZcC,hcv,hcl,Bool.not_and];rfl
     exact zv (k+1) [] ⟨hkn,hp1,λl hlm=>by
      rw[Qg,AG]at hlm;rcases hlm with q | q
      ·exact hall l q
      ·obtain rfl:l=zK ls (pos+k):=by simpa using q
       rw[hcz,hvz];rfl⟩ DB (by simp[zA k (by omega)]) (hst.trans (by rw[Al];rfl)) rfl
   ·by_cases hk:w=xg
    ·have hf:qT .string (.string (bs w)) (J1 id ver) 0=some (some (1,.fn (.func 143) [.ptr id ver 0] [])):=by rw[hk];rfl
     refine DK ?_;refine λhsuf=>uW rfl underlying202 underlying9 rfl rfl rfl hm0 hf hzf ?_
     refine⟨_,_,rfl,?_⟩;have hlk:Zs true zf (some (1,.fn (.func 143) [.ptr id ver 0] []))=.tup [.fn (.func 143) [.ptr id ver 0] [],B true]:=rfl;refine jy [] hlk hsuf ?_;have htan:=λS (h1:S id=_) (h2:S idC=_)=>ZqY (S:=S) (id:=id) (ver:=ver) (idC:=idC) (vC:=vC+k) ls ⟨pos+k+1,d,v,c,ln,n,!(jF ls d pos k)⟩ (yN ls d pos k) ds l' h1 h2 (by rw[hcl];omega) hl'
     have hcz:qk d (zK ls (pos+k))=(ux l').map (·,true):=by rw[hline];exact(if_neg hv).trans (if_pos hk)
     simp only[hLL]at htan;cases hvz:ux l' with
     | none =>
      have hof:=hbad (by rw[hcz,hvz];rfl);rw[hvz]at htan;simp only at htan;refine ze (zi [(2,34)] htl ?_);refine λhsuf=>((htan _ ((zE hlt).trans hS1i) ((zE hltC).trans hS1c)).mono ?_).v
      rintro _ _ ⟨rfl,rfl⟩;refine⟨_,_,rfl,jy [(2,34)] trivial hsuf ?_⟩;refine zo DC ?_;refine DK ?_;refine zj ⟨_,_,by simp;rfl,by rw[hof];simp only[AP,if_false];exact⟨by simp[zq],_,_,_,by rw[hS1];exact hform k _ _⟩,zU hd1⟩
     | some cu1 =>
      rw[hvz]at htan;simp only at htan;refine ze (zi [(2,34)] htl ?_);refine λhsuf=>((htan _ ((zE hlt).trans hS1i) ((zE hltC).trans hS1c)).mono ?_).v
      rintro _ _ ⟨rfl,rfl⟩;refine⟨_,_,by rw[yZ _ hlt,yZ _ hltC],jy [(2,34)] trivial hsuf ?_⟩;refine zp DC ?_;refine zk (zg ?_);have hcv:xu d (zK ls (pos+k))=(cu1,true):=by unfold xu;rw[hcz,hvz];rfl
      have hst:St (k+1)=(S1.set id (yg ver ls ⟨pos+k+1,d,v,c,ln,n,!(jF ls d pos k)⟩ (.sl idC (vC+k+1) 8 0 ((yN ls d pos k).length+1)) ds)).set idC (.cells (vC+k+1) 87 ((yN ls d pos k++[cu1]).flatMap Enc.enc)):=by
       rw[hset2,hSt,Zhr,ZcC,hcv,hcl,CR];rfl
      exact zv (k+1) [] ⟨hkn,hp1,λl hlm=>by
       rw[Qg,AG]at hlm;rcases hlm with q | q
       ·exact hall l q
       ·obtain rfl:l=zK ls (pos+k):=by simpa using q
        rw[hcz,hvz];rfl⟩ DB (by simp[zA k (by omega)]) (hst.trans (by rw[Al];rfl)) rfl
    ·have hf:qT .string (.string (bs w)) (J1 id ver) 0=some none:=by
      simp[qT,Instr.sameNow,q1 hv,q2 hk]
     have hcz:qk d (zK ls (pos+k))=none:=by rw[hline];exact(if_neg hv).trans (if_neg hk)
     have hof:=hbad hcz;refine DK ?_;refine λhsuf=>uW rfl underlying202 underlying9 rfl rfl rfl hm0 hf hzf ?_
     refine⟨_,_,rfl,?_⟩;have hlk:Zs true zf none=.tup [YH zf,B false]:=rfl;refine jy [] hlk hsuf ?_;refine ze (zi [(2,34)] zy ?_);refine zo DC ?_;refine DK ?_;refine zj ⟨_,_,by simp;rfl,by rw[hof];simp only[AP,if_false];exact⟨by simp[zq],_,_,_,by rw[hS1];exact hform k _ _⟩,zU hd1⟩
 ·simp at hc;obtain rfl:k=n:=DB
  have hot:o=true:=by rw[ho,Az];exact hall
  refine zC (DK ?_);refine zj ⟨_,_,by simp;rfl,by rw[hot];simp only[if_true];exact⟨by simp[zq],hpk,hSt _⟩,zU (hdS _)⟩
def qD(ls:List Ln)(p k:Nat):List (List Int):=(yu ls p k).map λl=>l.map yl
theorem Zhs(ls:List Ln)(p k:Nat):qD ls p (k+1)=qD ls p k++[(zK ls (p+k)).map yl]:=by simp[qD,Qg]
theorem VZ(ls:List Ln)(p k:Nat):(qD ls p k).length=k:=by simp[qD,VW]
theorem Zra{S:Store}{id ver idD vD:Nat}(ls:List Ln)(r:Rdr)(n:Nat)(cs:PV)(hS:S id=yg ver ls r cs (.sl idD vD 1 0 0))(hD:S idD=.cells vD 26 [])(hl:LnsOk ls)(hm:r.m=n)(hn:n<=1048576)(hp:r.pos<=ls.length):
  Spec prog 106 [.ptr id ver 0] S (λq S'=>if zK ls r.pos=[xR]/\(yu ls (r.pos+1) (n+1)).all (jE (n+1))=true then
    q=B true/\r.pos+1+(n+1)<=ls.length/\S'=(S.set id (yg ver ls { r with pos:=r.pos+1+(n+1) } cs (.sl idD (vD+(n+1)) 1 0 (n+1)))).set idD (.cells (vD+(n+1)) 26 ((qD ls (r.pos+1) (n+1)).flatMap Enc.enc))
   else q=B false/\∃r' ds' oD,S'=(S.set id (yg ver ls r' cs ds')).set idD oD):=by
 have hne:id≠idD:=by rintro rfl;rw[hS]at hD;simp at hD
 obtain⟨pos,d,v,c,ln,m,bad⟩:=r;simp only at hm hp ⊢;subst hm;obtain⟨o,ho⟩:∃o:Bool,o=(decide (zK ls pos=[xR]) && (yu ls (pos+1) (n+1)).all (jE (n+1))):=⟨_,rfl⟩;have hiff:(zK ls pos=[xR]/\(yu ls (pos+1) (n+1)).all (jE (n+1))=true)<->o=true:=by rw[ho,Ao,decide_eq_true_eq]
 simp only[hiff];obtain⟨St,hSt⟩:∃St:Nat->Store,∀k,St k=(S.set id (yg ver ls ⟨pos+1+k,d,v,c,ln,n,bad⟩ cs (.sl idD (vD+k) 1 0 k))).set idD (.cells (vD+k) 26 ((qD ls (pos+1) k).flatMap Enc.enc)):=⟨_,λ_=>rfl⟩;have hnext0:=λS (h:S id=_)=>XZ (S:=S) (id:=id) (ver:=ver) ls ⟨pos,d,v,c,ln,n,bad⟩ cs (.sl idD vD 1 0 0) h hl.1
 have heq:=Zhg (zK ls pos) [xR] (hl.at pos).1 DC;obtain⟨S1,hS1⟩:∃S1,S1=S.set id (yg ver ls (yT ls ⟨pos,d,v,c,ln,n,bad⟩) cs (.sl idD vD 1 0 0)):=⟨_,rfl⟩;have hS1d:S1 idD=.cells vD 26 []:=by rw[hS1,q10 _ _ _ _ (Ne.symm hne),hD]
 refine yi func106 ntmps106 results106 λnx hd=>?_
 have hlt:id<nx:=qC hd hS DC;have hltD:idD<nx:=qC hd hD DC;have g1:¬nx<=id:=DB
 have g2:¬nx<=idD:=DB
 have hd1:zX nx S1:=by rw[hS1];exact qw hd hlt _
 have hdS:∀k,zX nx (St k):=λk=>by rw[hSt];exact qw (qw hd hlt _) hltD _
 simp only at hnext0;refine DK ?_
 repeat apply ze
 refine zg ?_;refine λhsuf=>((hnext0 _ ((zE hlt).trans hS)).mono ?_).v
 rintro _ _ ⟨rfl,rfl⟩;refine⟨S1,[],by rw[yZ _ hlt,<-hS1],zQ hsuf ?_⟩;refine λhsuf=>((heq _).mono ?_).v
 rintro _ _ ⟨rfl,rfl⟩;refine⟨_,_,rfl,zQ hsuf ?_⟩
 by_cases hw:zK ls pos=[xR]
 ·have hp1:pos<ls.length:=by
   apply Di;intro hh;unfold zK at hw;rw[Aa,Ak hh]at hw;cases hw
  have hnk:yT ls ⟨pos,d,v,c,ln,n,bad⟩=⟨pos+1,d,v,c,ln,n,bad⟩:=if_pos hp1;rw[hnk]at hS1;have hS10:St 0=S1:=by
   rw[hSt,hS1];refine ZU _ idD _ ?_;rw[q10 _ _ _ _ (Ne.symm hne),hD];rfl
  have x1:∀obs,ext S1 nx obs id=yg ver ls ⟨pos+1,d,v,c,ln,n,bad⟩ cs (.sl idD vD 1 0 0):=λobs=>by rw[zE hlt,hS1,q11]
  have xi:∀k,St k id=yg ver ls ⟨pos+1+k,d,v,c,ln,n,bad⟩ cs (.sl idD (vD+k) 1 0 k):=λk=>by rw[hSt,q10 _ _ _ _ hne,q11]
  have xd:∀k,St k idD=.cells (vD+k) 26 ((qD ls (pos+1) k).flatMap Enc.enc):=λk=>by rw[hSt,q11]
  have wn:IntKind.i64.wrap ((n:Int)+1)=(n:Int)+1:=by rw[Ay];omega
  refine zp (by simp[hw]) ?_;refine zk ?_
  repeat apply ze
  refine zi [] (zt x1 wn) ?_;refine zn (jo (λk:Nat=>k<=n+1/\pos+1+k<=ls.length/\∀l∈yu ls (pos+1) k,jE (n+1) l=true) (λk=>[(0,.ptr id ver 0),(14,I ((n:Int)+1)),(15,I k)]) St (λ_=>[]) (λk=>n+1-k) (zT 0 [] ⟨by simp,by omega,by simp[yu]⟩ DC hS10 rfl) ?_);rintro k ⟨hk,hpk,hall⟩;refine DK ?_
  by_cases hkn:k<n+1
  ·have hki:(k:Int)<(n:Int)+1:=DB
   have hnext:=λS (h:S id=_)=>XZ (S:=S) (id:=id) (ver:=ver) ls ⟨pos+1+k,d,v,c,ln,n,bad⟩ cs (.sl idD (vD+k) 1 0 k) h hl.1
   have hla:=hl.at (pos+1+k);have hnum:=Zcu (zK ls (pos+1+k)) hla.1 (λw hw=>by have:=hla.2 w hw;omega);obtain⟨S2,hS2⟩:∃S2,S2=(St k).set id (yg ver ls (yT ls ⟨pos+1+k,d,v,c,ln,n,bad⟩) cs (.sl idD (vD+k) 1 0 k)):=⟨_,rfl⟩;have hd2:zX nx S2:=by rw[hS2];exact qw (hdS k) hlt _
   have hform:∀r' ds',(St k).set id (yg ver ls r' cs ds')=(S.set id (yg ver ls r' cs ds')).set idD (.cells (vD+k) 26 ((qD ls (pos+1) k).flatMap Enc.enc)):=λr' ds'=>by
    rw[hSt,Store.set_comm _ idD id _ _ hne,Store.set_set]
   have hbad:jE (n+1) (zK ls (pos+1+k))=false->o=false:=λq=>by rw[ho,VX hkn q,Cr]
   simp only at hnext;refine ze (zo DF ?_);refine zk (ze (zn ?_));obtain⟨p2,hr2⟩:∃p2,yT ls ⟨pos+1+k,d,v,c,ln,n,bad⟩=⟨p2,d,v,c,ln,n,bad⟩:=by
    unfold yT;split
    ·exact⟨_,rfl⟩
    ·exact⟨_,rfl⟩
   have hp2:pos+1+k<ls.length->p2=pos+1+k+1:=λh=>by
    unfold yT at hr2;rw[if_pos h]at hr2;exact(congrArg Rdr.pos hr2).symm
   rw[hr2]at hS2 hnext;have x2:∀obs,ext S2 nx obs id=yg ver ls ⟨p2,d,v,c,ln,n,bad⟩ cs (.sl idD (vD+k) 1 0 k):=λobs=>by rw[zE hlt,hS2,q11]
   cases hz:yB (zK ls (pos+1+k)) with
   | none =>
    have hof:=hbad (by unfold jE;rw[hz];rfl);rw[hz]at hnum;simp only[qY]at hnum;refine DK ?_;refine λhsuf=>((hnext _ ((zE hlt).trans (xi k))).mono ?_).v
    rintro _ _ ⟨rfl,rfl⟩;refine⟨S2,_,by rw[yZ _ hlt,<-hS2],zQ hsuf ?_⟩;refine λhsuf=>((hnum _).mono ?_).v
    rintro _ _ ⟨rfl,rfl⟩;refine⟨_,_,rfl,zQ hsuf ?_⟩
    repeat apply ze
    refine zi [(2,25)] zy ?_;refine zo DC ?_;refine DK ?_;refine zj ⟨_,_,by simp;rfl,by rw[hof];simp only[AP,if_false];exact⟨by simp[zq],_,_,_,by rw[hS2];exact hform _ _⟩,zU hd2⟩
   | some z =>
    have hzl:=Zcs hz;rw[hz]at hnum;simp only[qY]at hnum;refine DK ?_;refine λhsuf=>((hnext _ ((zE hlt).trans (xi k))).mono ?_).v
    rintro _ _ ⟨rfl,rfl⟩;refine⟨S2,_,by rw[yZ _ hlt,<-hS2],zQ hsuf ?_⟩;refine λhsuf=>((hnum _).mono ?_).v
    rintro _ _ ⟨rfl,rfl⟩;refine⟨_,_,rfl,zQ hsuf ?_⟩
    by_cases hlen:z.length=n+1
    ·have hll:(z.length:Int)=(n:Int)+1:=DB
     repeat apply ze
     refine zi [(2,25)] (zF x2 wn hll) ?_;refine zp DC ?_;refine zk ?_;have hll2:(zK ls (pos+1+k)).length=n+1:=by rw[<-hzl];exact hlen
     have hpl:pos+1+k<ls.length:=by
      apply Di;intro hh;unfold zK at hll2;rw[Aa,Ak hh]at hll2;simp at hll2
     obtain rfl:=hp2 hpl;have hzv:z=(zK ls (pos+1+k)).map yl:=by
      unfold yB at hz;split at hz<;>cases hz;rfl
     have hdl:=VZ ls (pos+1) k;have hfl:((qD ls (pos+1) k).flatMap Enc.enc).length=k:=by rw[jI,hdl]
     have htk:List.take k ((qD ls (pos+1) k).flatMap Enc.enc)=(qD ls (pos+1) k).flatMap Enc.enc:=Ae (by rw[hfl];exact Af _);have xd2:∀obs,ext S2 nx obs idD=.cells (vD+k) 26 ((qD ls (pos+1) k).flatMap Enc.enc):=λobs=>by rw[zE hltD,hS2,q10 _ _ _ _ (Ne.symm hne),xd]
     have x3:∀A obs,ext (S2.set idD A) nx obs id=yg ver ls ⟨pos+1+k+1,d,v,c,ln,n,bad⟩ cs (.sl idD (vD+k) 1 0 k):=λA obs=>by rw[zE hlt,q10 _ _ _ _ hne,hS2,q11]
     have hkb:k<=1048576:=DB
     clear hfl;refine zi [] (zS x2 xd2 x3 g1 g2 htk) ?_;refine⟨by omega,?_⟩;have hst:St (k+1)=(S2.set idD (.cells (vD+k+1) 26 ((qD ls (pos+1) k).flatMap Enc.enc++[L z]))).set id (.cells ver 164 [L (wl ls),I ((pos:Int)+1+k+1),I d,I v,I c,I ln,cs,.sl idD (vD+k+1) 1 0 (k+1),I n,B bad]):=by
      have e:(.cells ver 164 [L (wl ls),I ((pos:Int)+1+k+1),I d,I v,I c,I ln,cs,.sl idD (vD+k+1) 1 0 (k+1),I n,B bad]:Ob)=yg ver ls ⟨pos+1+k+1,d,v,c,ln,n,bad⟩ cs (.sl idD (vD+k+1) 1 0 (k+1)):=rfl;rw[e,hS2,Store.set_comm _ idD id _ _ hne,Store.set_set,hform,Store.set_set,hSt,Zhs,Al,<-hzv];rfl
     rw[<-hst];refine zg ?_;exact zv (k+1) [] ⟨hkn,hpl,λl hlm=>by
      rw[Qg,AG]at hlm;rcases hlm with q | q
      ·exact hall l q
      ·obtain rfl:l=zK ls (pos+1+k):=by simpa using q
       unfold jE;rw[hz,decide_eq_true hll2];rfl⟩ DB (by simp[zA k (by omega)]) rfl rfl
    ·have hll:¬(z.length:Int)=(n:Int)+1:=DB
     have hof:=hbad (by unfold jE;rw[hz,<-hzl,decide_eq_false hlen];rfl)
     repeat apply ze
     refine zi [(2,25)] (zF x2 wn hll) ?_;refine zo DC ?_;refine DK ?_;refine zj ⟨_,_,by simp;rfl,by rw[hof];simp only[AP,if_false];exact⟨by simp[zq],_,_,_,by rw[hS2];exact hform _ _⟩,zU hd2⟩
  ·obtain rfl:k=n+1:=DB
   have hot:o=true:=by rw[ho,decide_eq_true hw,Az.2 hall];rfl
   refine ze (zp DC ?_);refine zC (DK ?_);refine zj ⟨_,_,by simp;rfl,by rw[hot];simp only[if_true];exact⟨by simp[zq],hpk,hSt _⟩,zU (hdS _)⟩
 ·have hof:o=false:=by rw[ho,decide_eq_false hw,Cn]
  refine zo (by simp[hw]) ?_;refine DK ?_;refine zj ⟨_,_,by simp;rfl,by rw[hof];simp only[AP,if_false];exact⟨by simp[zq],_,_,_,(by rw[<-hS1];exact(ZU S1 idD _ hS1d).symm)⟩,zU hd1⟩
open Go Go.Proofs
abbrev V1:=Rdr × List Cust × List (List Int)
def r0:Rdr:=⟨0,0,0,0,0,0,false⟩
def wh(ls:List Ln)(k:Nat)(x:V1):Option V1:=match k with
 | 0=>if zK ls x.1.pos=[wd,[49]] then some (yT ls x.1,x.2) else none
 | 1=>match qi (zK ls x.1.pos) [jM,jN,jO,jP] with
  | some [d,v,c,l]=>some ({ yT ls x.1 with d:=d,v:=v,c:=c,l:=l },x.2)
  | _=>none
 | 2=>match qi (zK ls x.1.pos) [jQ] with
  | some [m]=>some ({ yT ls x.1 with m:=m },x.2)
  | _=>none
 | 3=>if (yu ls x.1.pos x.1.m.toNat).all (λl=>(qk x.1.d l).isSome)=true then some ({ x.1 with pos:=x.1.pos+x.1.m.toNat,bad:=!(jF ls x.1.d x.1.pos x.1.m.toNat) },yN ls x.1.d x.1.pos x.1.m.toNat,x.2.2) else none
 | 4=>if zK ls x.1.pos=[xR]/\(yu ls (x.1.pos+1) (x.1.m.toNat+1)).all (jE (x.1.m.toNat+1))=true then some ({ x.1 with pos:=x.1.pos+1+(x.1.m.toNat+1) },x.2.1,qD ls (x.1.pos+1) (x.1.m.toNat+1)) else none
 | 5=>if x.1.pos=ls.length then some x else none
 | _=>some x
def yF(ls:List Ln):Nat->Option V1
 | 0=>some (r0,[],[])
 | k+1=>(yF ls k).bind (wh ls k)
theorem J2{ls:List Ln}{r:Rdr}(h:zK ls r.pos≠[]):yT ls r={ r with pos:=r.pos+1 }/\r.pos+1<=ls.length:=by
 by_cases hp:r.pos<ls.length
 ·exact⟨if_pos hp,hp⟩
 simp_all[zK]
theorem V2{l:Ln}{names:Ln}{z:List Int}(h:qi l names=some z)(hn:names≠[]):l≠[]:=by grind[qi,vw]
theorem ZcD(w:Wd):0<=yl w:=by simp[yl]
theorem Zht{l names:Ln}{z:List Int}(h:qi l names=some z):∀x∈z,0<=x:=by
 unfold qi yB at h;split at h
 ·split at h
  ·cases h;simp[ZcD]
  ·cases h
 ·cases h
theorem Zrb(ls:List Ln):vU ls=(yF ls 6).map λx=>(⟨x.1.d,x.1.v,x.1.c,x.1.l,x.2.1,x.2.2⟩,!x.1.bad):=by
 unfold vU
 by_cases h0:zK ls 0=[wd,[49]]
 ·obtain⟨p0,q0⟩:=J2 (ls:=ls) (r:=r0) (by show zK ls 0≠[];rw[h0];simp);have s1:yF ls 1=some (⟨1,0,0,0,0,0,false⟩,[],[]):=by
   show (if zK ls r0.pos=[wd,[49]] then some (yT ls r0,_) else none)=_
   rw[p0];exact if_pos h0
  rw[if_pos h0];cases h1:qi (zK ls 1) [jM,jN,jO,jP] with
  | none =>
   simp_all[yF,wh]
  | some z =>
   obtain⟨d,v,c,l,rfl⟩:∃d v c l,z=[d,v,c,l]:=by
    have:=J0 h1
    match z,this with
    | [d,v,c,l],_=>simp
   obtain⟨p1,q1⟩:=J2 (ls:=ls) (r:=⟨1,0,0,0,0,0,false⟩) (V2 h1 DC);have s2:yF ls 2=some (⟨2,d,v,c,l,0,false⟩,[],[]):=by
    show (yF ls 1).bind (wh ls 1)=_
    rw[s1]
    show (match qi (zK ls 1) _ with | some [d,v,c,l]=>some ({ yT ls _ with d:=d,v:=v,c:=c,l:=l },_) | _=>none)=_
    rw[h1,p1]
   simp only[];cases h2:qi (zK ls 2) [jQ] with
   | none =>
    simp_all[yF,wh]
   | some z2 =>
    obtain⟨m,rfl⟩:∃m,z2=[m]:=by
     have:=J0 h2
     match z2,this with
     | [m],_=>simp
    obtain⟨p2,q2⟩:=J2 (ls:=ls) (r:=⟨2,d,v,c,l,0,false⟩) (V2 h2 DC);have s3:yF ls 3=some (⟨3,d,v,c,l,m,false⟩,[],[]):=by
     show (yF ls 2).bind (wh ls 2)=_
     rw[s2]
     show (match qi (zK ls 2) _ with | some [m]=>some ({ yT ls _ with m:=m },_) | _=>none)=_
     rw[h2,p2]
    simp only[]
    by_cases h3:(yu ls 3 m.toNat).all (λl=>(qk d l).isSome)=true
    ·have s4:yF ls 4=some (⟨3+m.toNat,d,v,c,l,m,!(jF ls d 3 m.toNat)⟩,yN ls d 3 m.toNat,[]):=by
      show (yF ls 3).bind (wh ls 3)=_
      rw[s3];exact if_pos h3
     by_cases h4:zK ls (3+m.toNat)=[xR]/\(yu ls (4+m.toNat) (m.toNat+1)).all (jE (m.toNat+1))=true
     ·have e4:3+m.toNat+1=4+m.toNat:=DB
      have s5:yF ls 5=some (⟨4+m.toNat+(m.toNat+1),d,v,c,l,m,!(jF ls d 3 m.toNat)⟩,yN ls d 3 m.toNat,qD ls (4+m.toNat) (m.toNat+1)):=by
       show (yF ls 4).bind (wh ls 4)=_
       rw[s4]
       show (if zK ls (3+m.toNat)=[xR]/\(yu ls (3+m.toNat+1) (m.toNat+1)).all (jE (m.toNat+1))=true then some ((⟨3+m.toNat+1+(m.toNat+1),d,v,c,l,m,!(jF ls d 3 m.toNat)⟩:Rdr),yN ls d 3 m.toNat,qD ls (3+m.toNat+1) (m.toNat+1)) else none)=_
       rw[e4];exact if_pos h4
      by_cases h5:ls.length=5+2*m.toNat
      ·have s6:yF ls 6=some (⟨4+m.toNat+(m.toNat+1),d,v,c,l,m,!(jF ls d 3 m.toNat)⟩,yN ls d 3 m.toNat,qD ls (4+m.toNat) (m.toNat+1)):=by
        show (yF ls 5).bind (wh ls 5)=_
        rw[s5];exact if_pos DI
       rw[if_pos ⟨h3,h4.1,h4.2,h5⟩,s6];simp only[A5,Bool.not_not];rfl
      ·have s6:yF ls 6=none:=by
        show (yF ls 5).bind (wh ls 5)=_
        rw[s5];exact if_neg (by show ¬4+m.toNat+(m.toNat+1)=ls.length;omega)
       simp_all
     ·have s5:yF ls 5=none:=by
       show (yF ls 4).bind (wh ls 4)=_
       rw[s4];exact if_neg (by show ¬(zK ls (3+m.toNat)=_/\(yu ls (3+m.toNat+1) _).all _=true);rw[show 3+m.toNat+1=4+m.toNat by omega];exact h4)
      have s6:yF ls 6=none:=by
       show (yF ls 5).bind _=none
       rw[s5];rfl
      grind
    ·have s4:yF ls 4=none:=by
      show (yF ls 3).bind (wh ls 3)=_
      rw[s3];exact if_neg h3
     have s6:yF ls 6=none:=by
      show ((yF ls 4).bind _).bind _=none
      rw[s4];rfl
     grind
 ·have s1:yF ls 1=none:=by
   show (if zK ls r0.pos=[wd,[49]] then some (yT ls r0,_) else none)=_
   exact if_neg h0
  simp_all[yF]
theorem Zrc{l:Ln}{w:Wd}(h:w∈l):w.length<=(jm l).length:=by
 rw[VR];have:w.length<=(l.map List.length).sum:=by
  induction l with
  | nil=>cases h
  | cons a l ih =>
   grind
 omega
theorem Zrd{ls:List Ln}{l:Ln}(h:l∈ls):(jm l).length+1<=(JQ ls).length:=by induction ls<;>grind[Zb6]
theorem Zre(ls:List Ln):ls.length<=(JQ ls).length:=by induction ls<;>grind[Zb6]
theorem ZcE{t:List UInt8}{ls:List Ln}(h:qJ t=some ls)(hl:t.length<=1048576):LnsOk ls:=by
 obtain⟨h1,_,_⟩:=Zgr t.length (Af _) h;refine⟨by grind[Zre],λl hm=>?_⟩;have h2:=Zrd hm;rw[h1]at h2;exact⟨by grind[VR],λw hw=>by have:=Zrc hw;omega⟩
theorem Q0(w:Wd):zW (yl w):=by
 have h0:=ZcD w;unfold yl at h0 ⊢;cases h:yX w with
 | none=>exact⟨by simp,by simp⟩
 | some n =>
  have:=Zgt h
  show -9223372036854775808<=(n:Int)/\(n:Int)<=9223372036854775807
  omega
theorem Zrf{l names:Ln}{z:List Int}(h:qi l names=some z):∀x∈z,zW x:=by grind[qi,yB,Q0]
theorem Zrg(w:Wd):qj w<2 ^ 64:=by grind[qj,XX]
theorem Zrh{d:Int}{l:Ln}{x:Cust × Bool}(h:qk d l=some x)(hl:l.length<=1048576):CustOk x.1:=by
 have z0:zW 0:=⟨by decide,by decide⟩;have z1:zW 1:=⟨by decide,by decide⟩;have z2:zW 2:=⟨by decide,by decide⟩
 match l,h,hl with
 | w :: l',h,hl =>
 have h':(if w=jR then ZR d l' else if w=xg then (ux l').map (·,true) else none)=some x:=h;split at h'
 ·match l',h',hl with
  | dw :: ps,h',hl =>
  rw[VO]at h';split at h'
  ·cases h';refine⟨z1,Q0 dw,?_,?_,z0,z0,z0,z0,z0⟩
   ·intro p hp;obtain⟨u,_,rfl⟩:=Ar.1 hp;exact Zrg u
   ·show (ps.map qj).length<=_
    simp at hl ⊢;omega
  ·cases h'
 ·split at h'
  ·obtain⟨c,hc,rfl⟩:=Am.1 h'
   by_cases h5:l'.length=5
   ·obtain⟨a,b,e,ru,hh,rfl⟩:∃a b c d e,l'=[a,b,c,d,e]:=by
     match l',h5 with
     | [a,b,c,d,e],_=>exact⟨a,b,c,d,e,rfl⟩
    rw[Zct]at hc;split at hc
    ·cases hc;refine⟨z2,z0,by simp,by simp,Q0 _,Q0 _,Q0 _,?_,Q0 _⟩
     show zW (ZS ru)
     unfold ZS;split
     ·exact⟨by decide,by decide⟩
     ·exact⟨by decide,by decide⟩
    ·cases hc
   simp_all[Zhi]
  ·cases h'
theorem ZcF{ls:List Ln}{x:Inst}{b:Bool}(h:vU ls=some (x,b))(hl:LnsOk ls):InstOk x:=by
 unfold vU at h;split at h
 ·split at h
  ·rename_i d v c l h1;split at h
   ·rename_i m h2;split at h
    ·rename_i hh;obtain⟨e1,e2,e3,e4⟩:=hh;cases h;have q:=Zrf h1;have hmn:m.toNat<=1048576:=by have:=hl.1;omega
     refine⟨q d DC,q v DC,q c DC,q l DC,?_,?_,?_,?_⟩
     ·grind[VW]
     ·intro cu hcu;obtain⟨line,hm,rfl⟩:=Ar.1 hcu;have hs:=Az.1 e1 line hm;obtain⟨k,_,rfl⟩:=Ar.1 hm;obtain⟨y,hy⟩:=BV.1 hs;have:xu d (zK ls (3+k))=y:=by unfold xu;rw[hy];rfl
      rw[this];exact Zrh hy (hl.at _).1
     ·grind[VW]
     ·intro r hr;obtain⟨line,hm,rfl⟩:=Ar.1 hr;obtain⟨k,_,rfl⟩:=Ar.1 hm;refine⟨by have:=(hl.at (4+m.toNat+k)).1;simp;omega,λz hz=>?_⟩
      grind[Q0]
    ·cases h
   ·cases h
  ·cases h
 ·cases h
open Go Go.Proofs
theorem X2{ls:List Ln}{k:Nat}(h:yF ls k=none)(hk:k<=6):yF ls 6=none:=by
 have:∀j,yF ls (k+j)=none:=by
  intro j
  induction j with
  | zero=>exact h
  | succ j ih=>show (yF ls (k+j)).bind _=none;rw[ih];rfl
 have:=this (6-k)
 rwa[Nat.add_sub_cancel' hk]at this
def Zhu(ls:List Ln)(k:Nat)(x:V1):Prop :=
 x.1.pos<=ls.length/\(k<=3->x.2.1=[]/\x.1.bad=false)/\(k<=4->x.2.2=[])/\0<=x.1.m/\(k=4->x.1.m.toNat<=1048576)
theorem Zri(t:List UInt8)(hl:t.length<=1048576):Pure prog 65 [T (bs t)] (.tup [.agg (zD (z8 t).1),I (z8 t).2]):=by
 have hlines:=Zqk t hl;cases hz:qJ t with
 | none =>
  rw[hz]at hlines;simp only[Qe]at hlines;have hp:z8 t=(zI,2):=by unfold z8;rw[hz]
  rw[hp];refine zx func65 ntmps65 results65 λS nx hd=>?_
  refine DK ?_;intro v0;refine DK ?_;refine zu hlines ?_
  repeat apply ze
  refine zg ?_;refine zo DC ?_;refine DK ?_;refine yf 0 4 rfl rfl ?_;refine yf 0 5 rfl rfl ?_;exact zj (zm hd DD (by simp[zI,zq]))
 | some ls =>
  rw[hz]at hlines;simp only[Qe]at hlines;have hfit:=ZcE hz hl;have hp:z8 t=match vU ls with
   | none=>(zI,2)
   | some (x,ok)=>if ok=true/\yM x=true then (x,0) else (zI,3):=by unfold z8;rw[hz]<;>rfl
  have hrs:=Zrb ls;obtain⟨res,hres⟩:∃res,res=z8 t:=⟨_,rfl⟩;rw[<-hres];rw[<-hres]at hp;have hno:yF ls 6=none->res=(zI,2):=λh=>by rw[hp,hrs,h];rfl
  refine zx func65 ntmps65 results65 λS nx hd=>?_
  refine DK ?_;intro v0;refine DK ?_;refine zu hlines ?_
  repeat apply ze
  refine zg ?_;refine zp DC ?_;refine zk (DK ?_);intro v1;refine jd 1 6 87 8 rfl rfl λw0=>?_
  refine jd 1 7 26 1 rfl rfl λw1=>?_
  repeat apply ze
  refine zg ?_;refine zn (zJ (λs:Nat × Rdr × List Cust × List (List Int) × Nat × Nat=>s.1<=6/\yF ls s.1=some (s.2.1,s.2.2.1,s.2.2.2.1)/\Zhu ls s.1 (s.2.1,s.2.2.1,s.2.2.2.1)) (λ(k,r,cu,dd,vC,vD)=>[(2,.ptr nx v0 0),(6,.ptr (nx+1) v1 0),(32,.lst 6 [.fn (.func 102) [.ptr (nx+1) v1 0] [],.fn (.func 103) [.ptr (nx+1) v1 0] [],.fn (.func 104) [.ptr (nx+1) v1 0] [],.fn (.func 105) [.ptr (nx+1) v1 0] [],.fn (.func 106) [.ptr (nx+1) v1 0] [],.fn (.func 107) [.ptr (nx+1) v1 0] []]),(33,I 6),(34,I k)])
   (λ(k,r,cu,dd,vC,vD)=>[.cells v0 25 [I 0,I 0,I 0,I 0,yJ,yJ],yg v1 ls r (.sl (nx+2) vC 8 0 cu.length) (.sl (nx+3) vD 1 0 dd.length),.cells vC 87 (cu.flatMap Enc.enc),.cells vD 26 (dd.flatMap Enc.enc)]) (λs=>6-s.1) (0,r0,[],[],w0,w1) [] ⟨by simp,rfl,by simp[Zhu,r0]⟩ (by simp[yR]) (by simp[r0]) ?_)
  rintro⟨k,r,cu,dd,vC,vD⟩ ⟨hk,hst,m1,m2,m3,m4,m5⟩;simp only at hk hst m1 m2 m3 m4 m5 ⊢;refine DK ?_;refine ze (zz rfl (λhc=>?_) (λhc=>?_))
  ·simp at hc;refine zk (ze (zn ?_));obtain rfl | rfl | rfl | rfl | rfl | rfl:k=0\/k=1\/k=2\/k=3\/k=4\/k=5:=DB
   ·have hstep:yF ls 1=if zK ls r.pos=[wd,[49]] then some (yT ls r,cu,dd) else none:=by show (yF ls 0).bind (wh ls 0)=_;rw[hst];rfl
    refine DK ?_;refine DK ?_;refine λhsuf=>((ZqP ls r _ _ (by rw[z7];rfl) hfit).mono ?_).v
    rintro _ _ ⟨rfl,rfl⟩;refine⟨_,_,yh _ DB DC,zQ hsuf ?_⟩
    by_cases h:zK ls r.pos=[wd,[49]]
    ·rw[if_pos h]at hstep;obtain⟨n1,n2⟩:=J2 (ls:=ls) (r:=r) (by rw[h];simp);refine zp (by simp[h]) ?_;refine zk (zg ?_);exact zv (1,yT ls r,cu,dd,vC,vD) [] ⟨by omega,hstep,by rw[n1];exact⟨n2,λ_=>m2 DB,λ_=>m3 DB,m4,λh=>by omega⟩⟩ DB (by simp;try exact wr _ (by omega) (by omega)) rfl (by simp;try rfl)
    ·rw[if_neg h]at hstep;have hr:=hno (X2 hstep DB);refine zo (by simp[h]) ?_;refine DK ?_;refine yf 0 4 rfl rfl ?_;refine yf 0 5 rfl rfl ?_;exact zj (zm hd DD (by simp[zI,zq,hr]))
   ·have hstep:yF ls 2=match qi (zK ls r.pos) [jM,jN,jO,jP] with
     | some [d,v,c,l]=>some ({ yT ls r with d:=d,v:=v,c:=c,l:=l },cu,dd)
     | _=>none:=by show (yF ls 1).bind (wh ls 1)=_;rw[hst];rfl
    have hct:=λS (h:S (nx+1)=_)=>ZqQ (S:=S) (id:=nx+1) (ver:=v1) ls r (.sl (nx+2) vC 8 0 cu.length) (.sl (nx+3) vD 1 0 dd.length) h hfit
    cases h:qi (zK ls r.pos) [jM,jN,jO,jP] with
    | none =>
     rw[h]at hstep hct;simp only at hstep hct;have hr:=hno (X2 hstep DB);refine DK ?_;refine DK ?_;refine λhsuf=>((hct _ (by rw[z7];rfl)).mono ?_).v
     rintro _ _ ⟨rfl,rfl⟩;refine⟨_,_,yh _ DB DC,zQ hsuf ?_⟩;refine zo DC ?_;refine DK ?_;refine yf 0 4 rfl rfl ?_;refine yf 0 5 rfl rfl ?_;exact zj (zm hd DD (by simp[zI,zq,hr]))
    | some z =>
     obtain⟨d,v,c,l,rfl⟩:∃d v c l,z=[d,v,c,l]:=by
      have:=J0 h
      match z,this with
      | [d,v,c,l],_=>exact⟨d,v,c,l,rfl⟩
     obtain⟨n1,n2⟩:=J2 (ls:=ls) (r:=r) (V2 h DC);have hnn:=Zht h;rw[h]at hstep hct;simp only at hstep hct;refine DK ?_;refine DK ?_;refine λhsuf=>((hct _ (by rw[z7];rfl)).mono ?_).v
     rintro _ _ ⟨rfl,rfl⟩;refine⟨_,_,yh _ DB DC,zQ hsuf ?_⟩;refine zp DC ?_;refine zk (zg ?_);exact zv (2,{ yT ls r with d:=d,v:=v,c:=c,l:=l },cu,dd,vC,vD) [] ⟨by omega,hstep,by rw[n1];exact⟨n2,λ_=>m2 DB,λ_=>m3 DB,m4,λh=>by omega⟩⟩ DB (by simp;try exact wr _ (by omega) (by omega)) rfl (by simp;try rfl)
   ·have hstep:yF ls 3=match qi (zK ls r.pos) [jQ] with
     | some [m]=>some ({ yT ls r with m:=m },cu,dd)
     | _=>none:=by show (yF ls 2).bind (wh ls 2)=_;rw[hst];rfl
    have hct:=λS (h:S (nx+1)=_)=>ZqR (S:=S) (id:=nx+1) (ver:=v1) ls r (.sl (nx+2) vC 8 0 cu.length) (.sl (nx+3) vD 1 0 dd.length) h hfit
    cases h:qi (zK ls r.pos) [jQ] with
    | none =>
     rw[h]at hstep hct;simp only at hstep hct;have hr:=hno (X2 hstep DB);refine DK ?_;refine DK ?_;refine λhsuf=>((hct _ (by rw[z7];rfl)).mono ?_).v
     rintro _ _ ⟨rfl,rfl⟩;refine⟨_,_,yh _ DB DC,zQ hsuf ?_⟩;refine zo DC ?_;refine DK ?_;refine yf 0 4 rfl rfl ?_;refine yf 0 5 rfl rfl ?_;exact zj (zm hd DD (by simp[zI,zq,hr]))
    | some z =>
     obtain⟨m,rfl⟩:∃m,z=[m]:=by
      have:=J0 h
      match z,this with
      | [m],_=>exact⟨m,rfl⟩
     obtain⟨n1,n2⟩:=J2 (ls:=ls) (r:=r) (V2 h DC);have hnn:=Zht h;rw[h]at hstep hct;simp only at hstep hct;refine DK ?_;refine DK ?_;refine λhsuf=>((hct _ (by rw[z7];rfl)).mono ?_).v
     rintro _ _ ⟨rfl,rfl⟩;refine⟨_,_,yh _ DB DC,zQ hsuf ?_⟩;refine zp DC ?_;refine zk (zg ?_);exact zv (3,{ yT ls r with m:=m },cu,dd,vC,vD) [] ⟨by omega,hstep,by rw[n1];exact⟨n2,λ_=>m2 DB,λ_=>m3 DB,hnn m DC,λh=>by omega⟩⟩ DB (by simp;try exact wr _ (by omega) (by omega)) rfl (by simp;try rfl)
   ·obtain⟨rfl,hb⟩:=m2 DB;have hm:r.m=(r.m.toNat:Int):=DB
    have hstep:yF ls 4=if (yu ls r.pos r.m.toNat).all (λl=>(qk r.d l).isSome)=true then some ({ r with pos:=r.pos+r.m.toNat,bad:=!(jF ls r.d r.pos r.m.toNat) },yN ls r.d r.pos r.m.toNat,dd) else none:=by show (yF ls 3).bind (wh ls 3)=_;rw[hst];rfl
    have hct:=λS (h:S (nx+1)=_) (h2:S (nx+2)=_)=>Zq9 (S:=S) (id:=nx+1) (ver:=v1) (idC:=nx+2) (vC:=vC) ls r r.m.toNat (.sl (nx+3) vD 1 0 dd.length) h h2 hfit hm m1 hb
    by_cases h:(yu ls r.pos r.m.toNat).all (λl=>(qk r.d l).isSome)=true
    ·rw[if_pos h]at hstep;simp only[if_pos h]at hct;have hcl:=VY ls r.d r.pos r.m.toNat;refine DK ?_;refine DK ?_;refine λhsuf=>((hct _ (by rw[z7];rfl) (by rw[z7];rfl)).mono ?_).v
     rintro _ _ ⟨rfl,hpl,rfl⟩;refine⟨_,_,by rw[yh _ DB DC,yh _ DB DC],zQ hsuf ?_⟩;refine zp DC ?_;refine zk (zg ?_);exact zv (4,{ r with pos:=r.pos+r.m.toNat,bad:=!(jF ls r.d r.pos r.m.toNat) },yN ls r.d r.pos r.m.toNat,dd,vC+r.m.toNat,vD) [] ⟨by omega,hstep,hpl,λh=>by omega,λ_=>m3 DB,m4,λ_=>by have:=hfit.1;show r.m.toNat<=_;omega⟩ DB (by simp;try exact wr _ (by omega) (by omega)) rfl (by simp[hcl])
    ·rw[if_neg h]at hstep;have hr:=hno (X2 hstep DB);simp only[if_neg h]at hct;refine DK ?_;refine DK ?_;refine λhsuf=>((hct _ (by rw[z7];rfl) (by rw[z7];rfl)).mono ?_).v
     rintro _ _ ⟨rfl,r',cs',oC,rfl⟩;refine⟨_,_,by rw[yh _ DB DC,yh _ DB DC],zQ hsuf ?_⟩;refine zo DC ?_;refine DK ?_;refine yf 0 4 rfl rfl ?_;refine yf 0 5 rfl rfl ?_;exact zj (zm hd DD (by simp[zI,zq,hr]))
   ·obtain rfl:=m3 DB;have hm:r.m=(r.m.toNat:Int):=DB
    have hstep:yF ls 5=if zK ls r.pos=[xR]/\(yu ls (r.pos+1) (r.m.toNat+1)).all (jE (r.m.toNat+1))=true then some ({ r with pos:=r.pos+1+(r.m.toNat+1) },cu,qD ls (r.pos+1) (r.m.toNat+1)) else none:=by show (yF ls 4).bind (wh ls 4)=_;rw[hst];rfl
    have hct:=λS (h:S (nx+1)=_) (h2:S (nx+3)=_)=>Zra (S:=S) (id:=nx+1) (ver:=v1) (idD:=nx+3) (vD:=vD) ls r r.m.toNat (.sl (nx+2) vC 8 0 cu.length) h h2 hfit hm (m5 rfl) m1
    by_cases h:zK ls r.pos=[xR]/\(yu ls (r.pos+1) (r.m.toNat+1)).all (jE (r.m.toNat+1))=true
    ·rw[if_pos h]at hstep;simp only[if_pos h]at hct;have hdl:=VZ ls (r.pos+1) (r.m.toNat+1);refine DK ?_;refine DK ?_;refine λhsuf=>((hct _ (by rw[z7];rfl) (by rw[z7];rfl)).mono ?_).v
     rintro _ _ ⟨rfl,hpl,rfl⟩;refine⟨_,_,by rw[yh _ DB DC,yh _ DB DC],zQ hsuf ?_⟩;refine zp DC ?_;refine zk (zg ?_);exact zv (5,{ r with pos:=r.pos+1+(r.m.toNat+1) },cu,qD ls (r.pos+1) (r.m.toNat+1),vC,vD+(r.m.toNat+1)) [] ⟨by omega,hstep,hpl,λh=>by omega,λh=>by omega,m4,λh=>by omega⟩ DB (by simp;try exact wr _ (by omega) (by omega)) rfl (by simp[hdl])
    ·rw[if_neg h]at hstep;have hr:=hno (X2 hstep DB);simp only[if_neg h]at hct;refine DK ?_;refine DK ?_;refine λhsuf=>((hct _ (by rw[z7];rfl) (by rw[z7];rfl)).mono ?_).v
     rintro _ _ ⟨rfl,r',ds',oD,rfl⟩;refine⟨_,_,by rw[yh _ DB DC,yh _ DB DC],zQ hsuf ?_⟩;refine zo DC ?_;refine DK ?_;refine yf 0 4 rfl rfl ?_;refine yf 0 5 rfl rfl ?_;exact zj (zm hd DD (by simp[zI,zq,hr]))
   ·have hstep:yF ls 6=if r.pos=ls.length then some (r,cu,dd) else none:=by show (yF ls 5).bind (wh ls 5)=_;rw[hst];rfl
    refine DK ?_;refine DK ?_;refine λhsuf=>((ZqS ls r _ _ (by rw[z7];rfl)).mono ?_).v
    rintro _ _ ⟨rfl,rfl⟩;refine⟨_,_,rfl,zQ hsuf ?_⟩
    by_cases h:r.pos=ls.length
    ·rw[if_pos h]at hstep;refine zp (by simp[h]) ?_;refine zk (zg ?_);exact zv (6,r,cu,dd,vC,vD) [] ⟨by omega,hstep,m1,λh=>by omega,λh=>by omega,m4,λh=>by omega⟩ DB (by simp;try exact wr _ (by omega) (by omega)) rfl DC
    ·rw[if_neg h]at hstep;have hr:=hno hstep;refine zo (by simp[h]) ?_;refine DK ?_;refine yf 0 4 rfl rfl ?_;refine yf 0 5 rfl rfl ?_;exact zj (zm hd DD (by simp[zI,zq,hr]))
  ·simp at hc;obtain rfl:k=6:=DB
   have hread:vU ls=some (⟨r.d,r.v,r.c,r.l,cu,dd⟩,!r.bad):=by rw[hrs,hst];rfl
   have hiok:=ZcF hread hfit;have hmay:=Zf9 _ hiok;rw[hread]at hp;refine zC (yb 2 rfl ?_);refine yb 3 rfl ?_;obtain⟨pos,d,v,c,ln,m,bad⟩:=r;cases bad with
   | true =>
    have hr:res=(zI,3):=by rw[hp];exact if_neg DC
    repeat apply ze
    refine zi [(4,47)] zy ?_;refine zo DC ?_;refine DK ?_;refine yf 0 4 rfl rfl ?_;refine yf 0 5 rfl rfl ?_;exact zj (zm hd DD (by simp[zI,zq,hr]))
   | false =>
    by_cases hmy:yM ⟨d,v,c,ln,cu,dd⟩=true
    ·have hr:res=(⟨d,v,c,ln,cu,dd⟩,0):=by rw[hp];exact if_pos ⟨rfl,hmy⟩
     rw[if_pos hmy]at hmay
     repeat apply ze
     refine zi [(4,47)] trivial ?_;refine qP [(4,47)] hmay trivial ?_;refine zp DC ?_;refine zk (DK ?_);exact zj (zm hd DD (by simp[zq,hr]))
    ·have hr:res=(zI,3):=by rw[hp];exact if_neg (λh=>hmy h.2)
     rw[if_neg hmy]at hmay
     repeat apply ze
     refine zi [(4,47)] trivial ?_;refine qP [(4,47)] hmay trivial ?_;refine zo DC ?_;refine DK ?_;refine yf 0 4 rfl rfl ?_;refine yf 0 5 rfl rfl ?_;exact zj (zm hd DD (by simp[zI,zq,hr]))
open Go Go.Proofs Hp
theorem ZcG{α:Type}[Enc α](id v:Nat)(cs:List PV)(l:List (List α)):(l.flatMap Enc.enc).map (qp id v cs)=(l.flatMap Enc.enc:List PV):=by
 refine(Bd λp hp=>?_).trans (List.map_id _);obtain⟨t,_,ht⟩:=BY.1 hp;rw[Zjo,AZ]at ht;subst ht;rfl
theorem ZcH(p:zH)(hp:p.length<=1000)(hd0:∀d∈p,d.length<=1000)(ht:∀d∈p,∀t∈d,t.length<=1000){S:Store}{nx:Nat}(hd:zX nx S):
  Spec prog 180 [.agg [L p]] S (λq S'=>∃v,q=.agg [.sl (nx+3) v 1 0 p.length]/\S'=S.set (nx+3) (.cells v 39 (p.flatMap Enc.enc))):=by
 refine uE hd func180 ntmps180 results180 ?_;refine DK ?_;intro v0 v1;refine DK ?_;intro v2;refine jd 2 0 39 1 rfl rfl λv3=>?_
 repeat apply ze
 refine zg ?_;refine zn (zJ (λs:Nat × Nat=>s.1<=p.length) (λ(k,w)=>[(2,.ptr (nx+1) v1 0),(3,.ptr (nx+2) v2 0),(10,L p),(11,I p.length),(12,I k)]) (λ(k,w)=>[.cells v0 30 [L p],.cells v1 30 [yr],.cells v2 30 [.sl (nx+3) w 1 0 k],.cells w 39 ((p.take k).flatMap Enc.enc)]) (λs=>p.length-s.1) (0,v3) [] DC DC DC ?_);rintro⟨k,w⟩ hk;simp only at hk ⊢;refine DK ?_;refine ze (zz rfl (λhc=>?_) (λhc=>?_))
 ·simp at hc;obtain⟨d,tl,a1,a2,a3,e0⟩:=zL rfl p k hc;have hdm:=Ab a1;have hdl:=hd0 d hdm;have hk1:1<=p.length-k:=DB
  have htk:(p.take k).length=k:=by rw[As];omega
  generalize hpk:p.take k=pk at *;have hqf:(pk.flatMap Enc.enc:List PV).length=k:=(jI pk).trans htk;have hqt:(pk.flatMap Enc.enc:List PV).take k=pk.flatMap Enc.enc:=Ae DB;have hfp:∀id v cs,(pk.flatMap Enc.enc).map (qp id v cs)=(pk.flatMap Enc.enc:List PV):=λid v cs=>ZcG id v cs pk
  refine zk (ze (zn (ze (zi [] (zF hc e0 hk1) ?_))));intro v4;refine DK ?_;intro v5;refine jd 5 0 42 1 rfl rfl λv6=>?_
  repeat apply ze
  refine zg ?_;refine zn (zJ (λs:Nat × Nat=>s.1<=d.length) (λ(j,w6)=>[(2,.ptr (nx+1) v1 0),(3,.ptr (nx+2) v2 0),(6,.ptr (nx+5) v5 0),(10,L p),(11,I p.length),(12,I k),(17,L d),(18,I d.length),(19,I j)])
   (λ(j,w6)=>[.cells v0 30 [L p],.cells v1 30 [yr],.cells v2 30 [.sl (nx+3) w 1 0 k],.cells w 39 (pk.flatMap Enc.enc),.cells v4 39 [L d],.cells v5 39 [.sl (nx+6) w6 1 0 j],.cells w6 42 ((d.take j).flatMap Enc.enc)]) (λs=>d.length-s.1) (0,v6) [] DC DC DC ?_)
  rintro⟨j,w6⟩ hj;simp only at hj ⊢;refine DK ?_;refine ze (zz rfl (λhcj=>?_) (λhcj=>?_))
  ·simp at hcj;obtain⟨t,tl2,b1,b2,b3,f0⟩:=zL rfl d j hcj;have htl:=ht d hdm t (Ab b1);have hj1:1<=d.length-j:=DB
   have htj:(d.take j).length=j:=by rw[As];omega
   generalize hdj:d.take j=dj at *;have hrf:(dj.flatMap Enc.enc:List PV).length=j:=(jI dj).trans htj;have hrt:(dj.flatMap Enc.enc:List PV).take j=dj.flatMap Enc.enc:=Ae DB;have hfd:∀id v cs,(dj.flatMap Enc.enc).map (qp id v cs)=(dj.flatMap Enc.enc:List PV):=λid v cs=>ZcG id v cs dj
   have htf:(t.flatMap Enc.enc:List PV).length=t.length*2:=YN t;refine zk (ze (zn (ze (zi [] (zF hcj f0 hj1) ?_))));intro v7;refine zB (some [nx+7]) (Row.pures [0,2,3] (.alt 1 (.alt 4 (Row.pures [5,6] (.alt 7 (Row.pures [8] (.alt 9 (.done) .stop)) .stop)) .stop) (.alt 4 (Row.pures [5,6] (.alt 1 (.alt 7 (Row.pures [8] (.alt 9 (.done) .stop)) .stop) .stop)) .stop))) mixed (zt hrf hrt) ?_;refine⟨⟨by omega,λv8=>⟨⟨by omega,by omega⟩,?_⟩⟩,⟨by omega,λv8=>⟨⟨by omega,by omega⟩,?_⟩⟩⟩
   all_goals
    refine yb 8 rfl ?_;simp only[AD,Bk,AR,AW,xA,hfp,hfd,List.map_append];refine zg ?_;exact zv (j+1,w6+1) [_,_] DF DF (by simp[zA j (by omega)]) rfl (by simp[b3,qp,htf];exact⟨rfl,rfl⟩)
  ·simp at hcj;obtain rfl:j=d.length:=DB
   rw[Ag];have hfd:∀id v cs,(d.flatMap Enc.enc).map (qp id v cs)=(d.flatMap Enc.enc:List PV):=λid v cs=>ZcG id v cs d
   refine zC (yb 6 rfl ?_);simp only[AD,Bk,AR,AW,xA,hfp,hfd];refine zi [] (zt hqf hqt) ?_;refine⟨by omega,?_⟩;refine zg ?_;exact zv (k+1,w+1) [_,_,_] DF DF (by simp[zA k (by omega)]) rfl (by simp[a3];exact⟨rfl,rfl,rfl⟩)
 ·simp at hc;obtain rfl:k=p.length:=DB
  rw[Ag];refine zC (DK ?_);exact zj ⟨_,_,DD,⟨w,by simp[zq],rfl⟩,Qy (j:=3) hd DC⟩
theorem Zrj(p:zH)(hp:p.length<=1000)(hd0:∀d∈p,d.length<=1000)(ht:∀d∈p,∀t∈d,t.length<=1000):Pure prog 180 [.agg [L p]] (.agg [L p]) :=
 ZdM (sz:=1) 3 (λS nx hd=>ZcH p hp hd0 ht hd) (by rw[jI,B4])
def vz(x:Inst)(p:zH)(day b:Int):zH × Bool :=
 if day<0\/(p.length:Int)<=day then (p,false)
 else if W (yA x (p.getD day.toNat []))<=W (yA x (wL x b (p.getD day.toNat []))) then (p,false)
 else (p.set day.toNat (wL x b (p.getD day.toNat [])),true)
structure PlanM (x:Inst) (p:zH):Prop where
 cust:x.cust.length<=900
 inst:InstH x
 len:p.length<=1000
 may:∀d∈p,yv x d=0
theorem PlanM.sizes{x:Inst}{p:zH}(h:PlanM x p):∀d∈p,d.length<=1000/\(∀t∈d,t.length<=1000)/\DayOk d/\d.flatten.length<=1000:=by
 intro d hd;obtain⟨h1,h2,h3⟩:=VN h.cust (h.may d hd);have:=h.cust;exact⟨by omega,λt ht=>by have:=VF d t ht;omega,h3.ok,by omega⟩
theorem Zhv{x:Inst}(hx:x.cust.length<=900)(hi:InstH x){d:zr}(h:yv x d=0)(b:Int):yv x (wL x b d)=0/\(wL x b d).flatten.Perm d.flatten/\yA x (wL x b d)<=yA x d:=by
 obtain⟨hs,hg⟩:=Zg4 hx hi.arc hi.veh h;obtain⟨h1,h2,h3⟩:=Vp hs hi.diag b.toNat d hg;obtain⟨m1,m2,m3⟩:=(vf x d).1 h;change SG x d.flatten (wL x b d) at h1;change yA x (wL x b d)<=yA x d at h2;change (wL x b d).length<=d.length at h3;exact⟨(vf x _).2 ⟨h1.may,(h1.perm.map _).nodup_iff.2 m2,by omega⟩,h1.perm,h2⟩
theorem Zrk{x:Inst}(hx:x.cust.length<=900)(hi:InstH x){d:zr}(h:yv x d=0){b:Int}(hb:b<=9223372036854775807):∃k:Int,Pure prog 252 [.agg (zD x),.agg [L d],I b] (.tup [.agg [L (wL x b d)],I k]):=by
 obtain⟨hs,hg⟩:=Zg4 hx hi.arc hi.veh h;have o:=hg.ok hs;exact⟨_,Zfp x d b (vO x) (SG x d.flatten) hb o.n o.t (λ_=>hg) (ZfT hs hi.diag)⟩
theorem Zrl{x:Inst}{p:zH}(h:PlanM x p)(day b:Int)(hb:b<=9223372036854775807):
  Pure prog 216 [.agg (zD x),.agg [L p],I day,I b] (.tup [.agg [L (vz x p day b).1],B (vz x p day b).2]):=by
 have hsz:=h.sizes;have hpl:=h.len;refine zx func216 ntmps216 results216 λS nx hd=>?_
 refine DK ?_;intro v0 v1 v2;refine DK ?_;refine λhsuf=>((ZcH p h.len (λd hd=>(hsz d hd).1) (λd hd=>(hsz d hd).2.1) jU).mono ?_).v
 rintro _ _ ⟨v3,rfl,rfl⟩;refine⟨_,_,Xq 3 _,jy [] Nat.add_assoc hsuf ?_⟩;intro v4
 by_cases h0:day<0
 ·have hz:vz x p day b=(p,false):=by unfold vz;rw[if_pos (.inl h0)]
  rw[hz]
  repeat apply ze
  refine zi [(2,17)] (zt h0 zy) ?_;refine zo rfl (yb 6 rfl ?_);refine DK ?_;exact DL hd
 by_cases h1:(p.length:Int)<=day
 ·have hz:vz x p day b=(p,false):=by unfold vz;rw[if_pos (.inr h1)]
  rw[hz]
  repeat apply ze
  refine zi [(2,17)] (zt h0 h1) ?_;refine zo rfl (yb 6 rfl ?_);refine DK ?_;exact DL hd
 obtain⟨k,rfl⟩:=AN (show 0<=day by omega);have hk:k<p.length:=DB
 obtain⟨d,tl,a1,a2,a3,e0⟩:=zL rfl p k hk;have hdm:=Ab a1;have hgd:p.getD (k:Int).toNat []=d:=by rw[AL,Aa,a1];rfl
 have hz:vz x p k b=if W (yA x d)<=W (yA x (wL x b d)) then (p,false) else (p.set k (wL x b d),true):=by
  unfold vz;rw[if_neg DB,hgd,AL]
 obtain⟨m,hI⟩:=Zrk h.cust h.inst (h.may d hdm) hb;have him:=Zhv h.cust h.inst (h.may d hdm) b;have hc1:=Jx x d (hsz d hdm).2.2.1;have hc2:=Jx x (wL x b d) (VN h.cust him.1).2.2.ok;rw[hz];generalize wL x b d=e at *;generalize W (yA x d)=z1 at *;generalize W (yA x e)=z2 at *;have hk1:1<=p.length-k:=DB
 have hpf:(p.flatMap Enc.enc:List PV).length=p.length:=jI p;have hsp:=Zcd (α:=zr) rfl p k e hk;have hsp':yd (p.flatMap Enc.enc) k [L e]=(p.set k e).flatMap Enc.enc:=by simpa using hsp
 repeat apply ze
 refine zi [(2,17)] (zt h0 h1) ?_;refine zp rfl (zk (ze (zB (some [nx,nx+6,nx+7]) (Row.pures [0,1,2,3,4,5,6,7,8,9,10] (.alt 11 (.alt 12 (Row.pures [13] .done) .stop) .stop)) mixed (zF e0 hk hk1) ?_)));refine zP (hI) (zF e0 hk hk1) ?_;intro v5
 by_cases hle:z1<=z2
 ·rw[if_pos hle]
  repeat apply ze
  refine zB (some [nx,nx+6,nx+7,nx+8]) (Row.pures [0,1,2,3,4,5,6,7,8,9,10] .done) mixed (zN e0 hk hk1 hle) ?_;refine zP (hc2) (zN e0 hk hk1 hle) ?_;refine zP (hc1) (zN e0 hk hk1 hle) ?_;refine zo rfl (yb 6 rfl ?_);refine DK ?_;exact DL hd
 ·rw[if_neg hle]
  repeat apply ze
  refine zB (some [nx,nx+6,nx+7,nx+8]) (Row.pures [0,1,2,3,4,5,6,7,8,9,10] .done) mixed (zN e0 hk hk1 hle) ?_;refine zP (hc2) (zN e0 hk hk1 hle) ?_;refine zP (hc1) (zN e0 hk hk1 hle) ?_;refine zp rfl (zk (ze (zi [] (zF hk hsp' hpf) ?_)));refine⟨by omega,?_⟩;refine yb 6 rfl ?_;refine DK ?_;exact zj (zm hd DD (by simp[zq]))
open Go Go.Proofs Hp
structure PlanS (n K:Nat) (p:zH):Prop where
 len:p.length=n
 ok:∀d∈p,DayOk d/\d.flatten.length<=K/\d.length<=K
theorem ZcI{x:Inst}{d:zr}{s:Stop}{K:Nat}(hx:x.cust.length<=1048576)(h1:DayOk d)(h2:d.flatten.length<=K)(h3:d.length<=K)(hK:K<=100000):DayOk (yO x d s).1/\(yO x d s).1.flatten.length<=K+1/\(yO x d s).1.length<=K+1:=by
 refine⟨Zfl hx h1 DB DB,?_,?_⟩
 ·cases hi:(yO x d s).2 with
  | true=>rw[(Zbl hi).length_eq,Au];omega
  | false=>rw[ZeW hi];omega
 grind[yO,jz]
theorem Zrm(x:Inst)(p:zH)(c:Nat){n K:Nat}(hn1:n<=1000)(hK:K<=100000)(hx:x.cust.length<=1000)(hc:c<x.cust.length)(hp:PlanS n K p):Pure prog 322 [.agg (zD x),.agg [L p],I c] (L (p.map (wP x (vu x c)))):=by
 have hth:=Zg3 x c;rw[show (decide (0<=(c:Int)) && decide ((c:Int)<x.cust.length))=true from by simp;omega]at hth;obtain⟨cu,tlc,a1,-,-,e1,e0⟩:=el 8 rfl x.cust c hc;have e11:=e1 1 DB;have hq:vu x c=⟨c,if cu.kind=1 then cu.demand else 1⟩:=by unfold vu;rw[Aa,a1];rfl
 have hplen:p.length<=1000:=by have:=hp.len;omega
 refine zx func322 ntmps322 results322 λS nx hd=>?_
 refine DK ?_;intro v0 v1;refine DK ?_;intro v2;refine ze (qE (nx:=nx) (σ:=Unit) (λ_=>True) (λ_=>[(3,.ptr nx v0 0),(4,.ptr (nx+1) v1 0),(7,.ptr (nx+2) v2 0)]) (λ_=>S) (λ_=>[.cells v0 25 (zD x),.cells v1 30 [L p],.cells v2 100 [I c,I (vu x c).q]]) ?_ ?_)
 ·by_cases hk:cu.kind=1
  ·rw[if_pos hk]at hq;refine ze (zi [(3,19)] (zF e0 hc hk) ?_);refine qP [(3,19)] hth (zF e0 hc hk) ?_;refine zo (by simp[hk]) ?_;refine zi [] (zt e11 hc) ?_;exact zT () [] trivial DC rfl (by simp[hq])
  ·rw[if_neg hk]at hq;refine ze (zi [(3,19)] (zF e0 hc hk) ?_);refine qP [(3,19)] hth (zF e0 hc hk) ?_;refine zp (by simp[hk]) ?_;exact zk (zT () [] trivial DC rfl (by simp[hq]))
 intro _ _;have hsc:(vu x c).c=c:=rfl;generalize hst:vu x c=s at hsc;clear hq;refine DK ?_;refine ze (qL 8 3 1 rfl λv3=>?_);refine DK ?_;refine zn (zJ (λst:Nat × List Int × Nat=>st.1<=p.length/\st.2.1=(p.take st.1).map (wP x s)) (λ(k,out,w)=>[(3,.ptr nx v0 0),(7,.ptr (nx+2) v2 0),(8,.sl (nx+3) w 1 0 out.length),(36,L p),(37,I p.length),(38,I k)]) (λ(k,out,w)=>[.cells v0 25 (zD x),.cells v1 30 [L p],.cells v2 100 [I c,I s.q],.cells w 3 (out.flatMap Enc.enc)]) (λst=>p.length-st.1) (0,[],v3) [] DC DC DC ?_);rintro⟨k,out,w⟩ ⟨hk,ho⟩;simp only at hk ho ⊢;have hol:out.length=k:=by rw[ho];simp;omega
 refine DK ?_;refine ze (zz rfl (λhc1=>?_) (λhc1=>?_))
 ·simp at hc1;obtain⟨d,tl,b1,b2,b3,f0⟩:=zL rfl p k hc1;obtain⟨g1,g3,g4⟩:=hp.ok d (Ab b1);have g5:=(ZcI (x:=x) (s:=s) DB g1 g3 g4 hK).1;have hins:=Zbs x d s DB g1 DB;have hc2:=Jx x d g1;have hc3:=Jx x _ g5;have hpr:wP x s d=if (yO x d s).2=true then max 0 (W (W (yA x (yO x d s).1)-W (yA x d))) else 4294967296:=rfl
  rw[hsc]at hins;generalize yO x d s=r at *;obtain⟨e,ok⟩:=r;simp only at hins hc3 hpr;generalize W (yA x d)=z1 at *;generalize W (yA x e)=z2 at *;have h1p:1<=p.length-k:=DB
  refine zk (ze (zn (ze (zi [] (zF f0 hc1 h1p) ?_))));intro v4;refine DK ?_
  repeat apply ze
  refine zg ?_;refine zu hins ?_;intro v5;refine DK ?_;cases ok with
  | true =>
   rw[if_pos rfl]at hpr;have hmax:q8 (0:Int) (W (z2-z1))=wP x s d:=by rw[hpr];unfold q8;split<;>omega
   refine zo rfl (zB (some [nx,nx+4,nx+5]) (Row.pures [0,1,2,3,4,5,6,7,8] .done) mixed trivial ?_);refine zP (hc3) hmax ?_;refine zP (hc2) hmax ?_;refine zg ?_;refine⟨by omega,?_⟩;refine zg ?_;exact zv (k+1,out++[wP x s d],w+1) [_,_] ⟨hc1,by rw[b3,List.map_append,ho];rfl⟩ DF (by simp[zA k (by omega)]) rfl (by simp[hpr];exact⟨rfl,rfl⟩)
  | false =>
   rw[if_neg DH]at hpr;refine zp rfl (zk (zg ?_));refine⟨by omega,?_⟩;refine zg ?_;exact zv (k+1,out++[wP x s d],w+1) [_,_] ⟨hc1,by rw[b3,List.map_append,ho];rfl⟩ DF (by simp[zA k (by omega)]) rfl (by simp[hpr];exact⟨rfl,rfl⟩)
 ·simp at hc1;obtain rfl:k=p.length:=DB
  rw[Ag]at ho;refine zC (yb 3 rfl ?_);refine DK ?_;exact zj (zm hd DD (by simp[zq,ho]))
def ZW(x:Inst)(p:zH):Bool:=p.all λd=>decide (yv x d=0)
theorem Zrn(x:Inst)(p:zH){n K:Nat}(hn1:n<=1000)(hK:K<=100000)(hx:x.cust.length<=1000)(hp:PlanS n K p):Pure prog 289 [.agg (zD x),.agg [L p]] (B (ZW x p)):=by
 have hplen:p.length<=1000:=by have:=hp.len;omega
 refine zx func289 ntmps289 results289 λS nx hd=>?_
 refine DK ?_;intro v0 v1
 repeat apply ze
 refine zg ?_;refine zn (zJ (λk:Nat=>k<=p.length/\∀d∈p.take k,yv x d=0) (λk=>[(2,.ptr nx v0 0),(8,L p),(9,I p.length),(10,I k)]) (λ_=>[.cells v0 25 (zD x),.cells v1 30 [L p]]) (λk=>p.length-k) 0 [] DC DC DC ?_);rintro k ⟨hk,hE⟩;refine DK ?_;refine ze (zz rfl (λhc=>?_) (λhc=>?_))
 ·simp at hc;obtain⟨d,tl,a1,a2,a3,e0⟩:=zL rfl p k hc;obtain⟨g1,g2,g3⟩:=hp.ok d (Ab a1);have hD:=ZaU x d DB g1.n g1.t DB;have hk1:1<=p.length-k:=DB
  refine zk (ze (zn (ze (zi [] (zF e0 hc hk1) ?_))));intro v2
  by_cases h0:yv x d=0
  ·rw[h0]at hD;refine DK ?_;refine zu hD ?_;refine zp DC ?_;refine zk (zg ?_);exact zv (k+1) [_] ⟨hc,λe he=>by rw[a3]at he;rcases AG.1 he with q | q;exact hE e q;rw[AZ.1 q];exact h0⟩ DB (by simp[zA k (by omega)]) rfl DD
  ·have ho:ZW x p=false:=by
    unfold ZW;rw[Bh];exact⟨d,Ab a1,by simpa using h0⟩
   rw[ho];generalize yv x d=z at *;refine DK ?_;refine zu hD ?_;refine zo (by simp[h0]) ?_;refine DK ?_;exact zj (zm hd rfl rfl)
 ·simp at hc;obtain rfl:k=p.length:=DB
  rw[Ag]at hE;have ho:ZW x p=true:=by
   unfold ZW;rw[Az];intro d hd;simpa using hE d hd
  rw[ho];refine zC (DK ?_);exact zj (zm hd rfl rfl)
def Zk(x:Inst)(c:Nat)(st:zH × Bool)(w:Visit):zH × Bool :=
 if st.2=true then (if (yO x (st.1.getD w.d.toNat []) ⟨c,w.q⟩).2=true then (st.1.set w.d.toNat (yO x (st.1.getD w.d.toNat []) ⟨c,w.q⟩).1,true) else ([],false)) else st
def wR(x:Inst)(n:Nat)(p:zH)(c:Nat):zH × Bool :=
 if (qv n x.cap (x.cust.getD c default) (p.map (wP x (vu x c)))).2=true then (qv n x.cap (x.cust.getD c default) (p.map (wP x (vu x c)))).1.foldl (Zk x c) (p,true) else ([],false)
theorem ZcJ(x:Inst)(c:Nat):∀v:List Visit,v.foldl (Zk x c) ([],false)=([],false)
 | []=>rfl
 | w :: v=>by rw[AY];exact ZcJ x c v
theorem Zro(x:Inst)(s:Stop)(p:zH):∀z∈p.map (wP x s),zW z:=by
 intro z hz;obtain⟨d,-,rfl⟩:=Ar.1 hz;unfold wP;split
 ·have:=Zcf (W (yA x (yO x d s).1)-W (yA x d));unfold zW at *;omega
 ·unfold zW;omega
theorem PlanS.sizes{n K:Nat}{p:zH}(h:PlanS n K p)(hn1:n<=1000)(hK:K<=1000):p.length<=1000/\(∀d∈p,d.length<=1000)/\∀d∈p,∀t∈d,t.length<=1000:=by
 refine⟨by have:=h.len;omega,λd hd=>by have:=(h.ok d hd).2.2;omega,λd hd t ht=>?_⟩;have:=VF d t ht;have:=(h.ok d hd).2.1;omega
theorem PlanS.set{n K:Nat}{p:zH}(h:PlanS n K p){k:Nat}{e:zr}(he:DayOk e/\e.flatten.length<=K+1/\e.length<=K+1):PlanS n (K+1) (p.set k e):=by
 refine⟨by rw[BJ];exact h.len,λd hd=>?_⟩;rcases BB hd with q | q
 ·obtain⟨g1,g2,g3⟩:=h.ok d q;exact⟨g1,by omega,by omega⟩
 ·rw[q];exact he
theorem Zhw{x:Inst}{n:Nat}(h:InstA x n){p:zH}{K:Nat}(hK:K<=10000)(hp:PlanS n K p){c:Nat}(hc:c<x.cust.length)(h0:(wR x n p c).2=true):PlanS n (K+64) (wR x n p c).1:=by
 have hx:=h.h.cust;unfold wR at h0 ⊢;split at h0
 ·rename_i h1;rw[if_pos h1];have hcm:x.cust.getD c default∈x.cust:=by rw[Aa,Ad hc];exact A8 hc
  have hg:=VM (h.made _ hcm) h.n60 x.cap _ h1;have hl:=hg.len;generalize (qv n x.cap (x.cust.getD c default) (p.map (wP x (vu x c)))).1=v at *;clear hg h1;have key:∀(v:List Visit) (q:zH) (K:Nat),K+v.length<=10100->PlanS n K q->(v.foldl (Zk x c) (q,true)).2=true->PlanS n (K+v.length) (v.foldl (Zk x c) (q,true)).1:=by
   intro v
   induction v with
   | nil=>intro q K _ hq _;exact hq
   | cons w v ih =>
    intro q K hKl hq hz;rw[Au]at hKl ⊢;rw[AY]at hz ⊢;have hs:Zk x c (q,true) w=if (yO x (q.getD w.d.toNat []) ⟨c,w.q⟩).2=true then (q.set w.d.toNat (yO x (q.getD w.d.toNat []) ⟨c,w.q⟩).1,true) else ([],false):=rfl
    rw[hs]at hz ⊢;split at hz
    ·rename_i hi;rw[if_pos hi];rw[show K+(v.length+1)=(K+1)+v.length by omega];refine ih _ _ DB (hq.set ?_) hz;have hd:DayOk (q.getD w.d.toNat [])/\(q.getD w.d.toNat []).flatten.length<=K/\(q.getD w.d.toNat []).length<=K:=by
      rw[Aa];cases e:q[w.d.toNat]? with
      | none=>exact⟨⟨by simp,by simp,by simp⟩,by simp,by simp⟩
      | some d=>exact hq.ok d (Ab e)
     exact ZcI DB hd.1 hd.2.1 hd.2.2 DB
    ·rw[ZcJ]at hz;cases hz
  have:=key v p K DB hp h0;exact⟨this.len,λd hd=>by obtain⟨g1,g2,g3⟩:=this.ok d hd;exact⟨g1,by omega,by omega⟩⟩
 ·cases h0
theorem Zrp{x:Inst}{n:Nat}(h:InstA x n){p:zH}{K:Nat}(hK:K<=900)(hp:PlanS n K p)(c:Nat)(hc:c<x.cust.length):Pure prog 288 [.agg (zD x),.agg [L p],I c] (.tup [.agg [L (wR x n p c).1],B (wR x n p c).2]):=by
 have hx:=h.h.cust;have hn60:=h.n60;have hxd:=h.days;have hpl:=hp.len;obtain⟨hs1,hs2,hs3⟩:=hp.sizes DB DB;obtain⟨cu,tlc,a1,-,-,e1,e0⟩:=el 8 rfl x.cust c hc;have hcm:=Ab a1;have hgc:x.cust.getD c default=cu:=by rw[Aa,a1];rfl
 have hPr:=Zrm x p c (n:=n) (K:=K) DB DB hx hc hp;have hI:=Zro x (vu x c) p;have hlen:(p.map (wP x (vu x c))).length<=1000:=by rw[List.length_map];omega
 have hput:wR x n p c=if (qv n x.cap cu (p.map (wP x (vu x c)))).2=true then (qv n x.cap cu (p.map (wP x (vu x c)))).1.foldl (Zk x c) (p,true) else ([],false):=by unfold wR;rw[hgc]
 have hgood:=VM (h.made cu hcm) hn60 x.cap (p.map (wP x (vu x c)));rw[hput];generalize p.map (wP x (vu x c))=pr at *;have hSo:Pure prog 207 [.agg (yc cu),I x.days,I x.cap,L pr] (.tup [L (qv n x.cap cu pr).1,B (qv n x.cap cu pr).2]):=by
  rw[hxd];exact λS=>Zcr cu n x.cap (.inl rfl) hI hlen (h.made cu hcm) (h.pats cu hcm) hn60
 clear hput;generalize qv n x.cap cu pr=r at *;obtain⟨v,ok⟩:=r;simp only at hSo hgood ⊢;refine zx func288 ntmps288 results288 λS nx hd=>?_
 refine DK ?_;intro v0 v1 v2;refine ze (zB (some [nx,nx+1]) (Row.pures [0,1,2,3,4,5,6,7,8,9,10,11,12,13,14,15,16,17,18] .done) mixed (zt e0 hc) ?_);refine zP (hPr) (zt e0 hc) ?_;refine zP (hSo) (zt e0 hc) ?_;cases ok with
 | false =>
  rw[if_neg DH]
  repeat apply ze
  refine zg ?_;refine zo rfl (DK ?_);refine yf 2 0 rfl rfl ?_;exact DL hd
 | true =>
  have hg:=hgood rfl;have hvl:=hg.len;rw[if_pos rfl]
  repeat apply ze
  refine zg ?_;refine zp rfl (zk (DK ?_));refine λhsuf=>((ZcH p hs1 hs2 hs3 jU).mono ?_).v
  rintro _ _ ⟨v3,rfl,rfl⟩;refine⟨_,_,Xq 3 _,jy [] Nat.add_assoc hsuf ?_⟩;intro v4
  repeat apply ze
  refine zg ?_;refine zn (zJ (λs:Nat × zH × Nat=>s.1<=v.length/\(v.take s.1).foldl (Zk x c) (p,true)=(s.2.1,true)/\PlanS n (K+s.1) s.2.1) (λ(k,q,w)=>[(2,I c),(3,.ptr nx v0 0),(6,.ptr (nx+2) v2 0),(10,.ptr (nx+7) v4 0),(38,L v),(39,I v.length),(40,I k)]) (λ(k,q,w)=>[.cells v0 25 (zD x),.cells v1 30 [L p],.cells v2 30 [yr],.dead,.dead,.dead,.cells w 39 (q.flatMap Enc.enc),.cells v4 30 [.sl (nx+6) w 1 0 q.length]]) (λs=>v.length-s.1) (0,p,v3) [] ⟨by simp,by simp,hp⟩ DC DC ?_);rintro⟨k,q,w⟩ ⟨hk,hq,hqs⟩;simp only at hk hq hqs ⊢;have hql:=hqs.len;refine DK ?_;refine ze (zz rfl (λhc1=>?_) (λhc1=>?_))
  ·simp at hc1;obtain⟨u,tl,b1,b2,b3,f1,f0⟩:=el 2 rfl v k hc1;have hu:=hg.ok u (Ab b1);obtain⟨z,hz⟩:∃z:Nat,u.d=z:=⟨u.d.toNat,by omega⟩;have hzl:z<q.length:=DB
   obtain⟨d,tld,d1,d2,d3,d0⟩:=zL rfl q z hzl;obtain⟨g1,g2,g3⟩:=hqs.ok d (Ab d1);have hins:=Zbs x d ⟨c,u.q⟩ DB g1 DB;have hsz:=ZcI (x:=x) (s:=⟨c,u.q⟩) DB g1 g2 g3 DB;have hst:(v.take (k+1)).foldl (Zk x c) (p,true)=if (yO x d ⟨c,u.q⟩).2=true then (q.set z (yO x d ⟨c,u.q⟩).1,true) else ([],false):=by
    rw[b3,Bo,hq];have e9:q.getD u.d.toNat []=d:=by rw[hz,AL,Aa,d1];rfl
    show Zk x c (q,true) u=_
    unfold Zk;rw[if_pos rfl,e9,hz,AL]
   generalize yO x d ⟨c,u.q⟩=e at *;obtain⟨d',ok'⟩:=e;simp only at hins hst hsz;have hz1:1<=q.length-z:=DB
   have hqf:(q.flatMap Enc.enc:List PV).length=q.length:=jI q;have hsp:=Zcd (α:=zr) rfl q z d' hzl;have hsp':yd (q.flatMap Enc.enc) z [L d']=(q.set z d').flatMap Enc.enc:=by simpa using hsp
   refine zk (ze (zn (ze (zi [] (zF f0 hc1 hz) ?_))));intro v5;refine DK ?_;intro v6;refine ze (zB (some [nx,nx+6,nx+7,nx+8,nx+9]) (Row.pures [0,1,2,3,4,5,6,7,8,9,10,11] (.alt 12 (.alt 13 (Row.pures [14] .done) .stop) .stop)) mixed (zN d0 hzl hz1 hz) ?_);refine zP (hins) (zN d0 hzl hz1 hz) ?_;intro v7;cases ok' with
   | false =>
    rw[if_neg DH]at hst;have hall:v.foldl (Zk x c) (p,true)=([],false):=by
     conv=>lhs;rw[<-List.take_append_drop (k+1) v,Bo,hst,ZcJ]
    rw[hall]
    repeat apply ze
    refine zg ?_;refine zo rfl (DK ?_);refine yf 2 0 rfl rfl ?_;exact DL hd
   | true =>
    rw[if_pos rfl]at hst
    repeat apply ze
    refine zg ?_;refine zp rfl (zk (zi [] (zN hzl hsp' hqf hz) ?_));refine⟨by omega,?_⟩;refine zg ?_;exact zv (k+1,q.set z d',w) [_,_,_] ⟨hc1,hst,hqs.set hsz⟩ DF (by simp[zA k (by omega)]) rfl (by simp;exact⟨rfl,rfl,rfl⟩)
  ·simp at hc1;obtain rfl:k=v.length:=DB
   rw[Ag]at hq;rw[hq];refine zC (yb 6 rfl ?_);refine DK ?_;exact DL hd
open Go Go.Proofs Hp
theorem PlanS.wo{n K:Nat}{p:zH}(h:PlanS n K p)(c:Int):PlanS n K (QZ c p):=by
 refine⟨by unfold QZ;rw[List.length_map];exact h.len,λe he=>?_⟩;obtain⟨d,hd,rfl⟩:=Ar.1 he;obtain⟨g1,g2,g3⟩:=h.ok d hd;have hl:=Zfk c d;have hm:∀t∈jY c d,∃u∈d,t=xJ c u:=λt ht=>by
  obtain⟨u,hu,e⟩:=Ar.1 (Bi.1 ht).1;exact⟨u,hu,e.symm⟩
 refine⟨⟨by have:=g1.n;omega,λt ht=>?_,λt ht s hs=>?_⟩,?_,by omega⟩
 ·obtain⟨u,hu,rfl⟩:=hm t ht;exact AB (Zbu c u) (g1.t u hu)
 ·obtain⟨u,hu,rfl⟩:=hm t ht;exact g1.s u hu s (Bi.1 hs).1
 grind[Zp8]
structure PlanG (x:Inst) (n:Nat) (p:zH):Prop where
 a:InstA x n
 six:x.cust.length<=6
 len:p.length=n
 may:∀d∈p,yv x d=0
theorem PlanG.m{x:Inst}{n:Nat}{p:zH}(h:PlanG x n p):PlanM x p:=⟨by have:=h.six;omega,h.a.h,by have:=h.len;have:=h.a.n60;omega,h.may⟩
theorem PlanG.s{x:Inst}{n:Nat}{p:zH}(h:PlanG x n p):PlanS n 6 p:=by
 refine⟨h.len,λd hd=>?_⟩;obtain⟨h1,h2,h3⟩:=VN (by have:=h.six;omega) (h.may d hd);have:=h.six;exact⟨h3.ok,by omega,by omega⟩
theorem PlanG.serves{x:Inst}{n:Nat}{p:zH}(h:PlanG x n p):Serves x p:=by
 have hs:=h.s;have hn:=h.a.n60;have hl:=hs.len;have hcn:JU p<=1000*p.length:=by
  have:∀p:zH,(∀d∈p,d.flatten.length<=1000)->JU p<=1000*p.length:=by
   intro p
   induction p with
   | nil=>intro _;simp[JU]
   | cons d p ih =>
    intro h;have:=ih λe he=>h e (by simp[he])
    have:=h d DC;simp only[JU,AD,Ck,Au]at *;omega
  exact this p λd hd=>by have:=(hs.ok d hd).2.1;omega
 refine⟨⟨by omega,λd hd=>by have:=(hs.ok d hd).2.2;omega,λd hd=>(hs.ok d hd).1.t,by rw[ZgJ];omega⟩,λs hst=>?_,by omega⟩;obtain⟨d,hd,hsd⟩:=ZbX p 0 s hst;have:=ZbY (h.may d hd) s.1 hsd
 grind[jq]
theorem PlanG.cost{x:Inst}{n:Nat}{p:zH}(h:PlanG x n p):Pure prog 68 [.agg (zD x),.agg [L p]] (I (xQ x p)) :=
 Zpt x p h.serves (by have:=h.six;omega) (λc hc=>(h.a.made c hc).fits) λd hd=>(h.s.ok d hd).1
theorem PlanG.clone{x:Inst}{n:Nat}{p:zH}(h:PlanG x n p):Pure prog 180 [.agg [L p]] (.agg [L p]):=by
 obtain⟨h1,h2,h3⟩:=h.s.sizes (by have:=h.a.n60;omega) DB;exact Zrj p h1 h2 h3
theorem PlanS.open{x:Inst}{n K:Nat}(h:InstA x n)(h6:x.cust.length<=6){p:zH}(hp:PlanS n K p)(ho:ZW x p=true):PlanG x n p :=
 ⟨h,h6,hp.len,λd hd=>by simp_all[ZW]⟩
def uy(cs:List Nat)(p:zH):zH:=cs.foldl (λq (c:Nat)=>QZ c q) p
def X3(x:Inst)(n:Nat)(st:zH × Bool)(c:Nat):zH × Bool:=if st.2=true then wR x n st.1 c else st
def vW(x:Inst)(n:Nat)(cs:List Nat)(q:zH):zH × Bool:=cs.foldl (X3 x n) (q,true)
def wu(x:Inst)(n:Nat)(p:zH)(cs:List Nat):zH × Bool :=
 if (vW x n cs (uy cs p)).2=true then
  (if ZW x (vW x n cs (uy cs p)).1=true/\¬xQ x p<=xQ x (vW x n cs (uy cs p)).1 then ((vW x n cs (uy cs p)).1,true) else (p,false))
 else (p,false)
theorem ZcK(x:Inst)(n:Nat)(q:zH):∀cs:List Nat,cs.foldl (X3 x n) (q,false)=(q,false)
 | []=>rfl
 | c :: cs=>by rw[AY];exact ZcK x n q cs
theorem Zhx{x:Inst}{n:Nat}{p:zH}(h:PlanG x n p)(cs:List Nat)(hl:cs.length<=10)(hcs:∀c∈cs,c<x.cust.length):Pure prog 251 [.agg (zD x),.agg [L p],L (cs.map λ(c:Nat)=>(c:Int))] (.tup [.agg [L (wu x n p cs).1],B (wu x n p cs).2]):=by
 have hA:=h.a;have h6:=h.six;have hn60:=hA.n60;have hcl:=h.clone;have hps:=h.s;have hcost:=h.cost;obtain⟨zs,hzs⟩:∃zs,zs=cs.map λ(c:Nat)=>(c:Int):=⟨_,rfl⟩
 have hzl:zs.length=cs.length:=by rw[hzs,List.length_map]
 have hat:∀(k c:Nat),cs[k]?=some c->zs[k]?=some (c:Int):=λk c e=>by rw[hzs,Ah,e];rfl
 have hanew:wu x n p cs=if (vW x n cs (uy cs p)).2=true then (if ZW x (vW x n cs (uy cs p)).1=true/\¬xQ x p<=xQ x (vW x n cs (uy cs p)).1 then ((vW x n cs (uy cs p)).1,true) else (p,false)) else (p,false):=rfl
 rw[<-hzs];clear hzs;refine zx func251 ntmps251 results251 λS nx hd=>?_
 refine DK ?_;intro v0 v1 v2;refine DK ?_;intro v3
 repeat apply ze
 refine zg ?_;refine zn (zJ (λs:Nat × zH=>s.1<=zs.length/\s.2=uy (cs.take s.1) p/\PlanS n 6 s.2) (λ(k,q)=>[(2,L zs),(3,.ptr nx v0 0),(4,.ptr (nx+1) v1 0),(6,.ptr (nx+2) v2 0),(8,.ptr (nx+3) v3 0),(9,B true),(15,L zs),(16,I zs.length),(17,I k)]) (λ(k,q)=>[.cells v0 25 (zD x),.cells v1 30 [L p],.cells v2 30 [yr],.cells v3 30 [L q]]) (λs=>zs.length-s.1) (0,p) [] ⟨by simp,by simp[uy],hps⟩ DC DC ?_)
 ·rintro⟨k,q⟩ ⟨hk,hq,hqs⟩;simp only at hk hq hqs ⊢;refine DK ?_;refine ze (zz rfl (λhc1=>?_) (λhc1=>?_))
  ·simp at hc1;obtain⟨c,hc⟩:∃c,cs[k]?=some c:=⟨_,Ad DB⟩;have hcx:=hcs c (Ab hc);obtain⟨z,tl,b1,b2,b3,f0⟩:=zL rfl zs k hc1;obtain rfl:z=(c:Int):=by have:=hat k c hc;rw[b1]at this;exact Option.some.inj this
   have hth:=Zg3 x c;rw[show (decide (0<=(c:Int)) && decide ((c:Int)<x.cust.length))=true from by simp;omega]at hth;obtain⟨s1,s2,s3⟩:=hqs.sizes DB DB;have hwo:=Zp7 q c s1 (λd hd=>by have:=s2 d hd;omega) (λd hd t ht=>by have:=s3 d hd t ht;omega);have hnext:QZ c q=uy (cs.take (k+1)) p:=by
    rw[hq,AC,hc];simp[uy]
   have hqs2:=hqs.wo c;have hqs2:=hqs.wo c;generalize QZ c q=q2 at *;refine zk (ze (zn (ze (zi [] (zt f0 hc1) ?_))))
   repeat apply ze
   refine zg ?_;refine zu hth ?_;refine zp DC ?_;refine zk (zg ?_);refine zu hwo ?_;refine zg ?_;exact zv (k+1,q2) [] ⟨hc1,hnext,hqs2⟩ DF (by simp[zA k (by omega)]) rfl DC
  ·simp at hc1;obtain rfl:k=zs.length:=DB
   rw[hzl,Ag]at hq;refine zC ?_
   repeat apply ze
   refine zg ?_;refine zn (zJ (λs:Nat × zH=>s.1<=zs.length/\(cs.take s.1).foldl (X3 x n) (q,true)=(s.2,true)/\PlanS n (6+64*s.1) s.2) (λ(k,q)=>[(2,L zs),(3,.ptr nx v0 0),(4,.ptr (nx+1) v1 0),(6,.ptr (nx+2) v2 0),(8,.ptr (nx+3) v3 0),(31,L zs),(32,I zs.length),(33,I k)]) (λ(k,q)=>[.cells v0 25 (zD x),.cells v1 30 [L p],.cells v2 30 [yr],.cells v3 30 [L q]]) (λs=>zs.length-s.1) (0,q) [] ⟨by simp,by simp,hqs⟩ DC DC ?_);rw[<-hq]at hanew;clear hqs hq hk hc1;rintro⟨k,r⟩ ⟨hk,hr,hrs⟩;simp only at hk hr hrs ⊢;refine DK ?_;refine ze (zz rfl (λhc1=>?_) (λhc1=>?_))
   ·simp at hc1;obtain⟨c,hc⟩:∃c,cs[k]?=some c:=⟨_,Ad DB⟩;have hcx:=hcs c (Ab hc);obtain⟨z,tl,b1,b2,b3,f0⟩:=zL rfl zs k hc1;obtain rfl:z=(c:Int):=by have:=hat k c hc;rw[b1]at this;exact Option.some.inj this
    have hput:=Zrp hA (K:=6+64*k) DB hrs c hcx;have hsz:=Zhw hA (K:=6+64*k) DB hrs hcx;have hst:(cs.take (k+1)).foldl (X3 x n) (q,true)=wR x n r c:=by
     rw[AC,hc,Bo,hr];rfl
    generalize wR x n r c=e at *;obtain⟨r2,ok⟩:=e;simp only at hput hsz;refine zk (ze (zn (ze (zi [] (zt f0 hc1) ?_))));refine DK ?_;refine zu hput ?_;cases ok with
    | false =>
     have hall:vW x n cs q=(r2,false):=by
      unfold vW
      conv=>lhs;rw[<-List.take_append_drop (k+1) cs,Bo,hst,ZcK]
     rw[hall,if_neg DC]at hanew;rw[hanew];refine DK ?_;refine zo rfl (DK ?_);refine zu hcl ?_;exact DL hd
    | true =>
     refine DK ?_;refine zp rfl (zk (zg ?_));exact zv (k+1,r2) [] ⟨hc1,hst,by have:=hsz rfl;rw[show 6+64*(k+1)=6+64*k+64 by omega];exact this⟩ DF (by simp[zA k (by omega)]) rfl DC
   ·simp at hc1;obtain rfl:k=zs.length:=DB
    rw[hzl,Ag]at hr;have hall:vW x n cs q=(r,true):=hr;rw[hall,if_pos rfl]at hanew;have hop:=Zrn x r (n:=n) (K:=6+64*zs.length) DB DB DB hrs;refine zC ?_;cases ho:ZW x r with
    | false =>
     rw[ho]at hop;rw[ho,if_neg DC]at hanew;rw[hanew]
     repeat apply ze
     refine zB (some [nx,nx+1,nx+3]) (Row.pures [0,1,2,3,4,5,6,7,8,9,10,11,12] .done) mixed zy ?_;refine zP (hop) zy ?_;refine zo rfl (DK ?_);refine zu hcl ?_;exact DL hd
    | true =>
     rw[ho]at hop;have hcr:=(hrs.open hA h6 ho).cost;generalize xQ x r=z2 at *;generalize xQ x p=z1 at *
     by_cases hle:z1<=z2
     ·rw[if_neg (λq=>q.2 hle)]at hanew;rw[hanew]
      repeat apply ze
      refine zB (some [nx,nx+1,nx+3]) (Row.pures [0,1,2,3,4,5,6,7,8,9,10,11,12] .done) mixed hle ?_;refine zP (hop) hle ?_;refine zP (hcr) hle ?_;refine zP (hcost) hle ?_;refine zo rfl (DK ?_);refine zu hcl ?_;exact DL hd
     ·rw[if_pos ⟨ho,hle⟩]at hanew;rw[hanew]
      repeat apply ze
      refine zB (some [nx,nx+1,nx+3]) (Row.pures [0,1,2,3,4,5,6,7,8,9,10,11,12] .done) mixed hle ?_;refine zP (hop) hle ?_;refine zP (hcr) hle ?_;refine zP (hcost) hle ?_;refine zp rfl (zk (DK ?_));exact DL hd
theorem Zrq{x:Inst}{n:Nat}{p:zH}(h:PlanG x n p)(c:Nat)(hc:c<x.cust.length):Pure prog 214 [.agg (zD x),.agg [L p],I c] (.tup [.agg [L (wu x n p [c]).1],B (wu x n p [c]).2]):=by
 have ha:=Zhx h [c] DC (by simpa using hc);simp only[AD,Bk]at ha;refine zx func214 ntmps214 results214 λS nx hd=>?_
 refine DK ?_;intro v0 v1 v2;refine DK ?_;refine zu ha ?_;exact DL hd
def uO(x:Inst)(n:Nat)(p:zH)(a b:Nat):zH × Bool:=if a=b then (p,false) else wu x n p [a,b]
theorem Zrr{x:Inst}{n:Nat}{p:zH}(h:PlanG x n p)(a b:Nat)(ha:a<x.cust.length)(hb:b<x.cust.length):Pure prog 215 [.agg (zD x),.agg [L p],I a,I b] (.tup [.agg [L (uO x n p a b).1],B (uO x n p a b).2]):=by
 have hcl:=h.clone;unfold uO
 by_cases hab:a=b
 ·rw[if_pos hab];refine zx func215 ntmps215 results215 λS nx hd=>?_
  refine DK ?_;intro v0 v1 v2
  repeat apply ze
  refine zg ?_;refine zo (by simp[hab]) ?_;refine DK ?_;refine zu hcl ?_;exact DL hd
 ·rw[if_neg hab];have hn:=Zhx h [a,b] DC (by simpa using ⟨ha,hb⟩);simp only[AD,Bk]at hn;refine zx func215 ntmps215 results215 λS nx hd=>?_
  refine DK ?_;intro v0 v1 v2
  repeat apply ze
  refine zg ?_;refine zp DF ?_;refine zk (DK ?_);refine zu hn ?_;exact DL hd
theorem Zhy{x:Inst}{n:Nat}(h:InstA x n):∀(cs:List Nat) (K:Nat) (q:zH),(∀c∈cs,c<x.cust.length)->K+64*cs.length<=1000->PlanS n K q->(vW x n cs q).2=true->PlanS n (K+64*cs.length) (vW x n cs q).1
 | [],K,q,_,_,hq,_=>hq
 | c :: cs,K,q,hc,hK,hq,hz=>by
  rw[Au]at hK ⊢;have e:vW x n (c :: cs) q=cs.foldl (X3 x n) (wR x n q c):=rfl;rw[e]at hz ⊢;cases ho:(wR x n q c).2 with
  | false =>
   have:wR x n q c=((wR x n q c).1,false):=by rw[<-ho]
   rw[this,ZcK]at hz;cases hz
  | true =>
   have h1:=Zhw h DB hq (hc c DC) ho;have:wR x n q c=((wR x n q c).1,true):=by rw[<-ho]
   rw[this]at hz ⊢;have:=Zhy h cs (K+64) _ (λc hc'=>hc c (by simp[hc'])) DB h1 hz;rw[show K+64*(cs.length+1)=K+64+64*cs.length by omega];exact this
theorem Zhz{n K:Nat}:∀(cs:List Nat) (p:zH),PlanS n K p->PlanS n K (uy cs p)
 | [],_,h=>h
 | c :: cs,p,h=>Zhz cs _ (h.wo c)
theorem ZcL{x:Inst}{n:Nat}{p:zH}(h:PlanG x n p)(cs:List Nat)(hl:cs.length<=10)(hcs:∀c∈cs,c<x.cust.length):PlanG x n (wu x n p cs).1/\xQ x (wu x n p cs).1<=xQ x p:=by
 unfold wu;split
 ·rename_i h1;split
  ·rename_i h2;exact⟨(Zhy h.a cs 6 _ hcs DB (Zhz cs p h.s) h1).open h.a h.six h2.1,by have:=h2.2;dsimp only;omega⟩
  ·exact⟨h,CW _⟩
 ·exact⟨h,CW _⟩
theorem ZhA{x:Inst}{n:Nat}{p:zH}(h:PlanG x n p)(a b:Nat)(ha:a<x.cust.length)(hb:b<x.cust.length):PlanG x n (uO x n p a b).1/\xQ x (uO x n p a b).1<=xQ x p:=by
 unfold uO;split
 ·exact⟨h,CW _⟩
 ·exact ZcL h [a,b] DC (by simpa using ⟨ha,hb⟩)
open Go Go.Proofs Hp
theorem Zrs(op:BinOp)(x y:Int):0<=bits op .u64 x y/\bits op .u64 x y<18446744073709551616:=by
 have h:=wf_bits op .u64 x y;simp[Lit.wf,IntKind.min,IntKind.max,IntKind.signed,IntKind.bits]at h;omega
abbrev jS(s:Int):List PV:=[.sc (.int .u64 s)]
def yG(s:Int):Int:=IntKind.u64.wrap (s+11400714819323198485)
def Qh(s:Int):Int :=
 let a:=yG s
 let b:=IntKind.u64.wrap (bits .xor .u64 a (a.fdiv (2 ^ 30))*13787848793156543929)
 let c:=IntKind.u64.wrap (bits .xor .u64 b (b.fdiv (2 ^ 27))*10723151780598845931)
 bits .xor .u64 c (c.fdiv (2 ^ 31))
theorem Zrt(s:Int):0<=Qh s/\Qh s<18446744073709551616:=by unfold Qh;exact Zrs _ _ _
theorem ZX{S:Store}{nx id:Nat}(hd:zX nx S)(hlt:id<nx)(o:Ob):zX nx (S.set id o):=λi hi=>by rw[q10 _ _ _ _ DB];exact hd i hi
theorem Zru:IntKind.u64.bits=64:=rfl
theorem Zrv(s:Int){S:Store}{id v:Nat}(hS:S id=.cells v 179 (jS s)):Spec prog 126 [.ptr id v 0] S (λq S'=>q=.sc (.int .u64 (Qh s))/\S'=S.set id (.cells v 179 (jS (yG s)))):=by
 refine yi func126 ntmps126 results126 λnx hd=>?_
 have hlt:id<nx:=yU hd hS DC;have xw:=λobs=>(zE (S:=S) (obs:=obs) hlt).trans hS
 have yw:=λ(o:Ob) obs=>(zE (S:=S.set id o) (obs:=obs) hlt).trans (q11 _ _ _)
 have g1:¬nx<=id:=DB
 refine DK ?_;refine ze (zi [] (zt xw g1) ?_);refine ze (zi [] (zt yw g1) ?_);refine DK ?_;refine DK ?_;refine DK ?_;exact zj ⟨_,_,rfl,⟨by simp[zq,Qh,yG,Zru],rfl⟩,zU (ZX hd hlt _)⟩
def jG(s:Int)(n:Nat):Nat:=(Qh s).toNat % n
theorem Q1(s:Int){n:Nat}(h:0<n):jG s n<n:=Nat.mod_lt _ h
theorem X4(s:Int)(n:Nat)(h0:0<n)(hn:n<=4611686018427387904){S:Store}{id v:Nat}(hS:S id=.cells v 179 (jS s)):Spec prog 81 [.ptr id v 0,I n] S (λq S'=>q=I (jG s n)/\S'=S.set id (.cells v 179 (jS (yG s)))):=by
 have hb:=Zrt s;have hbl:=Q1 s h0;have e1:(Qh s).tmod (n:Int)=(jG s n:Int):=by
  unfold jG;obtain⟨m,hm⟩:=AN hb.1;rw[hm,AL,BL DB];omega
 have w1:IntKind.u64.wrap (n:Int)=n:=by rw[IntWalk.u64_in _ DB]
 have w2:IntKind.i64.wrap (jG s n:Int)=jG s n:=wr _ DB DB;have hw:=λ(S:Store) hS=>Zrv s (S:=S) (id:=id) (v:=v) hS
 generalize Qh s=r at *;generalize jG s n=k at *;refine yi func81 ntmps81 results81 λnx hd=>?_
 have hlt:id<nx:=yU hd hS DC;have xw:=λobs=>(zE (S:=S) (obs:=obs) hlt).trans hS
 refine DK ?_
 repeat apply ze
 refine zg ?_;refine zp DF ?_;refine zk (ze (zi [] (zF w1 e1 w2) ?_));refine λhsuf=>((hw _ (xw _)).mono ?_).v
 rintro _ _ ⟨rfl,rfl⟩;refine⟨S.set id (.cells v 179 (jS (yG s))),[],yZ _ hlt,?_⟩;have g2:¬n=0:=DB
 refine jy [] (zN w1 e1 w2 g2) hsuf ?_;exact zj ⟨_,_,rfl,⟨by simp[zq],rfl⟩,zU (ZX hd hlt _)⟩
theorem ZhB(s:Int){S:Store}{nx:Nat}(hd:zX nx S):Spec prog 78 [I s] S (λq S'=>∃v,q=.ptr nx v 0/\S'=S.set nx (.cells v 179 (jS (IntKind.u64.wrap s)))):=by
 refine uE hd func78 ntmps78 results78 ?_;refine DK ?_;refine DK ?_;intro v0;exact zj ⟨_,_,rfl,⟨v0,by simp[zq],rfl⟩,Qy (j:=0) hd DC⟩
open Go Go.Proofs Hp
abbrev Q3(x:Inst)(p:zH)(a o d:Nat)(b:Int):List PV:=[I x.days,I x.veh,I x.cap,I x.len,L x.cust,L x.dist,L p,I a,I o,I d,I b]
theorem Zrw{x:Inst}{n:Nat}{p:zH}(h:PlanG x n p)(d:Nat)(b:Int):PlanG x n (vz x p d b).1:=by
 unfold vz;split
 ·exact h
 ·split
  ·exact h
  ·refine⟨h.a,h.six,by rw[BJ];exact h.len,λe he=>?_⟩;rcases BB he with q | q
   ·exact h.may e q
   ·rw[q];rename_i h1 h2;have hlt:(d:Int).toNat<p.length:=DB
    refine(Zhv (by have:=h.six;omega) h.a.h (h.may _ ?_) b).1;rw[Aa,Ad hlt];exact A8 hlt
theorem Zrx{x:Inst}{n:Nat}{p:zH}(h:PlanG x n p)(a o d:Nat)(b:Int)(ha:a<x.cust.length){S:Store}{id v:Nat}(hS:S id=.cells v 245 (Q3 x p a o d b)):
  Spec prog 181 [.ptr id v 0] S (λ_ S'=>S'=S.set id (.cells v 245 (Q3 x (wu x n p [a]).1 a o d b))):=by
 have hr:=Zrq h a ha;generalize wu x n p [a]=r at *;obtain⟨q,ok⟩:=r;simp only at hr ⊢;refine yi func181 ntmps181 results181 λnx hd=>?_
 have hlt:id<nx:=yU hd hS DC;have xw:=λobs=>(zE (S:=S) (obs:=obs) hlt).trans hS
 have g1:¬nx<=id:=DB
 refine zB (some []) (Row.pures [0,1,2,3,5,6,7,9,10,11] (.alt 4 (.alt 8 (.alt 12 (Row.pures [13,14,15,16,17,18] (.alt 19 (.done) .stop)) .stop) (.alt 12 (.alt 8 (Row.pures [13,14,15,16,17,18] (.alt 19 (.done) .stop)) .stop) .stop)) (.alt 8 (.alt 4 (.alt 12 (Row.pures [13,14,15,16,17,18] (.alt 19 (.done) .stop)) .stop) (.alt 12 (.alt 4 (Row.pures [13,14,15,16,17,18] (.alt 19 (.done) .stop)) .stop) .stop)) (.alt 12 (.alt 4 (.alt 8 (Row.pures [13,14,15,16,17,18] (.alt 19 (.done) .stop)) .stop) (.alt 8 (.alt 4 (Row.pures [13,14,15,16,17,18] (.alt 19 (.done) .stop)) .stop) .stop)) .stop)))) mixed (zt xw g1) ?_
 repeat' refine And.intro ?_ ?_
 all_goals
  refine zP (hr) (zt xw g1) ?_;exact⟨_,_,rfl,by simp,zU (ZX hd hlt _)⟩
theorem Zry{x:Inst}{n:Nat}{p:zH}(h:PlanG x n p)(a o d:Nat)(b:Int)(ha:a<x.cust.length)(ho:o<x.cust.length){S:Store}{id v:Nat}(hS:S id=.cells v 245 (Q3 x p a o d b)):
  Spec prog 182 [.ptr id v 0] S (λ_ S'=>S'=S.set id (.cells v 245 (Q3 x (uO x n p a o).1 a o d b))):=by
 have hr:=Zrr h a o ha ho;generalize uO x n p a o=r at *;obtain⟨q,ok⟩:=r;simp only at hr ⊢;refine yi func182 ntmps182 results182 λnx hd=>?_
 have hlt:id<nx:=yU hd hS DC;have xw:=λobs=>(zE (S:=S) (obs:=obs) hlt).trans hS
 have g1:¬nx<=id:=DB
 refine zB (some []) (Row.pures [0,1,2,3,5,6,7,9,10,11,13,14,15] (.alt 4 (.alt 8 (.alt 12 (.alt 16 (Row.pures [17,18,19,20,21,22] (.alt 23 (.done) .stop)) .stop) (.alt 16 (.alt 12 (Row.pures [17,18,19,20,21,22] (.alt 23 (.done) .stop)) .stop) .stop)) (.alt 12 (.alt 8 (.alt 16 (Row.pures [17,18,19,20,21,22] (.alt 23 (.done) .stop)) .stop) (.alt 16 (.alt 8 (Row.pures [17,18,19,20,21,22] (.alt 23 (.done) .stop)) .stop) .stop)) (.alt 16 (.alt 8 (.alt 12 (Row.pures [17,18,19,20,21,22] (.alt 23 (.done) .stop)) .stop) (.alt 12 (.alt 8 (Row.pures [17,18,19,20,21,22] (.alt 23 (.done) .stop)) .stop) .stop)) .stop))) (.alt 8 (.alt 4 (.alt 12 (.alt 16 (Row.pures [17,18,19,20,21,22] (.alt 23 (.done) .stop)) .stop) (.alt 16 (.alt 12 (Row.pures [17,18,19,20,21,22] (.alt 23 (.done) .stop)) .stop) .stop)) (.alt 12 (.alt 4 (.alt 16 (Row.pures [17,18,19,20,21,22] (.alt 23 (.done) .stop)) .stop) (.alt 16 (.alt 4 (Row.pures [17,18,19,20,21,22] (.alt 23 (.done) .stop)) .stop) .stop)) (.alt 16 (.alt 4 (.alt 12 (Row.pures [17,18,19,20,21,22] (.alt 23 (.done) .stop)) .stop) (.alt 12 (.alt 4 (Row.pures [17,18,19,20,21,22] (.alt 23 (.done) .stop)) .stop) .stop)) .stop))) (.alt 12 (.alt 4 (.alt 8 (.alt 16 (Row.pures [17,18,19,20,21,22] (.alt 23 (.done) .stop)) .stop) (.alt 16 (.alt 8 (Row.pures [17,18,19,20,21,22] (.alt 23 (.done) .stop)) .stop) .stop)) (.alt 8 (.alt 4 (.alt 16 (Row.pures [17,18,19,20,21,22] (.alt 23 (.done) .stop)) .stop) (.alt 16 (.alt 4 (Row.pures [17,18,19,20,21,22] (.alt 23 (.done) .stop)) .stop) .stop)) (.alt 16 (.alt 4 (.alt 8 (Row.pures [17,18,19,20,21,22] (.alt 23 (.done) .stop)) .stop) (.alt 8 (.alt 4 (Row.pures [17,18,19,20,21,22] (.alt 23 (.done) .stop)) .stop) .stop)) .stop))) (.alt 16 (.alt 4 (.alt 8 (.alt 12 (Row.pures [17,18,19,20,21,22] (.alt 23 (.done) .stop)) .stop) (.alt 12 (.alt 8 (Row.pures [17,18,19,20,21,22] (.alt 23 (.done) .stop)) .stop) .stop)) (.alt 8 (.alt 4 (.alt 12 (Row.pures [17,18,19,20,21,22] (.alt 23 (.done) .stop)) .stop) (.alt 12 (.alt 4 (Row.pures [17,18,19,20,21,22] (.alt 23 (.done) .stop)) .stop) .stop)) (.alt 12 (.alt 4 (.alt 8 (Row.pures [17,18,19,20,21,22] (.alt 23 (.done) .stop)) .stop) (.alt 8 (.alt 4 (Row.pures [17,18,19,20,21,22] (.alt 23 (.done) .stop)) .stop) .stop)) .stop))) .stop))))) mixed (zt xw g1) ?_
 repeat' refine And.intro ?_ ?_
 all_goals
  refine zP (hr) (zt xw g1) ?_;exact⟨_,_,rfl,by simp,zU (ZX hd hlt _)⟩
theorem Zrz{x:Inst}{n:Nat}{p:zH}(h:PlanG x n p)(a o d:Nat)(b:Int)(hb:b<=9223372036854775807){S:Store}{id v:Nat}(hS:S id=.cells v 245 (Q3 x p a o d b)):
  Spec prog 183 [.ptr id v 0] S (λ_ S'=>S'=S.set id (.cells v 245 (Q3 x (vz x p d b).1 a o d b))):=by
 have hr:=Zrl h.m d b hb;generalize vz x p d b=r at *;obtain⟨q,ok⟩:=r;simp only at hr ⊢;refine yi func183 ntmps183 results183 λnx hd=>?_
 have hlt:id<nx:=yU hd hS DC;have xw:=λobs=>(zE (S:=S) (obs:=obs) hlt).trans hS
 have g1:¬nx<=id:=DB
 refine zB (some []) (Row.pures [0,1,2,3,5,6,7,9,10,11,13,14,15] (.alt 4 (.alt 8 (.alt 12 (.alt 16 (Row.pures [17,18,19,20,21,22] (.alt 23 (.done) .stop)) .stop) (.alt 16 (.alt 12 (Row.pures [17,18,19,20,21,22] (.alt 23 (.done) .stop)) .stop) .stop)) (.alt 12 (.alt 8 (.alt 16 (Row.pures [17,18,19,20,21,22] (.alt 23 (.done) .stop)) .stop) (.alt 16 (.alt 8 (Row.pures [17,18,19,20,21,22] (.alt 23 (.done) .stop)) .stop) .stop)) (.alt 16 (.alt 8 (.alt 12 (Row.pures [17,18,19,20,21,22] (.alt 23 (.done) .stop)) .stop) (.alt 12 (.alt 8 (Row.pures [17,18,19,20,21,22] (.alt 23 (.done) .stop)) .stop) .stop)) .stop))) (.alt 8 (.alt 4 (.alt 12 (.alt 16 (Row.pures [17,18,19,20,21,22] (.alt 23 (.done) .stop)) .stop) (.alt 16 (.alt 12 (Row.pures [17,18,19,20,21,22] (.alt 23 (.done) .stop)) .stop) .stop)) (.alt 12 (.alt 4 (.alt 16 (Row.pures [17,18,19,20,21,22] (.alt 23 (.done) .stop)) .stop) (.alt 16 (.alt 4 (Row.pures [17,18,19,20,21,22] (.alt 23 (.done) .stop)) .stop) .stop)) (.alt 16 (.alt 4 (.alt 12 (Row.pures [17,18,19,20,21,22] (.alt 23 (.done) .stop)) .stop) (.alt 12 (.alt 4 (Row.pures [17,18,19,20,21,22] (.alt 23 (.done) .stop)) .stop) .stop)) .stop))) (.alt 12 (.alt 4 (.alt 8 (.alt 16 (Row.pures [17,18,19,20,21,22] (.alt 23 (.done) .stop)) .stop) (.alt 16 (.alt 8 (Row.pures [17,18,19,20,21,22] (.alt 23 (.done) .stop)) .stop) .stop)) (.alt 8 (.alt 4 (.alt 16 (Row.pures [17,18,19,20,21,22] (.alt 23 (.done) .stop)) .stop) (.alt 16 (.alt 4 (Row.pures [17,18,19,20,21,22] (.alt 23 (.done) .stop)) .stop) .stop)) (.alt 16 (.alt 4 (.alt 8 (Row.pures [17,18,19,20,21,22] (.alt 23 (.done) .stop)) .stop) (.alt 8 (.alt 4 (Row.pures [17,18,19,20,21,22] (.alt 23 (.done) .stop)) .stop) .stop)) .stop))) (.alt 16 (.alt 4 (.alt 8 (.alt 12 (Row.pures [17,18,19,20,21,22] (.alt 23 (.done) .stop)) .stop) (.alt 12 (.alt 8 (Row.pures [17,18,19,20,21,22] (.alt 23 (.done) .stop)) .stop) .stop)) (.alt 8 (.alt 4 (.alt 12 (Row.pures [17,18,19,20,21,22] (.alt 23 (.done) .stop)) .stop) (.alt 12 (.alt 4 (Row.pures [17,18,19,20,21,22] (.alt 23 (.done) .stop)) .stop) .stop)) (.alt 12 (.alt 4 (.alt 8 (Row.pures [17,18,19,20,21,22] (.alt 23 (.done) .stop)) .stop) (.alt 8 (.alt 4 (Row.pures [17,18,19,20,21,22] (.alt 23 (.done) .stop)) .stop) .stop)) .stop))) .stop))))) mixed (zt xw g1) ?_
 repeat' refine And.intro ?_ ?_
 all_goals
  refine zP (hr) (zt xw g1) ?_;exact⟨_,_,rfl,by simp,zU (ZX hd hlt _)⟩
open Go Go.Proofs Hp
def Yw(x:Inst)(n:Nat)(p:zH)(s b:Int):zH :=
 if x.cust.length=0 then p else
  (vz x (uO x n (wu x n p [jG s x.cust.length]).1 (jG s x.cust.length) (jG (yG s) x.cust.length)).1 (jG (yG (yG s)) n) b).1
def Q4(x:Inst)(s:Int):Int:=if x.cust.length=0 then s else yG (yG (yG s))
theorem ZrA{x:Inst}{n:Nat}{p:zH}(h:PlanG x n p)(s b:Int):PlanG x n (Yw x n p s b):=by
 unfold Yw;split
 ·exact h
 ·rename_i h0;have ha:=Q1 s (n:=x.cust.length) DB;have ho:=Q1 (yG s) (n:=x.cust.length) DB;exact Zrw (ZhA (ZcL h _ DC (by simpa using ha)).1 _ _ ha ho).1 _ _
def Qi(p q1 q2 q3:zH)(k:Nat):zH:=if k=0 then p else if k=1 then q1 else if k=2 then q2 else q3
theorem ZhC(p q1 q2 q3:zH):Qi p q1 q2 q3 0=p:=if_pos rfl
theorem ZhD(p q1 q2 q3:zH):Qi p q1 q2 q3 1=q1:=by unfold Qi;rw[if_neg DH,if_pos rfl]
theorem ZhE(p q1 q2 q3:zH):Qi p q1 q2 q3 2=q2:=by unfold Qi;rw[if_neg DH,if_neg DH,if_pos rfl]
theorem ZhF(p q1 q2 q3:zH):Qi p q1 q2 q3 3=q3:=by unfold Qi;rw[if_neg DH,if_neg DH,if_neg DH]
theorem ZrB{x:Inst}{n:Nat}{p:zH}(h:PlanG x n p)(hn0:0<n)(s b:Int)(hb:b<=9223372036854775807){S:Store}{id v:Nat}(hS:S id=.cells v 179 (jS s)):
  Spec prog 129 [.agg (zD x),.agg [L p],.ptr id v 0,I b] S (λq S'=>q=.agg [L (Yw x n p s b)]/\S'=S.set id (.cells v 179 (jS (Q4 x s)))):=by
 have hcl:=h.clone;have h6:=h.six;have hxd:=h.a.days;have hn60:=h.a.n60
 by_cases hm:x.cust.length=0
 ·have e1:Yw x n p s b=p:=by unfold Yw;rw[if_pos hm]
  have e2:Q4 x s=s:=by unfold Q4;rw[if_pos hm]
  rw[e1,e2];refine yi func129 ntmps129 results129 λnx hd=>?_
  have hlt:id<nx:=yU hd hS DC;refine DK ?_;intro v0 v1 v2;refine ze (zB (some [nx,nx+1]) (Row.pures [0,1,2,3,4] (.alt 5 (Row.pures [6] .done) .stop)) mixed trivial ?_);refine zP (hcl) trivial ?_;intro v3;refine DK ?_
  repeat apply ze
  refine zg ?_;refine zo (by simp[Cl.1 hm]) ?_;refine DK ?_;have eS:S.set id (.cells v 179 (jS s))=S:=by
   rw[<-hS];funext i
   by_cases hi:i=id
   ·subst hi;exact q11 _ _ _
   ·exact q10 _ _ _ _ hi
  rw[eS];exact zj ⟨_,S,DD,⟨by simp[zq],rfl⟩,zU hd⟩
 have e1:Yw x n p s b=(vz x (uO x n (wu x n p [jG s x.cust.length]).1 (jG s x.cust.length) (jG (yG s) x.cust.length)).1 (jG (yG (yG s)) n) b).1:=by unfold Yw;rw[if_neg hm]
 have e2:Q4 x s=yG (yG (yG s)):=by unfold Q4;rw[if_neg hm]
 rw[e1,e2];have ha:=Q1 s (n:=x.cust.length) DB;have ho:=Q1 (yG s) (n:=x.cust.length) DB;have hdd:=Q1 (yG (yG s)) hn0;have b1:=λ(S:Store) hS=>X4 s x.cust.length DB DB (S:=S) (id:=id) (v:=v) hS
 have b2:=λ(S:Store) hS=>X4 (yG s) x.cust.length DB DB (S:=S) (id:=id) (v:=v) hS
 have b3:=λ(S:Store) hS=>X4 (yG (yG s)) n DB DB (S:=S) (id:=id) (v:=v) hS
 rw[<-hxd]at b3;have hp1:PlanG x n (wu x n p [jG s x.cust.length]).1:=(ZcL h _ DC (by simpa using ha)).1;have hp2:=(ZhA hp1 _ _ ha ho).1;generalize jG s x.cust.length=a at *;generalize jG (yG s) x.cust.length=o at *;generalize jG (yG (yG s)) n=d at *;generalize yG (yG s)=s2 at *;generalize yG s=s1 at *;generalize yG s2=s3 at *;have r1:=λ(S:Store) (i w:Nat) hS=>Zrx h a o d b ha (S:=S) (id:=i) (v:=w) hS
 have r2:=λ(S:Store) (i w:Nat) hS=>Zry hp1 a o d b ha ho (S:=S) (id:=i) (v:=w) hS
 have r3:=λ(S:Store) (i w:Nat) hS=>Zrz hp2 a o d b hb (S:=S) (id:=i) (v:=w) hS
 clear hp1 hp2;generalize (vz x (uO x n (wu x n p [a]).1 a o).1 d b).1=q3 at *;generalize (uO x n (wu x n p [a]).1 a o).1=q2 at *;generalize (wu x n p [a]).1=q1 at *;clear e1 e2;refine yi func129 ntmps129 results129 λnx hd=>?_
 have hlt:id<nx:=yU hd hS DC;have xw:=λobs=>(zE (S:=S) (obs:=obs) hlt).trans hS
 refine DK ?_;intro v0 v1 v2;refine ze (zB (some [nx,nx+1]) (Row.pures [0,1,2,3,4] (.alt 5 (Row.pures [6] .done) .stop)) mixed trivial ?_);refine zP (hcl) trivial ?_;intro v3;refine DK ?_
 repeat apply ze
 refine zg ?_;have hm2:¬x.cust=[]:=λe=>hm (by rw[e];rfl)
 refine zp (by simp[hm2]) ?_;refine zk (DK ?_);refine λhsuf=>((b1 _ (xw _)).mono ?_).v
 rintro _ _ ⟨rfl,rfl⟩;refine⟨_,_,yZ _ hlt,zQ hsuf ?_⟩;have hS1:(S.set id (.cells v 179 (jS s1))) id=.cells v 179 (jS s1):=q11 _ _ _;have hd1:=ZX hd hlt (.cells v 179 (jS s1));obtain⟨S1,hS1e⟩:∃S1,S1=S.set id (.cells v 179 (jS s1)):=⟨_,rfl⟩;rw[<-hS1e]at hS1 hd1 ⊢;have xw1:=λobs=>(zE (S:=S1) (obs:=obs) hlt).trans hS1
 refine DK ?_;refine λhsuf=>((b2 _ (xw1 _)).mono ?_).v
 rintro _ _ ⟨rfl,rfl⟩;refine⟨_,_,yZ _ hlt,zQ hsuf ?_⟩;have hS2:(S1.set id (.cells v 179 (jS s2))) id=.cells v 179 (jS s2):=q11 _ _ _;have hd2:=ZX hd1 hlt (.cells v 179 (jS s2));obtain⟨S2,hS2e⟩:∃S2,S2=S1.set id (.cells v 179 (jS s2)):=⟨_,rfl⟩;rw[<-hS2e]at hS2 hd2 ⊢;have xw2:=λobs=>(zE (S:=S2) (obs:=obs) hlt).trans hS2
 refine DK ?_;refine λhsuf=>((b3 _ (xw2 _)).mono ?_).v
 rintro _ _ ⟨rfl,rfl⟩;refine⟨_,_,yZ _ hlt,zQ hsuf ?_⟩;have hd3:=ZX hd2 hlt (.cells v 179 (jS s3));obtain⟨S3,hS3e⟩:∃S3,S3=S2.set id (.cells v 179 (jS s3)):=⟨_,rfl⟩;rw[<-hS3e]at hd3 ⊢
 repeat apply ze
 refine zg ?_;refine zn (zJ (λk:Nat=>k<=3) (λk=>[(8,.ptr (nx+2) v2 0),(9,.ptr (nx+3) v3 0),(53,.lst 3 [.fn (.func 181) [.ptr (nx+3) v3 0] [],.fn (.func 182) [.ptr (nx+3) v3 0] [],.fn (.func 183) [.ptr (nx+3) v3 0] []]),(54,I 3),(55,I k)]) (λk=>[.cells v0 25 (zD x),.cells v1 30 [L p],.cells v2 30 [yr],.cells v3 245 (Q3 x (Qi p q1 q2 q3 k) a o d b)]) (λk=>3-k) 0 [] DC DC (by simp[ZhC]) ?_);rintro k hk;refine DK ?_;refine ze (zz rfl (λhc=>?_) (λhc=>?_))
 ·simp at hc;refine zk (ze (zn ?_));obtain rfl | rfl | rfl:k=0\/k=1\/k=2:=DB
  ·refine DK ?_;refine zg ?_;refine λhsuf=>((r1 _ (nx+3) v3 (by rw[z7];simp[ZhC])).mono ?_).v
   rintro _ _ rfl;refine⟨S3,_,(by rw[yh _ (by omega) (by simp),AE]),zQ hsuf ?_⟩;refine zg ?_;exact zv 1 [] DB DB (by simp;exact wr 1 (by omega) (by omega)) rfl (by simp[ZhD])
  ·refine DK ?_;refine zg ?_;refine λhsuf=>((r2 _ (nx+3) v3 (by rw[z7];simp[ZhD])).mono ?_).v
   rintro _ _ rfl;refine⟨S3,_,(by rw[yh _ (by omega) (by simp),AE]),zQ hsuf ?_⟩;refine zg ?_;exact zv 2 [] DB DB (by simp;exact wr 2 (by omega) (by omega)) rfl (by simp[ZhE])
  ·refine DK ?_;refine zg ?_;refine λhsuf=>((r3 _ (nx+3) v3 (by rw[z7];simp[ZhE])).mono ?_).v
   rintro _ _ rfl;refine⟨S3,_,(by rw[yh _ (by omega) (by simp),AE]),zQ hsuf ?_⟩;refine zg ?_;exact zv 3 [] DB DB (by simp;exact wr 3 (by omega) (by omega)) rfl (by simp[ZhF])
 ·simp at hc;obtain rfl:k=3:=DB
  refine zC ?_;rw[ZhF];refine DK ?_;have eS:S.set id (.cells v 179 (jS s3))=S3:=by rw[hS3e,hS2e,hS1e,Store.set_set,Store.set_set]
  rw[eS];exact zj ⟨_,S3,DD,⟨by simp[zq],rfl⟩,zU hd3⟩
open Go Go.Proofs Hp
def xT(x:Inst)(n:Nat)(b:Int)(p:zH)(s:Int):Nat->zH × Int
 | 0=>(p,s)
 | k+1=>(Yw x n (xT x n b p s k).1 (xT x n b p s k).2 b,Q4 x (xT x n b p s k).2)
def ZY(x:Inst)(n:Nat)(b:Int)(p:zH)(s:Int)(k:Nat):List zH:=(List.range (k+1)).map λi=>(xT x n b p s i).1
theorem ZrC(x:Inst)(n:Nat)(b:Int)(p:zH)(s:Int):ZY x n b p s 0=[p]:=rfl
theorem ZhG(x:Inst)(n:Nat)(b:Int)(p:zH)(s:Int)(k:Nat):ZY x n b p s (k+1)=ZY x n b p s k++[(xT x n b p s (k+1)).1]:=by
 unfold ZY;rw[AT,List.map_append];rfl
theorem ZrD(x:Inst)(n:Nat)(b:Int)(p:zH)(s:Int)(k:Nat):(ZY x n b p s k).length=k+1:=by simp[ZY]
theorem ZcM{x:Inst}{n:Nat}{p:zH}(h:PlanG x n p)(b s:Int):∀k,PlanG x n (xT x n b p s k).1
 | 0=>h
 | k+1=>ZrA (ZcM h b s k) _ _
abbrev Q5(seed r b cl:Int):List PV:=[I seed,I r,I b,I cl]
theorem ZrE{x:Inst}{n:Nat}(hA:InstA x n)(hn0:0<n)(hmay:∀b,(jD x b).2=0->PlanG x n (jD x b).1)(seed:Int)(r:Nat)(hr:r<=1000)(b:Int)(hb:b<=9223372036854775807)(cl:Int)(fn:FuncId)(cs:List PV){S:Store}(St:List zH->Store)(hS0:St []=S)
  (hdead:∀nx,zX nx S->∀h,zX nx (St h))
  (hshow:∀nx,zX nx S->∀(h:List zH) (p:zH) (obs:List Ob),h.length<=1001->PlanG x n p->Spec prog fn ([.agg [L p]]++cs) (ext (St h) nx obs) (λ_ S'=>S'=ext (St (h++[p])) nx obs)) :
  Spec prog 84 [.agg (zD x),.agg (Q5 seed r b cl),.fn (.func fn) [] cs] S (λq S'=>q=I (jD x b).2/\S'=St (if (jD x b).2=0 then ZY x n b (jD x b).1 (IntKind.u64.wrap seed) r else [])):=by
 subst hS0;have hSt:=Zp6 hA hb;have hmay:=hmay b;generalize jD x b=st at *;obtain⟨p0,e⟩:=st;simp only at hSt hmay ⊢;refine yi func84 ntmps84 results84 λnx hd=>?_
 have hshow:=hshow nx hd;have hdead:=hdead nx hd;refine DK ?_;intro v0 v1;refine DK ?_;refine zu hSt ?_;intro v2
 by_cases he:e=0
 case neg =>
  rw[if_neg he]
  repeat apply ze
  refine zg ?_;refine zo (by simp[he]) ?_;refine DK ?_;exact zj ⟨_,_,rfl,⟨by simp[zq],rfl⟩,zU hd⟩
 subst he;rw[if_pos rfl];have hG:=hmay rfl;have hit:=ZcM hG b (IntKind.u64.wrap seed)
 repeat apply ze
 refine zg ?_;refine zp DC ?_;refine zk (DK ?_);refine λhsuf=>((hshow [] p0 _ DC hG).mono ?_).v
 rintro _ _ rfl;refine⟨_,_,rfl,zQ hsuf ?_⟩;refine DK ?_;refine λhsuf=>((ZhB seed jU).mono ?_).v
 rintro _ _ ⟨v3,rfl,rfl⟩;refine⟨_,_,qU _,zQ hsuf ?_⟩
 repeat apply ze
 refine zg ?_;have hz:ZY x n b p0 (IntKind.u64.wrap seed) 0=[]++[p0]:=rfl;generalize IntKind.u64.wrap seed=s0 at *;refine zn (jo (σ:=Nat) (λk=>k<=r) (λk=>[(2,.fn (.func fn) [] cs),(3,.ptr nx v0 0),(4,.ptr (nx+1) v1 0),(7,.ptr (nx+2) v2 0),(9,.ptr (nx+3) v3 0),(27,I r),(28,I k)]) (λk=>St (ZY x n b p0 s0 k)) (λk=>[.cells v0 25 (zD x),.cells v1 65 (Q5 seed r b cl),.cells v2 30 [L (xT x n b p0 s0 k).1],.cells v3 179 (jS (xT x n b p0 s0 k).2)]) (λk=>r-k) (zT 0 [] DC DC (by rw[ZrC]) (by simp[xT])) ?_);rintro k hk;have hgk:=hit k;have hgn:=hit (k+1);have hrd:=λ(S:Store) (id v:Nat) hS=>ZrB hgk hn0 (xT x n b p0 s0 k).2 b hb (S:=S) (id:=id) (v:=v) hS
 have hnx:Yw x n (xT x n b p0 s0 k).1 (xT x n b p0 s0 k).2 b=(xT x n b p0 s0 (k+1)).1:=rfl;have hnx2:Q4 x (xT x n b p0 s0 k).2=(xT x n b p0 s0 (k+1)).2:=rfl;have hhs:=ZhG x n b p0 s0 k;have hhl:=ZrD x n b p0 s0 k;rw[hnx,hnx2]at hrd;refine DK ?_;refine ze (zz rfl (λhc=>?_) (λhc=>?_))
 ·simp at hc;refine zk (ze (zn (DK ?_)));refine λhsuf=>((hrd _ (nx+3) v3 (by rw[z7];rfl)).mono ?_).v
  rintro _ _ ⟨rfl,rfl⟩;refine⟨_,_,yh _ DB DC,zQ hsuf ?_⟩
  try simp only[AE,AR,AW]
  refine zg ?_;refine λhsuf=>((hshow _ _ _ DB hgn).mono ?_).v
  rintro _ _ rfl;refine⟨_,_,rfl,zQ hsuf ?_⟩;refine zg ?_;exact zv (k+1) [] hc DB (by simp[zA k (by omega)]) (by rw[hhs]) DC
 ·simp at hc;obtain rfl:k=r:=DB
  refine zC (DK ?_);exact zj ⟨_,_,rfl,⟨by simp[zq],rfl⟩,zU (hdead _)⟩
open Go Go.Proofs Hp
structure InstK (x:Inst) (n:Nat):Prop where
 a:InstA x n
 kind:∀c∈x.cust,Zqb c
 start:∀c∈x.cust,c.start<=c.size
open Go Go.Proofs Hp
theorem ZrF(p:zH){S:Store}{id v:Nat}{old:PV}(hS:S id=.cells v 30 [old]):Spec prog 85 [.agg [L p],.ptr id v 0] S (λ_ S'=>S'=S.set id (.cells v 30 [L p])):=by
 refine yi func85 ntmps85 results85 λnx hd=>?_
 have hlt:id<nx:=yU hd hS DC;have xw:=λobs=>(zE (S:=S) (obs:=obs) hlt).trans hS
 have g1:¬nx<=id:=DB
 refine DK ?_;intro v0;refine zi [] (zt xw g1) ?_;exact⟨_,_,rfl,by simp,zU (ZX hd hlt _)⟩
def X5(h:List zH):PV:=match h.getLast? with
 | none=>yr
 | some p=>L p
theorem ZhH(h:List zH)(p:zH):X5 (h++[p])=L p:=by unfold X5;rw[List.getLast?_append];rfl
theorem ZrG(x:Inst)(n:Nat)(b:Int)(p:zH)(s:Int)(k:Nat):X5 (ZY x n b p s k)=L (xT x n b p s k).1:=by
 cases k with
 | zero=>rfl
 | succ k=>rw[ZhG,ZhH]
def Q6(x:Inst)(n:Nat)(seed:Int)(r:Nat)(b:Int):zH × Int :=
 if (jD x b).2=0 then ((xT x n b (jD x b).1 (IntKind.u64.wrap seed) r).1,0) else ([],(jD x b).2)
theorem ZrH{x:Inst}{n:Nat}(hA:InstA x n)(hn0:0<n)(hmay:∀b,(jD x b).2=0->PlanG x n (jD x b).1)(seed:Int)(r:Nat)(hr:r<=1000)(b:Int)(hb:b<=9223372036854775807)(cl:Int):
  Pure prog 35 [.agg (zD x),.agg (Q5 seed r b cl)] (.tup [.agg [L (Q6 x n seed r b).1],I (Q6 x n seed r b).2]):=by
 have hw:=λ(S:Store) fn cs St h1 h2 h3=>ZrE hA hn0 hmay seed r hr b hb cl fn cs (S:=S) St h1 h2 h3
 have hrz:Q6 x n seed r b=if (jD x b).2=0 then ((xT x n b (jD x b).1 (IntKind.u64.wrap seed) r).1,0) else ([],(jD x b).2):=rfl
 have hl:=λp s=>ZrG x n b p s r
 generalize jD x b=st at *;obtain⟨p0,e⟩:=st;simp only at hw hrz;generalize IntKind.u64.wrap seed=s0 at *;refine zx func35 ntmps35 results35 λS nx hd=>?_
 refine DK ?_;intro v0 v1 v2;refine DK ?_;intro v3;obtain⟨S1,hS1⟩:∃S1,S1=ext S nx [.cells v0 25 (zD x),.cells v1 65 (Q5 seed r b cl),.cells v2 30 [yr],.cells v3 30 [yr]]:=⟨_,rfl⟩;have h1:S1 (nx+3)=.cells v3 30 [yr]:=by rw[hS1,z7];rfl
 have hwk:=hw S1 85 [.ptr (nx+3) v3 0] (λh=>S1.set (nx+3) (.cells v3 30 [X5 h])) (by
   funext i
   by_cases hi:i=nx+3
   ·subst hi;rw[q11];exact h1.symm
   ·exact q10 _ _ _ _ hi) (λnx' hd' h=>ZX hd' (yU hd' h1 DC) _) (λnx' hd' h p obs _ _=>by
   have hlt:nx+3<nx':=yU hd' h1 DC;refine(ZrF p (id:=nx+3) (v:=v3) (old:=X5 h) (by rw[zE hlt];exact q11 _ _ _)).mono ?_;rintro _ _ rfl;rw[yZ _ hlt,Store.set_set,ZhH])
 rw[hS1]at hwk;refine DK ?_;refine λhsuf=>(hwk.mono ?_).v
 rintro _ _ ⟨rfl,rfl⟩;refine⟨_,_,yh _ DB DC,zQ hsuf ?_⟩
 try simp only[AE,AR,AW]
 by_cases he:e=0
 ·rw[if_pos he]at hrz;rw[hrz];simp only[if_pos he,hl];subst he;refine DK ?_;exact DL hd
 ·rw[if_neg he]at hrz;rw[hrz];simp only[if_neg he]
  show PW _ _ _ _ _ _ _ (ext _ _ _)
  refine DK ?_;refine yf 2 0 rfl rfl ?_;exact DL hd
open Go Go.Proofs Hp
structure MayP (x:Inst):Prop where
 days:1<=x.days/\x.days<=64
 cust:x.cust.length<=2000
 veh:0<=x.veh/\x.veh<=2147483648
 cap:0<=x.cap/\x.cap<=2147483648
 len:0<=x.len/\x.len<=2147483648
 custs:∀c∈x.cust,j6 c x.days=true
 dist:uJ x.dist (x.cust.length+1)=true
theorem X6{x:Inst}(h:yM x=true):MayP x:=by
 unfold yM at h;simp only[Ao,Az,decide_eq_true_eq,zR]at h;obtain⟨⟨⟨⟨⟨⟨h1,h2⟩,h3⟩,h4⟩,h5⟩,h6⟩,h7⟩:=h;exact⟨h1,h2,h3,h4,h5,h6,h7⟩
def ZrI(c:Cust)(d:Int):Prop:=c.kind=1/\(1<=c.demand/\c.demand<=2147483648)/\(∀p∈c.pats,wN p d<0)/\(1<=c.pats.length/\c.pats.length<=64)/\c.rate=0/\c.size=0/\c.start=0/\c.rule=0/\c.hold=0
def ZrJ(c:Cust):Prop:=c.kind=2/\(0<=c.rate/\c.rate<=2147483648)/\(1<=c.size/\c.size<=2147483648)/\(0<=c.start/\c.start<=c.size)/\(c.rule=1\/c.rule=2)/\(0<=c.hold/\c.hold<=1024)/\c.pats=[]/\c.demand=0
theorem ZhI{c:Cust}{d:Int}(h:j6 c d=true):ZrI c d\/ZrJ c:=by
 unfold j6 at h;split at h
 ·rename_i hk;simp only[Ao,zR,decide_eq_true_eq,xC,vQ,Az]at h;obtain⟨⟨h1,h2,h3⟩,h4⟩:=h;exact .inl ⟨hk,h1,h2,by omega,h4⟩
 ·split at h
  ·rename_i hk;simp only[Ao,zR,decide_eq_true_eq,vR,uu]at h;obtain⟨⟨⟨⟨⟨h1,h2⟩,h3⟩,h4⟩,h5⟩,h6,h7⟩:=h;exact .inr ⟨hk,h1,h2,h3,h4,h5,Ap h6,h7⟩
  ·cases h
theorem ZhJ{p n:Nat}(h:wN p n<0):∀d∈yy p 0 64,d<n:=by
 have h0:yy p (n:Int).toNat 64=[]:=by
  unfold wN at h;cases e:yy p (n:Int).toNat 64 with
  | nil=>rfl
  | cons a l =>
   rw[e]at h;obtain⟨k,rfl,-⟩:=VG (p:=p) (a:=(n:Int).toNat) (k:=64) (d:=a) (by rw[e];simp);simp only[List.headD_cons]at h;omega
 grind[Zga,List.filter_eq_nil_iff]
theorem ZrK{p n:Nat}(hp:p<2 ^ 64)(h:∀d∈yy p 0 64,d<(n:Int)):p<2 ^ n:=by
 apply Nat.lt_pow_two_of_testBit;intro i hi
 by_cases h64:i<64
 ·rw[ZbV,decide_eq_false_iff_not];intro hb;have:(i:Int)∈yy p 0 64:=by
   simp only[yy,Ar,Bi,AH,Ao,decide_eq_true_eq];exact⟨i,⟨h64,by omega,hb⟩,rfl⟩
  grind
 ·exact Dn (Bq hp (Cd DH DB))
theorem ZhK(n:Nat):∀(l:List (List Int)) (a:Nat),vn n a l=true->∀r∈l,r.length=n/\∀z∈r,0<=z/\z<=2147483648
 | [],_,_=>by simp
 | row :: l,a,h=>by
  simp only[vn,Ao,decide_eq_true_eq,Az,zR]at h;obtain⟨⟨⟨h1,h2⟩,h3⟩,h4⟩:=h;intro r hr;rcases Aw.1 hr with rfl | hr
  ·simp_all
  ·exact ZhK n l (a+1) h4 r hr
theorem ZcN{x:Inst}(h:uJ x.dist (x.cust.length+1)=true):x.dist.length=x.cust.length+1/\(∀r∈x.dist,r.length=x.cust.length+1/\∀z∈r,0<=z/\z<=2147483648)/\jf x/\arc x 0 0=0:=by
 unfold uJ at h;simp only[Ao,decide_eq_true_eq]at h;have hr:=ZhK _ _ _ h.2;refine⟨h.1,hr,λa b=>?_,?_⟩
 ·unfold arc;split
  ·omega
  ·rw[Aa,Aa];cases e:x.dist[a.toNat]? with
   | none=>simp
   | some r =>
    rw[Option.getD_some];cases e2:r[b.toNat]? with
    | none=>simp
    | some z=>exact(hr r (Ab e)).2 z (Ab e2)
 ·obtain⟨h1,h2⟩:=h;cases e:x.dist<;>simp_all[vn,arc]
structure InstQ (x:Inst) (n:Nat):Prop where
 k:InstK x n
 m:yM x=true
 t:InstT x n
 six:x.cust.length<=6
 n7:n<=7
theorem ZrL{x:Inst}{n:Nat}(h:yM x=true)(hp:∀c∈x.cust,∀p∈c.pats,p<2 ^ 64)(hn:x.days=n)(h7:n<=7)(h6:x.cust.length<=6):InstQ x n:=by
 have hm:=X6 h;obtain⟨d1,d2,d3,d4⟩:=ZcN hm.dist;have hc:=λc hc=>ZhI (hm.custs c hc)
 rw[hn]at hc;have hmade:∀c∈x.cust,CustMade c n:=λc hcm=>by
  rcases hc c hcm with ⟨k,a,b,l,r1,r2,r3,r4,r5⟩ | ⟨k,r,s,t,ru,ho,e,dm⟩
  ·exact⟨⟨by omega,by omega,by omega⟩,hp c hcm,by omega,λ_=>⟨λp hpm=>ZhJ (b p hpm),by omega,by omega⟩⟩
  ·exact⟨⟨by omega,by omega,by omega⟩,hp c hcm,by rw[e];simp,λh=>by omega⟩
 have nm:∀z:Int,0<=z->z<=2147483648->ZT z:=λz a b=>⟨a,by omega⟩
 refine⟨⟨⟨⟨by omega,d4,d3,hm.veh.1⟩,hn,by omega,hmade,λc hcm=>?_⟩,λc hcm=>?_,λc hcm=>?_⟩,h,⟨hn,by have:=hm.days;omega,by omega,⟨nm _ hm.veh.1 hm.veh.2,nm _ hm.cap.1 hm.cap.2,nm _ hm.len.1 hm.len.2⟩,by omega,λc hcm=>?_,d1,λr hr=>⟨(d2 r hr).1,λz hz=>nm z ((d2 r hr).2 z hz).1 ((d2 r hr).2 z hz).2⟩⟩,h6,h7⟩
 ·rcases hc c hcm with ⟨k,a,b,l,r1,r2,r3,r4,r5⟩ | ⟨k,r,s,t,ru,ho,e,dm⟩<;>grind
 ·rcases hc c hcm with ⟨k,a,b,l,r1,r2,r3,r4,r5⟩ | ⟨k,r,s,t,ru,ho,e,dm⟩
  ·exact .inl ⟨k,r4⟩
  ·exact .inr ⟨k,ru⟩
 ·rcases hc c hcm with ⟨k,a,b,l,r1,r2,r3,r4,r5⟩ | ⟨k,r,s,t,ru,ho,e,dm⟩<;>omega
 ·rcases hc c hcm with ⟨k,a,b,l,r1,r2,r3,r4,r5⟩ | ⟨k,r,s,t,ru,ho,e,dm⟩
  ·exact⟨.inl ⟨k,nm _ DB DB,λp hpm=>ZrK (hp c hcm p hpm) (ZhJ (b p hpm)),r1,r2,r3,r4,r5⟩⟩
  ·exact⟨.inr ⟨k,dm,e,nm _ DB DB,nm _ DB DB,nm _ DB DB,ru,nm _ DB DB⟩⟩
open Go Go.Proofs
def Zl(ls:List Ln):Bool:=vw (zK ls 1) [jM,jN,jO,jP] && vw (zK ls 2) [jQ]
def ZcO(ls:List Ln):Ln:=[(zK ls 1).getD 1 [],(zK ls 1).getD 3 [],(zK ls 1).getD 5 [],(zK ls 1).getD 7 [],(zK ls 2).getD 1 []]
theorem ZrM(ls:List Ln):vU ls=if zK ls 0=[wd,[49]]/\Zl ls=true then
  match yB (ZcO ls) with
  | some [d,v,c,l,m] =>
   if (yu ls 3 m.toNat).all (λl=>(qk d l).isSome)=true/\zK ls (3+m.toNat)=[xR]/\(yu ls (4+m.toNat) (m.toNat+1)).all (jE (m.toNat+1))=true/\ls.length=5+2*m.toNat then
    some (⟨d,v,c,l,(yu ls 3 m.toNat).map λl=>(xu d l).1,(yu ls (4+m.toNat) (m.toNat+1)).map λl=>l.map yl⟩,(yu ls 3 m.toNat).all λl=>(xu d l).2)
   else none
  | _=>none
 else none:=by
 unfold vU Zl
 by_cases h0:zK ls 0=[wd,[49]]
 ·rw[if_pos h0];simp only[h0,true_and,Ao];have e1:∀a b c d e:Wd,yB [a,b,c,d,e]=(yB [a,b,c,d]).bind λz=>(yB [e]).map (z++·):=by
   intro a b c d e;unfold yB
   by_cases q1:[a,b,c,d].all (λw=>(yX w).isSome)=true
   ·rw[if_pos q1]
    by_cases q2:[e].all (λw=>(yX w).isSome)=true
    ·rw[if_pos q2,if_pos (by simp at q1 q2 ⊢;simp[q1,q2])];rfl
    ·rw[if_neg q2,if_neg (by simp at q1 q2 ⊢;simp[q1,q2])];rfl
   ·rw[if_neg q1,if_neg (by simp at q1 ⊢;intro x1 x2 x3 x4;exact absurd x4 (by simpa using q1 x1 x2 x3))];rfl
  unfold ZcO;rw[e1];unfold qi
  by_cases n1:vw (zK ls 1) [jM,jN,jO,jP]=true
  ·rw[if_pos n1];have o1:xS (zK ls 1) [jM,jN,jO,jP].length=[(zK ls 1).getD 1 [],(zK ls 1).getD 3 [],(zK ls 1).getD 5 [],(zK ls 1).getD 7 []]:=rfl;have o2:xS (zK ls 2) [jQ].length=[(zK ls 2).getD 1 []]:=rfl;rw[o1,o2]
   by_cases n2:vw (zK ls 2) [jQ]=true
   ·rw[if_pos n2,if_pos ⟨n1,n2⟩];unfold yB;split
    ·rename_i x d v c l q;split at q
     ·rename_i q1;cases q;rw[if_pos q1];split
      ·rename_i x2 m q2;split at q2
       ·rename_i q3;cases q2;rw[if_pos q3];rfl
       ·cases q2
      ·rename_i x2 q2;split at q2
       ·exact absurd rfl (q2 _)
       ·rename_i q3;rw[if_neg q3];rfl
     ·cases q
    ·rename_i x q;split at q
     ·exact absurd rfl (q _ _ _ _)
     ·rename_i q1;rw[if_neg q1];rfl
   ·rw[if_neg n2,if_neg (λq=>n2 q.2)];split<;>rfl
  ·have:¬(vw (zK ls 1) [jM,jN,jO,jP]=true/\vw (zK ls 2) [jQ]=true):=λq=>n1 q.1
   rw[if_neg n1,if_neg this]
 ·rw[if_neg h0,if_neg (λq=>h0 q.1)]
theorem ZcP{l:Ln}{w:Wd}:vw l [w]=true<->∃b,l=[w,b]:=by
 unfold vw;constructor
 ·intro h;simp at h;obtain⟨h1,h2⟩:=h
  match l,h1 with
  | [a,b],_=>simp at h2;exact⟨b,by rw[h2]⟩
 ·rintro⟨b,rfl⟩;simp
theorem ZcQ{l:Ln}{p q r s:Wd}:vw l [p,q,r,s]=true<->∃a b c d,l=[p,a,q,b,r,c,s,d]:=by
 unfold vw;constructor
 ·intro h;simp only[Ao,decide_eq_true_eq,Az,AH]at h;obtain⟨h1,h2⟩:=h
  match l,h1 with
  | [a0,a1,a2,a3,a4,a5,a6,a7],_ =>
   have e0:=h2 0 DC;have e1:=h2 1 DC;have e2:=h2 2 DC;have e3:=h2 3 DC;simp at e0 e1 e2 e3;exact⟨a1,a3,a5,a7,by rw[e0,e1,e2,e3]⟩
 ·rintro⟨a,b,c,d,rfl⟩;simp only[Ao,decide_eq_true_eq,Az,AH];refine⟨rfl,λi hi=>?_⟩;have hi':i<4:=hi
  match i,hi' with
  | 0,_=>rfl
  | 1,_=>rfl
  | 2,_=>rfl
  | 3,_=>rfl
theorem Q7{l0 l1 l2 l3:Ln}{rest:List Ln}(h:¬((∃a b c d,l1=[jM,a,jN,b,jO,c,jP,d])/\∃m,l2=[jQ,m])):true=!Zl (l0 :: l1 :: l2 :: l3 :: rest):=by
 cases hh:Zl (l0 :: l1 :: l2 :: l3 :: rest) with
 | false=>rfl
 | true =>
  unfold Zl at hh;rw[Ao]at hh;exact absurd ⟨ZcQ.1 hh.1,ZcP.1 hh.2⟩ h
theorem ZrN{l0 l3:Ln}{rest:List Ln}{a b c d m:Wd}:false=!Zl (l0 :: [jM,a,jN,b,jO,c,jP,d] :: [jQ,m] :: l3 :: rest):=by
 have:Zl (l0 :: [jM,a,jN,b,jO,c,jP,d] :: [jQ,m] :: l3 :: rest)=true:=by
  unfold Zl;rw[Ao];exact⟨ZcQ.2 ⟨_,_,_,_,rfl⟩,ZcP.2 ⟨_,rfl⟩⟩
 rw[this];rfl
theorem ZrO{d:Int}{l:Ln}{c:Cust}{ok:Bool}(h:qk d l=some (c,ok))(h64:d<=64):vV d l=ok:=by
 match l,h with
 | w :: ls,h =>
  have h':(if w=jR then ZR d ls else if w=xg then (ux ls).map (·,true) else none)=some (c,ok):=h
  by_cases q:w=jR
  ·rw[if_pos q]at h'
   match ls,h' with
   | dw :: ps,h' =>
    rw[VO]at h';split at h'
    ·cases h';unfold vV;simp only[q,if_true];unfold ZV;congr 1;funext p;rw[decide_eq_decide];omega
    ·cases h'
  ·rw[if_neg q]at h';have hf:vV d (w :: ls)=true:=by
    unfold vV;split
    ·rename_i e;cases e;rw[if_neg q]
    ·rfl
   rw[hf];split at h'
   ·obtain⟨x,_,e⟩:=Am.1 h';cases e;rfl
   ·cases h'
theorem ZrP{d:Int}{l:List Ln}(h:l.all (λl=>(qk d l).isSome)=true)(h64:d<=64):l.all (vV d)=l.all λl=>(xu d l).2:=by
 induction l with
 | nil=>rfl
 | cons a l ih =>
  simp only[Cj,Ao]at h;simp only[Cj];rw[ih h.2];congr 1;cases e:qk d a with
  | none=>rw[e]at h;simp at h
  | some p=>obtain⟨c,ok⟩:=p;rw[ZrO e h64];unfold xu;rw[e];rfl
theorem ZrQ(t:List UInt8)(hl:t.length<=1048576):Pure prog 30 [T (bs t)] (.tup [.agg (zD (z8 t).1),I (z8 t).2]):=by
 have hlines:=Zq8 t hl;cases hz:qJ t with
 | none =>
  rw[hz]at hlines;simp only[Qe]at hlines;have hp:z8 t=(zI,2):=by unfold z8;rw[hz]
  rw[hp];refine zx func30 ntmps30 results30 λS nx hd=>?_
  repeat apply ze
  refine zg ?_;intro v0
  repeat apply ze
  refine zg ?_;intro v1
  repeat apply ze
  refine zg ?_;refine zu hlines ?_;intros
  repeat apply ze
  refine zi [(2,28)] zy ?_;intros
  repeat apply ze
  refine zo DC ?_
  (repeat apply ze);refine zg ?_;intros
  refine yf 0 4 rfl rfl ?_;refine yf 0 5 rfl rfl ?_
  repeat apply ze
  exact zj (zm hd DD (by simp[zI,zq]))
 | some ls =>
  rw[hz]at hlines;simp only[Qe]at hlines;have hfit:=ZcE hz hl;have hp:z8 t=match vU ls with
   | none=>(zI,2)
   | some (x,ok)=>if ok=true/\yM x=true then (x,0) else (zI,3):=by unfold z8;rw[hz];rfl
  have hrs:=ZrM ls;obtain⟨res,hres⟩:∃res,res=z8 t:=⟨_,rfl⟩;rw[<-hres];rw[<-hres]at hp;have hno:vU ls=none->res=(zI,2):=λh=>by rw[hp,h]
  obtain⟨ws,hws⟩:∃ws,ws=wl ls:=⟨_,rfl⟩;have hwn:ws.length=ls.length:=by rw[hws];simp
  rw[<-hws]at hlines;have k_tranter:yt .neq (bs wd) ⟨#[116,114,97,110,116,101,114]⟩=some (.bool false):=vx _;have k_days:yt .neq (bs jM) ⟨#[100,97,121,115]⟩=some (.bool false):=vx _;have k_vehicles:yt .neq (bs jN) ⟨#[118,101,104,105,99,108,101,115]⟩=some (.bool false):=vx _;have k_capacity:yt .neq (bs jO) ⟨#[99,97,112,97,99,105,116,121]⟩=some (.bool false):=vx _;have k_length:yt .neq (bs jP) ⟨#[108,101,110,103,116,104]⟩=some (.bool false):=vx _;have k_customers:yt .neq (bs jQ) ⟨#[99,117,115,116,111,109,101,114,115]⟩=some (.bool false):=vx _;have k_one:yt .neq (bs ([49]:Wd)) ⟨#[49]⟩=some (.bool false):=vx _;have k_distances:yt .neq (bs xR) ⟨#[100,105,115,116,97,110,99,101,115]⟩=some (.bool false):=vx _;refine zx func30 ntmps30 results30 λS nx hd=>?_
  repeat apply ze
  refine zg ?_;intro v0
  repeat apply ze
  refine zg ?_;intro v1
  repeat apply ze
  refine zg ?_;refine zu hlines ?_;intros
  by_cases h4:ls.length<4
  ·have hres2:res=(zI,2):=hno (by
    rw[hrs];split
    ·split
     ·rw[if_neg];rintro⟨-,-,-,h5⟩;omega
     ·rfl
    ·rfl)
   have h4':(ls.length:Int)<4:=DB
   repeat apply ze
   refine zi [(2,28)] (zF hwn h4 h4') ?_;intros
   repeat apply ze
   refine zo DC ?_
   (repeat apply ze);refine zg ?_;intros
   refine yf 0 4 rfl rfl ?_;refine yf 0 5 rfl rfl ?_
   repeat apply ze
   exact zj (zm hd DD (by simp[zI,zq,hres2]))
  have h4':¬(ls.length:Int)<4:=DB
  repeat apply ze
  refine zi [(2,28)] (zF hwn h4 h4') ?_;intros
  repeat apply ze
  refine zp DC ?_;refine zk ?_;obtain⟨l0,l1,l2,l3,rest,rfl⟩:∃a b c d e,ls=a :: b :: c :: d :: e:=by
   match ls,h4 with
   | a :: b :: c :: d :: e,_=>exact⟨a,b,c,d,e,rfl⟩
   | [],h=>simp at h
   | [_],h=>simp at h
   | [_,_],h=>simp at h
   | [_,_,_],h=>simp at h
  have i0:(0:Int)<(rest.length:Int)+1+1+1+1:=DB
  have i1:(1:Int)<(rest.length:Int)+1+1+1+1:=DB
  have i2:(2:Int)<(rest.length:Int)+1+1+1+1:=DB
  refine ze (ze ?_);rw[hws];refine qE (nx:=nx) (σ:=Bool) (λq=>q=!decide (l0=[wd,[49]])) (λq=>[(2,.ptr nx v0 0),(4,.ptr (nx+1) v1 0),(5,L ws),(54,B q)]) (λ_=>S) (λ_=>[.cells v0 25 [I 0,I 0,I 0,I 0,yJ,yJ],.cells v1 25 [I 0,I 0,I 0,I 0,yJ,yJ]]) ?_ ?_
  ·by_cases h2:l0.length=2
   ·obtain⟨a,b,rfl⟩:∃a b,l0=[a,b]:=by
     match l0,h2 with
     | [a,b],_=>exact⟨a,b,rfl⟩
    by_cases q0:a=wd
    rotate_left
    ·have f0:yt .neq (bs a) ⟨#[116,114,97,110,116,101,114]⟩=some (.bool true):=(wQ (v:=wd) q0).2
     repeat apply ze
     refine zi [(5,39),(13,47)] (zF i0 f0 zy) ?_;intros;exact zT true [] (by simp[q0]) (by simp[hws]) rfl DC
    subst q0
    by_cases q1:b=[49]
    rotate_left
    ·have f0:yt .neq (bs b) ⟨#[49]⟩=some (.bool true):=(wQ (v:=[49]) q1).2
     repeat apply ze
     refine zi [(5,39),(13,47)] (zF i0 k_tranter f0) ?_;intros;exact zT true [] (by simp[q1]) (by simp[hws]) rfl DC
    subst q1
    repeat apply ze
    refine zi [(5,39),(13,47)] (zF i0 k_tranter k_one) ?_;intros;exact zT false [] DC (by simp[hws]) rfl DC
   ·have h2':¬(l0.length:Int)=2:=DB
    have hne:¬l0=[wd,[49]]:=by rintro rfl;exact h2 rfl
    repeat apply ze
    refine zi [(5,39),(13,47)] (zN i0 h2 h2' zy) ?_;intros;exact zT true [] (by simp[hne]) (by simp[hws]) rfl DC
  ·rintro q rfl
   by_cases h0:l0=[wd,[49]]
   rotate_left
   ·have hres2:res=(zI,2):=hno (by rw[hrs,if_neg (λq=>h0 q.1)])
    repeat apply ze
    refine zo (by simp[h0]) ?_
    (repeat apply ze);refine zg ?_;intros
    refine yf 0 4 rfl rfl ?_;refine yf 0 5 rfl rfl ?_
    repeat apply ze
    exact zj (zm hd DD (by simp[zI,zq,hres2]))
   repeat apply ze
   refine zp (by simp[h0]) ?_;refine zk ?_;rw[hws]
   repeat apply ze
   refine zi [] i1 ?_;intros;refine ze (ze (qE (nx:=nx) (σ:=Bool) (λq=>q=!Zl (l0 :: l1 :: l2 :: l3 :: rest)) (λq=>[(2,.ptr nx v0 0),(4,.ptr (nx+1) v1 0),(5,L ws),(7,L (l1.map bs)),(100,B q)]) (λ_=>S) (λ_=>[.cells v0 25 [I 0,I 0,I 0,I 0,yJ,yJ],.cells v1 25 [I 0,I 0,I 0,I 0,yJ,yJ]]) ?_ ?_))
   ·by_cases h8:l1.length=8
    ·obtain⟨p0,p1,p2,p3,p4,p5,p6,p7,rfl⟩:∃a b c d e f g h,l1=[a,b,c,d,e,f,g,h]:=by
      match l1,h8 with
      | [a,b,c,d,e,f,g,h],_=>exact⟨a,b,c,d,e,f,g,h,rfl⟩
     by_cases q0:p0=jM
     rotate_left
     ·have f0:yt .neq (bs p0) ⟨#[100,97,121,115]⟩=some (.bool true):=(wQ (v:=jM) q0).2
      repeat apply ze
      refine zi [(3,62),(9,68),(15,74),(21,80),(27,86),(34,93)] (zF i2 f0 zy) ?_;intros;exact zT true [] (Q7 (by rintro⟨⟨_,_,_,_,e⟩,_,e'⟩;simp only[List.cons.injEq]at e e';simp_all)) (by simp[hws]) rfl DC
     subst q0
     by_cases q1:p2=jN
     rotate_left
     ·have f1:yt .neq (bs p2) ⟨#[118,101,104,105,99,108,101,115]⟩=some (.bool true):=(wQ (v:=jN) q1).2
      repeat apply ze
      refine zi [(3,62),(9,68),(15,74),(21,80),(27,86),(34,93)] (zN i2 k_days f1 zy) ?_;intros;exact zT true [] (Q7 (by rintro⟨⟨_,_,_,_,e⟩,_,e'⟩;simp only[List.cons.injEq]at e e';simp_all)) (by simp[hws]) rfl DC
     subst q1
     by_cases q2:p4=jO
     rotate_left
     ·have f2:yt .neq (bs p4) ⟨#[99,97,112,97,99,105,116,121]⟩=some (.bool true):=(wQ (v:=jO) q2).2
      repeat apply ze
      refine zi [(3,62),(9,68),(15,74),(21,80),(27,86),(34,93)] (yq i2 k_days k_vehicles f2 zy) ?_;intros;exact zT true [] (Q7 (by rintro⟨⟨_,_,_,_,e⟩,_,e'⟩;simp only[List.cons.injEq]at e e';simp_all)) (by simp[hws]) rfl DC
     subst q2
     by_cases q3:p6=jP
     rotate_left
     ·have f3:yt .neq (bs p6) ⟨#[108,101,110,103,116,104]⟩=some (.bool true):=(wQ (v:=jP) q3).2
      repeat apply ze
      refine zi [(3,62),(9,68),(15,74),(21,80),(27,86),(34,93)] (zS i2 k_days k_vehicles k_capacity f3 zy) ?_;intros;exact zT true [] (Q7 (by rintro⟨⟨_,_,_,_,e⟩,_,e'⟩;simp only[List.cons.injEq]at e e';simp_all)) (by simp[hws]) rfl DC
     subst q3
     by_cases h2:l2.length=2
     rotate_left
     ·have h2':¬(l2.length:Int)=2:=DB
      repeat apply ze
      refine zi [(3,62),(9,68),(15,74),(21,80),(27,86),(34,93)] (zS i2 k_days k_vehicles k_capacity k_length (zF h2 h2' zy)) ?_;intros;exact zT true [] (Q7 (by rintro⟨⟨_,_,_,_,e⟩,_,e'⟩;rw[e']at h2;simp at h2))  (by simp[hws]) rfl DC
     obtain⟨c0,c1,rfl⟩:∃a b,l2=[a,b]:=by
      match l2,h2 with
      | [a,b],_=>exact⟨a,b,rfl⟩
     by_cases q5:c0=jQ
     rotate_left
     ·have f5:yt .neq (bs c0) ⟨#[99,117,115,116,111,109,101,114,115]⟩=some (.bool true):=(wQ (v:=jQ) q5).2
      repeat apply ze
      refine zi [(3,62),(9,68),(15,74),(21,80),(27,86),(34,93)] (zS i2 k_days k_vehicles k_capacity k_length f5) ?_;intros;exact zT true [] (Q7 (by rintro⟨⟨_,_,_,_,e⟩,_,e'⟩;simp only[List.cons.injEq]at e e';simp_all)) (by simp[hws]) rfl DC
     subst q5
     repeat apply ze
     refine zi [(3,62),(9,68),(15,74),(21,80),(27,86),(34,93)] (zS i2 k_days k_vehicles k_capacity k_length k_customers) ?_;intros;exact zT false [] ZrN (by simp[hws]) rfl DC
    ·have h8':¬(l1.length:Int)=8:=DB
     repeat apply ze
     refine zi [(3,62),(9,68),(15,74),(21,80),(27,86),(34,93)] (zN i2 h8 h8' zy) ?_;intros;exact zT true [] (Q7 (by rintro⟨⟨_,_,_,_,e⟩,_,e'⟩;rw[e]at h8;simp at h8))  (by simp[hws]) rfl DC
   rintro q rfl;cases hhd:Zl (l0 :: l1 :: l2 :: l3 :: rest) with
   | false =>
    have hres2:res=(zI,2):=hno (by rw[hrs,if_neg (λq=>by rw[hhd]at q;cases q.2)])
    repeat apply ze
    refine zo DG ?_
    (repeat apply ze);refine zg ?_;intros
    refine yf 0 4 rfl rfl ?_;refine yf 0 5 rfl rfl ?_
    repeat apply ze
    exact zj (zm hd DD (by simp[zI,zq,hres2]))
   | true =>
    repeat apply ze
    refine zp DG ?_;refine zk ?_;have hhd2:=hhd;unfold Zl at hhd2;rw[Ao]at hhd2;obtain⟨p1,p3,p5,p7,e1⟩:=ZcQ.1 hhd2.1;obtain⟨c1,e2⟩:=ZcP.1 hhd2.2;obtain rfl:l1=[jM,p1,jN,p3,jO,p5,jP,p7]:=e1;obtain rfl:l2=[jQ,c1]:=e2;rw[if_pos ⟨h0,hhd⟩]at hrs;have hnum:=XY [p1,p3,p5,p7,c1] DC (λw hw=>by
     have a1:=(hfit.2 _ (by simp:[jM,p1,jN,p3,jO,p5,jP,p7]∈_)).2;have a2:=(hfit.2 _ (by simp:[jQ,c1]∈_)).2;simp at hw;rcases hw with rfl | rfl | rfl | rfl | rfl
     ·have:=a1 w DC;omega
     ·have:=a1 w DC;omega
     ·have:=a1 w DC;omega
     ·have:=a1 w DC;omega
     ·have:=a2 w DC;omega)
    have hhn:ZcO (l0 :: [jM,p1,jN,p3,jO,p5,jP,p7] :: [jQ,c1] :: l3 :: rest)=[p1,p3,p5,p7,c1]:=rfl;rw[hhn]at hrs;have hL5:L ([p1,p3,p5,p7,c1].map bs)=.lst 5 [T (bs p1),T (bs p3),T (bs p5),T (bs p7),T (bs c1)]:=rfl;rw[hL5]at hnum;obtain⟨ls,hls⟩:∃ls,ls=l0 :: [jM,p1,jN,p3,jO,p5,jP,p7] :: [jQ,c1] :: l3 :: rest:=⟨_,rfl⟩;have hlsn:ls.length=rest.length+4:=by rw[hls];rfl
    rw[<-hls]at hrs hno hp hfit hwn;have hn0:=hfit.1;cases hnz:yB [p1,p3,p5,p7,c1] with
    | none =>
     have hres2:res=(zI,2):=hno (by rw[hrs,hnz]);rw[hnz]at hnum;simp only[qY]at hnum;rw[hws]
     repeat apply ze
     refine zB none (Row.pures [0,1,2,3,4,5,6,7,8,9,10,11,12,13,14,15,16,17,18,19,20,21,22,23] .done) mixed i2 ?_;refine zP (hnum) trivial ?_;intros
     repeat apply ze
     refine zB none (Row.pures [0,1,2,3,4,5,6,7,8,9,10,11,12,13,14,15,16,17,18,19,20,21,22,23,24] .done) mixed zy ?_;intros
     repeat apply ze
     refine zo DC ?_
     (repeat apply ze);refine zg ?_;intros
     refine yf 0 4 rfl rfl ?_;refine yf 0 5 rfl rfl ?_
     repeat apply ze
     exact zj (zm hd DD (by simp[zI,zq,hres2]))
    | some zs =>
     obtain⟨d,v,c,l,m,hm0,hm1,rfl⟩:∃d v c l m,0<=m/\m<=1000000000000000000/\zs=[d,v,c,l,m]:=by
      unfold yB at hnz;split at hnz
      ·rename_i hq;cases hnz;refine⟨_,_,_,_,_,ZcD c1,?_,rfl⟩;unfold yl;cases hc1:yX c1 with
       | none=>simp
       | some z=>have:=Zgt hc1;simp;omega
      ·cases hnz
     rw[hnz]at hnum hrs;simp only[qY]at hnum hrs;have hLz:L [d,v,c,l,m]=.lst 5 [I d,I v,I c,I l,I m]:=rfl;rw[hLz]at hnum;obtain⟨M,rfl⟩:∃M:Nat,m=(M:Int):=⟨m.toNat,by omega⟩;simp only[AL]at hrs;have w1:W (3+(M:Int))=3+(M:Int):=wr _ DB DB;have w2:W (3+(M:Int)+1)=3+(M:Int)+1:=wr _ DB DB;have w3:W (3+(M:Int)+1+(M:Int))=3+(M:Int)+1+(M:Int):=wr _ DB DB;have w4:W (3+(M:Int)+1+(M:Int)+1)=3+(M:Int)+1+(M:Int)+1:=wr _ DB DB;have hwn2:((rest.length:Int)+1+1+1+1)=(ls.length:Int):=DB
     by_cases hM:ls.length=5+2*M
     rotate_left
     ·have hres2:res=(zI,2):=hno (by rw[hrs,if_neg (λq=>hM q.2.2.2)]);rw[hws]
      repeat apply ze
      refine zB none (Row.pures [0,1,2,3,4,5,6,7,8,9,10,11,12,13,14,15,16,17,18,19,20,21,22,23] .done) mixed i2 ?_;refine zP (hnum) trivial ?_;intros
      by_cases hbig:ls.length<M
      ·have hbig':(rest.length:Int)+1+1+1+1<(M:Int):=DB
       have hbig2:rest.length+1+1+1+1<M:=DB
       repeat apply ze
       refine zB none (Row.pures [0,1,2,3,4,5,6,7,8,9,10,11,12,13,14,15,16,17,18,19,20,21,22,23,24] .done) mixed (zF hbig' hbig2 zy) ?_;intros
       repeat apply ze
       refine zo DC ?_
       (repeat apply ze);refine zg ?_;intros
       refine yf 0 4 rfl rfl ?_;refine yf 0 5 rfl rfl ?_
       repeat apply ze
       exact zj (zm hd DD (by simp[zI,zq,hres2]))
      ·have hbig':¬(rest.length:Int)+1+1+1+1<(M:Int):=DB
       have hbig2:¬rest.length+1+1+1+1<M:=DB
       have hne:¬(rest.length:Int)+1+1+1+1=3+(M:Int)+1+(M:Int)+1:=DB
       repeat apply ze
       refine zB none (Row.pures [0,1,2,3,4,5,6,7,8,9,10,11,12,13,14,15,16,17,18,19,20,21,22,23,24] .done) mixed (zS hbig' hbig2 w1 w2 w3 (zt w4 hne)) ?_;intros
       repeat apply ze
       refine zo DC ?_
       (repeat apply ze);refine zg ?_;intros
       refine yf 0 4 rfl rfl ?_;refine yf 0 5 rfl rfl ?_
       repeat apply ze
       exact zj (zm hd DD (by simp[zI,zq,hres2]))
     have hbig':¬(rest.length:Int)+1+1+1+1<(M:Int):=DB
     have hbig2:¬rest.length+1+1+1+1<M:=DB
     have hne:((rest.length:Int)+1+1+1+1=3+(M:Int)+1+(M:Int)+1)=True:=eq_true DB;rw[hws]
     repeat apply ze
     refine zB none (Row.pures [0,1,2,3,4,5,6,7,8,9,10,11,12,13,14,15,16,17,18,19,20,21,22,23] .done) mixed i2 ?_;refine zP (hnum) trivial ?_;intros
     repeat apply ze
     refine zB none (Row.pures [0,1,2,3,4,5,6,7,8,9,10,11,12,13,14,15,16,17,18,19,20,21,22,23,24] .done) mixed (zS hbig' hbig2 w1 w2 w3 (zt w4 hne)) ?_;intros
     repeat apply ze
     refine zp DC ?_;refine zk ?_;have hM6:M<=600000:=DB
     (repeat apply ze);refine zg ?_;intros
     (repeat apply ze);refine zg ?_;intros
     repeat apply ze
     refine zB (some []) (Row.pures [0,1,2,3,4,5,6,7,8,9,10,11,12] (.alt 13 (.alt 14 (.done) .stop) .stop)) mixed trivial ?_;intros;rename_i v2;refine jd 2 4 87 8 rfl rfl λa0=>?_
     refine jd 2 5 26 1 rfl rfl λb0=>?_
     (repeat apply ze);refine zg ?_;intros
     have hla:∀k,k<ls.length->ws[k]?=some ((zK ls k).map bs):=λk hk=>by
      have hws':ws=wl ls:=by rw[hws,hls]
      rw[hws',wl,Ah,Ad hk];unfold zK;rw[Aa,Ad hk];rfl
     have hlne:∀k,k<ls.length->zK ls k≠[]:=λk hk=>by
      have:=(Zgr t.length (Af _) hz).2.1;rw[<-hls]at this;unfold zK;rw[Aa,Ad hk];exact this _ (A8 hk)
     repeat apply ze
     refine zn (zJ (λs:Nat × Nat=>s.1<=M/\(yu ls 3 s.1).all (λl=>(qk d l).isSome)=true) (λ(i,a)=>[(2,.ptr nx v0 0),(4,.ptr (nx+1) v1 0),(5,L ws),(8,L [d,v,c,l,(M:Int)]),(10,I M),(12,.ptr (nx+2) v2 0),(11,B ((yu ls 3 i).all (vV d))),(13,I i)]) (λ(i,a)=>[.cells v0 25 [I 0,I 0,I 0,I 0,yJ,yJ],.cells v1 25 [I 0,I 0,I 0,I 0,yJ,yJ],.cells v2 25 [I d,I v,I c,I l,.sl (nx+3) a 8 0 i,.sl (nx+4) b0 1 0 0],.cells a 87 ((yN ls d 3 i).flatMap Enc.enc),.cells b0 26 []]) (λs=>M-s.1) (0,a0) [] (by simp[yu]) (by simp[hws,hls,yu];try rfl) (by simp[yN,yu]) ?_);rintro⟨i,a⟩ ⟨hi,hall⟩;simp only at hi hall ⊢
     (repeat apply ze);refine zg ?_;intros
     repeat apply ze
     refine zz rfl (λhc=>?_) (λhc=>?_)
     ·simp at hc;have hil:3+i<ls.length:=DB
      obtain⟨sl,tl,b1,b2,b3,f0⟩:=zL rfl ws (3+i) (by rw[hwn];exact hil);obtain rfl:sl=(zK ls (3+i)).map bs:=by rw[hla _ hil]at b1;exact(Option.some.inj b1).symm
      have hat:=hfit.at (3+i);have hcu:=Zq5 (zK ls (3+i)) d (hlne _ hil) hat.1 hat.2;have j1:W (3+(i:Int))=3+(i:Int):=wr _ DB DB;have j2:3+(i:Int)<(ws.length:Int):=by rw[hwn];omega
      have j3:(0:Int)<=3+(i:Int):=DB
      have j4:(3+(i:Int)).toNat=3+i:=DB
      have hsuc:=Qg ls 3 i;have hcsuc:=ZcC ls d 3 i;have hcl:=VY ls d 3 i;have hbad:qk d (zK ls (3+i))=none->res=(zI,2):=λh=>hno (by
       rw[hrs,if_neg];rintro⟨q,-⟩;rw[VX (f:=λl=>(qk d l).isSome) hc (by simp only[h];rfl)]at q;cases q)
      have hcv:xu d (zK ls (3+i))=(qk d (zK ls (3+i))).getD default:=rfl;rw[hcv]at hcsuc;clear b1 b2 b3 hcv hat;generalize zK ls (3+i)=ln at *;refine zk (ze (zn ?_));cases hcz:qk d ln with
      | none =>
       have hres2:=hbad hcz;rw[VT hcz]at hcu
       repeat apply ze
       refine zB (some []) (Row.pures [0,1,2,3,4,5,6,7,8,9,10,11,12] (.alt 13 (.alt 14 (Row.pures [15,16] .done) .stop) .stop)) mixed (yq f0 j1 j2 j3 j4) ?_;refine zP (hcu) trivial ?_;intros
       (repeat apply ze);refine zg ?_;intros
       repeat apply ze
       refine zo DC ?_
       (repeat apply ze);refine zg ?_;intros
       refine yf 0 4 rfl rfl ?_;refine yf 0 5 rfl rfl ?_
       repeat apply ze
       exact zj (zm hd DD (by simp[zI,zq,hres2]))
      | some p =>
       obtain⟨cu,ok⟩:=p;have hrv:Zj d ln=.tup [.agg (yc cu),B true,B (vV d ln)]:=by unfold Zj;rw[hcz]
       rw[hrv]at hcu;rw[hcz]at hcsuc;have hcsuc:yN ls d 3 (i+1)=yN ls d 3 i++[cu]:=hcsuc;have hall':(yu ls 3 (i+1)).all (λl=>(qk d l).isSome)=true:=by rw[hsuc,Bv,hall];simp[hcz]
       have hfl:((yN ls d 3 i).flatMap Enc.enc:List PV).length=i*8:=by rw[qO,hcl];rfl
       have htk:List.take (i*8) ((yN ls d 3 i).flatMap Enc.enc:List PV)=(yN ls d 3 i).flatMap Enc.enc:=Ae (by rw[hfl];exact Af _);have hnx:((yN ls d 3 (i+1)).flatMap Enc.enc:List PV)=(yN ls d 3 i).flatMap Enc.enc++yc cu:=by rw[hcsuc,Al];simp
       repeat apply ze
       refine zB (some []) (Row.pures [0,1,2,3,4,5,6,7,8,9,10,11,12] (.alt 13 (.alt 14 (Row.pures [15,16] .done) .stop) .stop)) mixed (yq f0 j1 j2 j3 j4) ?_;refine zP (hcu) trivial ?_;intros;rename_i v5
       (repeat apply ze);refine zg ?_;intros
       repeat apply ze
       refine zp DC ?_;refine zk (ze (qE (nx:=nx) (σ:=Bool) (λt=>t=(yu ls 3 (i+1)).all (vV d)) (λt=>[(2,.ptr nx v0 0),(4,.ptr (nx+1) v1 0),(5,L ws),(8,L [d,v,c,l,(M:Int)]),(10,I M),(12,.ptr (nx+2) v2 0),(11,B t),(13,I i),(14,.ptr (nx+5) v5 0)]) (λ_=>S) (λ_=>[.cells v0 25 [I 0,I 0,I 0,I 0,yJ,yJ],.cells v1 25 [I 0,I 0,I 0,I 0,yJ,yJ],.cells v2 25 [I d,I v,I c,I l,.sl (nx+3) a 8 0 i,.sl (nx+4) b0 1 0 0],.cells a 87 ((yN ls d 3 i).flatMap Enc.enc),.cells b0 26 [],.cells v5 87 (yc cu)]) ?_ ?_))
       ·rw[hsuc,Bv];simp only[Cj,Do,CR];cases hb:(yu ls 3 i).all (vV d) with
        | false =>
         repeat apply ze
         refine zi [(1,188)] zy ?_;intros;exact zT false [] rfl DC rfl DC
        | true =>
         repeat apply ze
         refine zi [(1,188)] trivial ?_;intros;exact zT (vV d ln) [] rfl DC rfl DC
       ·rintro q rfl
        repeat apply ze
        refine zi [] htk ?_;refine⟨by omega,?_⟩;intros
        (repeat apply ze);refine zg ?_;intros
        exact zv (i+1,a+1) [.cells v5 87 (yc cu)] ⟨hc,hall'⟩ DB (by simp[zA i (by omega)]) rfl (by simp[hnx])
     ·simp at hc;obtain rfl:M=i:=DB
      refine zC ?_;obtain⟨lg,hlg⟩:∃lg,lg=(yu ls 3 M).all (vV d):=⟨_,rfl⟩;rw[<-hlg];have hil:3+M<ls.length:=DB
      obtain⟨sl,tl,b1,b2,b3,f0⟩:=zL rfl ws (3+M) (by rw[hwn];exact hil);obtain rfl:sl=(zK ls (3+M)).map bs:=by rw[hla _ hil]at b1;exact(Option.some.inj b1).symm
      have j2:3+(M:Int)<(ws.length:Int):=by rw[hwn];omega
      have j3:(0:Int)<=3+(M:Int):=DB
      have j4:(3+(M:Int)).toNat=3+M:=DB
      refine ze (ze (qE (nx:=nx) (σ:=Bool) (λq=>q=!decide (zK ls (3+M)=[xR])) (λq=>[(2,.ptr nx v0 0),(4,.ptr (nx+1) v1 0),(5,L ws),(8,L [d,v,c,l,(M:Int)]),(10,I M),(12,.ptr (nx+2) v2 0),(11,B lg),(213,B q)]) (λ_=>S) (λ_=>[.cells v0 25 [I 0,I 0,I 0,I 0,yJ,yJ],.cells v1 25 [I 0,I 0,I 0,I 0,yJ,yJ],.cells v2 25 [I d,I v,I c,I l,.sl (nx+3) a 8 0 M,.sl (nx+4) b0 1 0 0],.cells a 87 ((yN ls d 3 M).flatMap Enc.enc),.cells b0 26 []]) ?_ ?_))
      ·clear b1 b2 b3;generalize zK ls (3+M)=ln at *
       by_cases h1:ln.length=1
       ·obtain⟨x,rfl⟩:∃x,ln=[x]:=by
         match ln,h1 with
         | [x],_=>exact⟨x,rfl⟩
        by_cases q0:x=xR
        rotate_left
        ·have g0:yt .neq (bs x) ⟨#[100,105,115,116,97,110,99,101,115]⟩=some (.bool true):=(wQ (v:=xR) q0).2
         repeat apply ze
         refine zi [(7,204)] (zS f0 w1 j2 j3 j4 g0) ?_;intros;exact zT true [] (by simp[q0]) DC rfl DC
        subst q0
        repeat apply ze
        refine zi [(7,204)] (zS f0 w1 j2 j3 j4 k_distances) ?_;intros;exact zT false [] DC DC rfl DC
       ·have h1':¬(ln.length:Int)=1:=DB
        have hne:¬ln=[xR]:=by rintro rfl;exact h1 rfl
        repeat apply ze
        refine zi [(7,204)] (zS f0 w1 j2 j3 j4 (zF h1 h1' zy)) ?_;intros;exact zT true [] (by simp[hne]) DC rfl DC
      ·rintro q rfl
       by_cases hds:zK ls (3+M)=[xR]
       rotate_left
       ·have hres2:res=(zI,2):=hno (by rw[hrs,if_neg (λq=>hds q.2.1)])
        repeat apply ze
        refine zo (by simp[hds]) ?_
        (repeat apply ze);refine zg ?_;intros
        refine yf 0 4 rfl rfl ?_;refine yf 0 5 rfl rfl ?_
        repeat apply ze
        exact zj (zm hd DD (by simp[zI,zq,hres2]))
       repeat apply ze
       refine zp (by simp[hds]) ?_;refine zk ?_;clear b1 b2 b3 f0 j2 j3 j4 hil
       (repeat apply ze);refine zg ?_;intros
       repeat apply ze
       refine zn (zJ (λs:Nat × Nat=>s.1<=M+1/\(yu ls (4+M) s.1).all (jE (M+1))=true) (λ(i,b)=>[(2,.ptr nx v0 0),(4,.ptr (nx+1) v1 0),(5,L ws),(8,L [d,v,c,l,(M:Int)]),(10,I M),(12,.ptr (nx+2) v2 0),(11,B lg),(17,I i)]) (λ(i,b)=>[.cells v0 25 [I 0,I 0,I 0,I 0,yJ,yJ],.cells v1 25 [I 0,I 0,I 0,I 0,yJ,yJ],.cells v2 25 [I d,I v,I c,I l,.sl (nx+3) a 8 0 M,.sl (nx+4) b 1 0 i],.cells a 87 ((yN ls d 3 M).flatMap Enc.enc),.cells b 26 ((qD ls (4+M) i).flatMap Enc.enc)]) (λs=>M+1-s.1) (0,b0) [] (by simp[yu]) DC (by simp[qD,yu]) ?_);rintro⟨i,b⟩ ⟨hi,hrows⟩;simp only at hi hrows ⊢
       (repeat apply ze);refine zg ?_;intros
       repeat apply ze
       refine zz rfl (λhc=>?_) (λhc=>?_)
       ·simp at hc;have hiM:i<M+1:=DB
        have hil:4+M+i<ls.length:=DB
        obtain⟨sl,tl,b1,b2,b3,f0⟩:=zL rfl ws (4+M+i) (by rw[hwn];exact hil);obtain rfl:sl=(zK ls (4+M+i)).map bs:=by rw[hla _ hil]at b1;exact(Option.some.inj b1).symm
        have hat:=hfit.at (4+M+i);have hnr:=XY (zK ls (4+M+i)) hat.1 (λw hw=>by have:=hat.2 w hw;omega);have u1:W (4+(M:Int))=4+(M:Int):=wr _ DB DB;have u2:W (4+(M:Int)+(i:Int))=4+(M:Int)+(i:Int):=wr _ DB DB;have u3:W ((M:Int)+1)=(M:Int)+1:=wr _ DB DB;have j2:4+(M:Int)+(i:Int)<(ws.length:Int):=by rw[hwn];omega
        have j3:(0:Int)<=4+(M:Int)+(i:Int):=DB
        have j4:(4+(M:Int)+(i:Int)).toNat=4+M+i:=DB
        have hsuc:=Qg ls (4+M) i;have hdsuc:=Zhs ls (4+M) i;have hdl:=VZ ls (4+M) i;have hbad:jE (M+1) (zK ls (4+M+i))=false->res=(zI,2):=λh=>hno (by
         rw[hrs,if_neg];rintro⟨-,-,q,-⟩;rw[VX (f:=jE (M+1)) hiM h]at q;cases q)
        clear b1 b2 b3 hat;generalize zK ls (4+M+i)=ln at *;refine zk (ze (zn ?_));cases hnz2:yB ln with
        | none =>
         have hres2:=hbad (by unfold jE;rw[hnz2];rfl);rw[hnz2]at hnr;simp only[qY]at hnr
         repeat apply ze
         refine zi [] (zS f0 u1 u2 j2 j3 j4) ?_;refine zu hnr ?_;intros
         repeat apply ze
         refine zi [(2,233)] zy ?_;intros
         repeat apply ze
         refine zo DC ?_
         (repeat apply ze);refine zg ?_;intros
         refine yf 0 4 rfl rfl ?_;refine yf 0 5 rfl rfl ?_
         repeat apply ze
         exact zj (zm hd DD (by simp[zI,zq,hres2]))
        | some z =>
         have hzl:=Zcs hnz2;have hzm:ln.map yl=z:=by unfold yB at hnz2;split at hnz2<;>cases hnz2;rfl
         rw[hzm]at hdsuc;rw[hnz2]at hnr;simp only[qY]at hnr
         by_cases hlen:ln.length=M+1
         ·have hrow:jE (M+1) ln=true:=by unfold jE;rw[hnz2,hlen];simp
          have hzl':z.length=M+1:=DB
          have hrows':(yu ls (4+M) (i+1)).all (jE (M+1))=true:=by rw[hsuc,Bv,hrows];simp[hrow]
          have hfl:((qD ls (4+M) i).flatMap Enc.enc:List PV).length=i:=by rw[qO,hdl];exact B4 _
          have htk:List.take i ((qD ls (4+M) i).flatMap Enc.enc:List PV)=(qD ls (4+M) i).flatMap Enc.enc:=Ae (by rw[hfl];exact Af _);have hnx:((qD ls (4+M) (i+1)).flatMap Enc.enc:List PV)=(qD ls (4+M) i).flatMap Enc.enc++[L z]:=by rw[hdsuc,Al];rfl
          repeat apply ze
          refine zi [] (zS f0 u1 u2 j2 j3 j4) ?_;refine zu hnr ?_;intros
          repeat apply ze
          refine zi [(2,233)] (zt hzl' u3) ?_;intros
          repeat apply ze
          refine zp DC ?_;refine zk ?_
          repeat apply ze
          refine zi [] htk ?_;refine⟨by omega,?_⟩;intros
          (repeat apply ze);refine zg ?_;intros
          exact zv (i+1,b+1) [] ⟨by omega,hrows'⟩ DB (by simp[zA i (by omega)]) rfl (by simp[hnx])
         ·have hres2:=hbad (by unfold jE;rw[hnz2];simp[hlen]);have hzl':¬z.length=M+1:=DB
          have hzl'':¬(z.length:Int)=(M:Int)+1:=DB
          repeat apply ze
          refine zi [] (zS f0 u1 u2 j2 j3 j4) ?_;refine zu hnr ?_;intros
          repeat apply ze
          refine zi [(2,233)] (zF hzl' hzl'' u3) ?_;intros
          repeat apply ze
          refine zo DC ?_
          (repeat apply ze);refine zg ?_;intros
          refine yf 0 4 rfl rfl ?_;refine yf 0 5 rfl rfl ?_
          repeat apply ze
          exact zj (zm hd DD (by simp[zI,zq,hres2]))
       ·simp at hc;obtain rfl:i=M+1:=DB
        refine zC ?_;have hread:vU ls=some (⟨d,v,c,l,yN ls d 3 M,qD ls (4+M) (M+1)⟩,(yu ls 3 M).all λl=>(xu d l).2):=by rw[hrs,if_pos ⟨hall,hds,hrows,hM⟩];rfl
        have hmay:=ZoB _ (ZcF hread hfit);rw[hread]at hp;have hml:∀h:yM ⟨d,v,c,l,yN ls d 3 M,qD ls (4+M) (M+1)⟩=true,lg=(yu ls 3 M).all λl=>(xu d l).2:=λh=>by
         rw[hlg];exact ZrP hall (X6 h).days.2
        have hcl:=VY ls d 3 M;have hdl:=VZ ls (4+M) (M+1);generalize yN ls d 3 M=cu at *;generalize qD ls (4+M) (M+1)=dd at *;generalize (yu ls 3 M).all (λl=>(xu d l).2)=ok at *;have hfc:(cu.flatMap Enc.enc:List PV).length=M*8:=by rw[qO,hcl];rfl
        have hfd:(dd.flatMap Enc.enc:List PV).length=M+1:=by rw[qO,hdl];exact B4 _
        have hLc:PV.lst M (cu.flatMap Enc.enc)=L cu:=by unfold L;rw[hcl]
        have hLd:PV.lst (M+1) (dd.flatMap Enc.enc)=L dd:=by unfold L;rw[hdl]
        clear hlg hall hrows hds hrs hno hread hla hlne hfit;refine yb 3 rfl ?_;refine yb 4 rfl ?_
        repeat apply ze
        refine zi [] (zN hcl hdl hLc hLd) ?_;refine qP [] hmay (zN hcl hdl hLc hLd) ?_;intros;cases lg with
        | false =>
         have hres2:res=(zI,3):=by
          rw[hp];exact if_neg λq=>by have:=hml q.2;rw[q.1]at this;cases this
         repeat apply ze
         refine zi [(2,251)] zy ?_;intros
         repeat apply ze
         refine zo DC ?_
         (repeat apply ze);refine zg ?_;intros
         refine yf 0 4 rfl rfl ?_;refine yf 0 5 rfl rfl ?_
         repeat apply ze
         exact zj (zm hd DD (by simp[zI,zq,hres2]))
        | true =>
         cases hmy:yM ⟨d,v,c,l,cu,dd⟩ with
         | false =>
          have hres2:res=(zI,3):=by
           rw[hp];exact if_neg λq=>by rw[hmy]at q;cases q.2
          repeat apply ze
          refine zi [(2,251)] trivial ?_;intros
          repeat apply ze
          refine zo DC ?_
          (repeat apply ze);refine zg ?_;intros
          refine yf 0 4 rfl rfl ?_;refine yf 0 5 rfl rfl ?_
          repeat apply ze
          exact zj (zm hd DD (by simp[zI,zq,hres2]))
         | true =>
          have hres2:res=(⟨d,v,c,l,cu,dd⟩,0):=by
           rw[hp];exact if_pos ⟨(hml hmy).symm,hmy⟩
          repeat apply ze
          refine zi [(2,251)] trivial ?_;intros
          repeat apply ze
          refine zp DC ?_;refine zk ?_
          (repeat apply ze);refine zg ?_;intros
          repeat apply ze
          exact zj (zm hd DD (by simp[zq,hres2]))
open Go Go.Proofs
abbrev ZhL:Wd:=[111,117,116,99,111,109,101]
abbrev ZhM:Wd:=[109,97,108,102,111,114,109,101,100]
structure Rep where
 out:Int
 bound:Int
 cost:Int
 hold:Int
 days:List Int
 plan:zH
abbrev ZhN(r:Rep):List PV:=[I r.out,I r.bound,I r.cost,I r.hold,L r.days,L r.plan]
open Go Go.Proofs
section
variable {S:Store} {id v:Nat} {t s0 s1 s2 s3 x0 x1 x2 x3 x4 x5 r0 r1 r2 r3 r4 r5:PV}
theorem ZhO(u:List UInt8)(hl:u.length<=1048576)(hS:S id=.cells v 92 [T (bs u),s0,s1,s2,s3,x0,x1,x2,x3,x4,x5,r0,r1,r2,r3,r4,r5]):
  Spec prog 48 [.ptr id v 0] S (λq S'=>q=I (z8 u).2/\S'=S.set id (.cells v 92
   (if (z8 u).2=0 then [T (bs u),s0,s1,s2,s3]++zD (z8 u).1++[r0,r1,r2,r3,r4,r5] else [T (bs u),s0,s1,s2,s3,x0,x1,x2,x3,x4,x5,I (if (z8 u).2=2 then 1 else 2),r1,r2,r3,r4,r5]))):=by
 have hp:=Zri u hl;generalize z8 u=z at *;obtain⟨y,e⟩:=z;simp only at hp ⊢;refine yi func48 ntmps48 results48 λnx hd=>?_
 have hlt:id<nx:=qC hd hS DC;have xw:=λobs=>(zE (S:=S) (obs:=obs) hlt).trans hS
 have g1:¬nx<=id:=DB
 refine DK ?_;refine ze (zi [] xw ?_);refine qP [] hp xw ?_;intro v0
 repeat apply ze
 refine zg ?_;refine zn (DK ?_)
 by_cases he:e=0
 ·subst he;refine zo DC ?_;refine zi [] (zt xw g1) ?_;refine DK ?_;exact zj ⟨_,_,rfl,⟨by simp[zq],by simp⟩,zU (qw hd hlt _)⟩
 ·rw[if_neg he];refine zp (by simp[he]) ?_;refine DK ?_
  by_cases h2:e=2
  ·subst h2;refine zo DC ?_;refine zi [] (zt xw g1) ?_;refine DK ?_;exact zj ⟨_,_,rfl,⟨by simp[zq],by simp⟩,zU (qw hd hlt _)⟩
  ·rw[if_neg h2];refine zp (by simp[h2]) ?_;refine zi [] (zt xw g1) ?_;refine DK ?_;exact zj ⟨_,_,rfl,⟨by simp[zq],by simp⟩,zU (qw hd hlt _)⟩
theorem ZrR{a b:PV}{bd:Int}(hc:Pure prog 34 [.agg [x0,x1,x2,x3,x4,x5],s0,s3] (.tup [.agg [a,b],I bd]))(hS:S id=.cells v 92 [t,s0,s1,s2,s3,x0,x1,x2,x3,x4,x5,r0,r1,r2,r3,r4,r5]):
  Spec prog 49 [.ptr id v 0] S (λq S'=>q=I 0/\S'=S.set id (.cells v 92 [t,s0,s1,s2,s3,x0,x1,x2,x3,x4,x5,I 3,I bd,r2,r3,r4,r5])):=by
 refine yi func49 ntmps49 results49 λnx hd=>?_
 have hlt:id<nx:=qC hd hS DC;have xw:=λobs=>(zE (S:=S) (obs:=obs) hlt).trans hS
 have xo:∀(A:Ob) obs,ext (S.set id A) nx obs id=A:=λA obs=>(zE hlt).trans (q11 _ _ _)
 have g1:¬nx<=id:=DB
 refine DK ?_;refine ze (zi [] (zt xw g1) ?_);refine ze (zB (some []) (Row.pures [0,1,2,3,5,6,7,8,10,11,12,13] (.alt 4 (.alt 9 (.alt 14 (Row.pures [15,16,17,18,19,20,21] (.alt 22 (.done) .stop)) .stop) (.alt 14 (.alt 9 (Row.pures [15,16,17,18,19,20,21] (.alt 22 (.done) .stop)) .stop) .stop)) (.alt 9 (.alt 4 (.alt 14 (Row.pures [15,16,17,18,19,20,21] (.alt 22 (.done) .stop)) .stop) (.alt 14 (.alt 4 (Row.pures [15,16,17,18,19,20,21] (.alt 22 (.done) .stop)) .stop) .stop)) (.alt 14 (.alt 4 (.alt 9 (Row.pures [15,16,17,18,19,20,21] (.alt 22 (.done) .stop)) .stop) (.alt 9 (.alt 4 (Row.pures [15,16,17,18,19,20,21] (.alt 22 (.done) .stop)) .stop) .stop)) .stop)))) mixed (zF xw xo g1) ?_)
 repeat' refine And.intro ?_ ?_
 all_goals
  refine zP (hc) (zF xw xo g1) ?_;refine DK ?_;exact zj ⟨_,_,rfl,⟨by simp[zq],rfl⟩,zU (qw hd hlt _)⟩
def uP(e c:Int):Int:=if e=0 then c else e
theorem ZhP{p:zH}{e c:Int}(hr:Pure prog 35 [.agg [x0,x1,x2,x3,x4,x5],.agg [s0,s1,s2,s3]] (.tup [.agg [L p],I e]))(hc:e=0->Pure prog 67 [.agg [x0,x1,x2,x3,x4,x5],.agg [L p]] (I c))
  (hS:S id=.cells v 92 [t,s0,s1,s2,s3,x0,x1,x2,x3,x4,x5,r0,r1,r2,r3,r4,r5]) :
  Spec prog 50 [.ptr id v 0] S (λq S'=>q=I (uP e c)/\S'=S.set id (.cells v 92
   (if uP e c=0 then [t,s0,s1,s2,s3,x0,x1,x2,x3,x4,x5,I 4,r1,r2,r3,r4,L p] else [t,s0,s1,s2,s3,x0,x1,x2,x3,x4,x5,r0,r1,r2,r3,r4,r5]))):=by
 have hself:S=S.set id (.cells v 92 [t,s0,s1,s2,s3,x0,x1,x2,x3,x4,x5,r0,r1,r2,r3,r4,r5]):=(ZU S id _ hS).symm;unfold uP;refine yi func50 ntmps50 results50 λnx hd=>?_
 have hlt:id<nx:=qC hd hS DC;have xw:=λobs=>(zE (S:=S) (obs:=obs) hlt).trans hS
 have xo:∀(A:Ob) obs,ext (S.set id A) nx obs id=A:=λA obs=>(zE hlt).trans (q11 _ _ _)
 have g1:¬nx<=id:=DB
 refine DK ?_;refine ze (zB (some [id]) (Row.pures [0,1,2,3,4,5,6,7,8,9,10,11] (.alt 12 (.alt 13 (Row.pures [14] .done) .stop) .stop)) mixed (zt xw g1) ?_);refine zP (hr) (zt xw g1) ?_;intro v0
 repeat apply ze
 refine zg ?_
 by_cases he:e=0
 case neg =>
  simp only[if_neg he];refine zo (by simp[he]) ?_;refine DK ?_;exact zj ⟨_,_,rfl,⟨by simp[zq],hself⟩,zU hd⟩
 have hc2:=hc he;clear hc;simp only[if_pos he];subst he;refine zp DC ?_;refine zk ?_
 repeat apply ze
 refine zB (some [id,nx]) (Row.pures [0,1,2,3,4,5,6] .done) mixed (zt xw g1) ?_;refine zP (hc2) (zt xw g1) ?_;refine DK ?_
 by_cases h2:c=0
 case neg =>
  rw[if_neg h2];refine zo (by simp[h2]) ?_;refine DK ?_;exact zj ⟨_,_,rfl,⟨by simp[zq],hself⟩,zU hd⟩
 subst h2;rw[if_pos rfl];refine zp DC ?_;refine zk (ze (zB (some [nx]) (Row.pures [0,1,2,3,4,5] (.alt 6 (Row.pures [7,8,9] (.alt 10 (.done) .stop)) .stop)) mixed (zF xw xo g1) ?_))
 repeat' refine And.intro ?_ ?_
 all_goals
  refine DK ?_;exact zj ⟨_,_,rfl,⟨by simp[zq],rfl⟩,zU (qw hd hlt _)⟩
theorem ZrS{c h:Int}{ds:List Int}(hc:Pure prog 68 [.agg [x0,x1,x2,x3,x4,x5],.agg [r5]] (I c))(hh:Pure prog 69 [.agg [x0,x1,x2,x3,x4,x5],.agg [r5]] (I h))(hds:Pure prog 71 [.agg [x0,x1,x2,x3,x4,x5],.agg [r5]] (L ds))
  (hS:S id=.cells v 92 [t,s0,s1,s2,s3,x0,x1,x2,x3,x4,x5,r0,r1,r2,r3,r4,r5]) :
  Spec prog 51 [.ptr id v 0] S (λq S'=>q=I 0/\S'=S.set id (.cells v 92 [t,s0,s1,s2,s3,x0,x1,x2,x3,x4,x5,r0,r1,I c,I h,L ds,r5])):=by
 refine yi func51 ntmps51 results51 λnx hd=>?_
 have hlt:id<nx:=qC hd hS DC;have xw:=λobs=>(zE (S:=S) (obs:=obs) hlt).trans hS
 have xo:∀(A:Ob) obs,ext (S.set id A) nx obs id=A:=λA obs=>(zE hlt).trans (q11 _ _ _)
 have g1:¬nx<=id:=DB
 refine DK ?_;refine ze (zB (some []) (Row.pures [0,1,2,3,5,6,7,8] (.alt 4 (.alt 9 (Row.pures [10,11,12,13] (.alt 14 (.done) .stop)) .stop) (.alt 9 (.alt 4 (Row.pures [10,11,12,13] (.alt 14 (.done) .stop)) .stop) .stop))) mixed (zF xw xo g1) ?_)
 repeat' refine And.intro ?_ ?_
 all_goals
  refine zP (hc) (zF xw xo g1) ?_;refine ze (zB (some []) (Row.pures [0,1,2,3,5,6,7,8] (.alt 4 (.alt 9 (Row.pures [10,11,12,13] (.alt 14 (.done) .stop)) .stop) (.alt 9 (.alt 4 (Row.pures [10,11,12,13] (.alt 14 (.done) .stop)) .stop) .stop))) mixed (zF xw xo g1) ?_)
  repeat' refine And.intro ?_ ?_
  all_goals
   refine zP (hh) (zF xw xo g1) ?_;refine ze (zB (some []) (Row.pures [0,1,2,3,5,6,7,8] (.alt 4 (.alt 9 (Row.pures [10,11,12,13] (.alt 14 (.done) .stop)) .stop) (.alt 9 (.alt 4 (Row.pures [10,11,12,13] (.alt 14 (.done) .stop)) .stop) .stop))) mixed (zF xw xo g1) ?_)
   repeat' refine And.intro ?_ ?_
   all_goals
    refine zP (hds) (zF xw xo g1) ?_;refine DK ?_;exact zj ⟨_,_,rfl,⟨by simp[zq],rfl⟩,zU (qw hd hlt _)⟩
end
open Go Go.Proofs Hp
def yn(l:List Int)(i:Nat):Int:=if 1000<l.getD i 0 then 1000 else if l.getD i 0<0 then 0 else l.getD i 0
theorem J3(l:List Int)(i:Nat):0<=yn l i/\yn l i<=1000:=by unfold yn;split;omega;split<;>omega
theorem ZcR(l:List Int)(i:Nat)(hi:i<=100):Pure prog 118 [L l,I i] (I (yn l i)):=by
 refine zx func118 ntmps118 results118 λS nx hd=>?_
 refine DK ?_
 by_cases h1:i<l.length
 ·obtain⟨z,tl,a1,a2,a3,e0⟩:=zL rfl l i h1;have hz:l.getD i 0=z:=by rw[Aa,a1];rfl
  have hz1:1<=l.length-i:=DB
  have h1':¬l.length<=i:=DB
  unfold yn;rw[hz]
  by_cases h2:z<0
  ·rw[if_neg DB,if_pos h2]
   repeat apply ze
   refine zi [(4,9)] (yq e0 h1 h1' hz1 h2) ?_;refine zo rfl (DK ?_);exact zj (zm hd rfl rfl)
  ·by_cases h3:1000<z
   ·rw[if_pos h3]
    repeat apply ze
    refine zi [(4,9)] (yq e0 h1 h1' hz1 h2) ?_;refine zp rfl (zk ?_)
    repeat apply ze
    refine zi [] (zF e0 h1 hz1) ?_;refine zo (by simp[h3]) ?_;refine DK ?_;exact zj (zm hd rfl rfl)
   ·rw[if_neg h3,if_neg h2]
    repeat apply ze
    refine zi [(4,9)] (yq e0 h1 h1' hz1 h2) ?_;refine zp rfl (zk ?_)
    repeat apply ze
    refine zi [] (zF e0 h1 hz1) ?_;refine zp DF ?_;refine zk (ze (zi [] (zF e0 h1 hz1) ?_));exact zj (zm hd rfl rfl)
 ·have hz:l.getD i 0=0:=by rw[Aa,Ak DB];rfl
  unfold yn;rw[hz,if_neg DH,if_neg DH];have h1':l.length<=i:=DB
  repeat apply ze
  refine zi [(4,9)] (zt h1' zy) ?_;refine zo rfl (DK ?_);exact zj (zm hd rfl rfl)
def xv(l:List Int):Int:=l.getD 0 0
theorem ZrT(l:List Int):Pure prog 76 [L l] (.agg (Q5 (xv l) (yn l 1) (yn l 2) (yn l 3))):=by
 have t1:=ZcR l 1 DB;have t2:=ZcR l 2 DB;have t3:=ZcR l 3 DB;generalize yn l 1=r at *;generalize yn l 2=b at *;generalize yn l 3=c at *;refine zx func76 ntmps76 results76 λS nx hd=>?_
 refine DK ?_;intro v0;refine DK ?_;refine zu t1 ?_;refine zu t2 ?_;refine zu t3 ?_;intro v1
 by_cases h:0<l.length
 ·obtain⟨z,tl,a1,a2,a3,e0⟩:=zL rfl l 0 h;have hz:xv l=z:=by unfold xv;rw[Aa,a1];rfl
  have hz1:1<=l.length:=h;rw[C6]at e0;rw[hz]
  repeat apply ze
  refine zg ?_;refine zo (by simp[h]) ?_;refine zi [] (zF e0 h hz1) ?_;refine DK ?_;exact DL hd
 ·have hz:xv l=0:=by unfold xv;rw[Aa,Ak DB];rfl
  rw[hz];have hl:l=[]:=Cl.1 DB;subst hl
  repeat apply ze
  refine zg ?_;refine zp DC ?_;refine zk (DK ?_);exact DL hd
theorem ZrU(l:List Int):Pure prog 33 [L l] (.agg (Q5 (xv l) (yn l 1 % 9) (yn l 2 % 21) (yn l 3 % 13))):=by
 have hr:=ZrT l;have b1:=J3 l 1;have b2:=J3 l 2;have b3:=J3 l 3;have w1:(yn l 1).tmod 9=yn l 1 % 9:=BL DB;have w2:(yn l 2).tmod 21=yn l 2 % 21:=BL DB;have w3:(yn l 3).tmod 13=yn l 3 % 13:=BL DB;generalize yn l 1=r at *;generalize yn l 2=b at *;generalize yn l 3=c at *;generalize xv l=s at *;refine zx func33 ntmps33 results33 λS nx hd=>?_
 refine DK ?_;intro v0;refine DK ?_;refine zu hr ?_;intro v1;refine ze (zi [] w1 ?_);refine ze (zi [] w2 ?_);refine ze (zi [] w3 ?_);refine DK ?_;exact DL hd
open Go Go.Proofs Hp
def V3(id ver b:Nat):Rd:=⟨none,λC S w=>Rel C S w (.ptr id ver 0) (.pointer (some ⟨b,0,none⟩)),λst h=>Rel.mono st h⟩
theorem ZrV{P:Program}{n N:Nat}{c:Code}{Q:Exit->(Nat->PV)->Store->Prop}{F:Nat->PV}{S:Store}{x id ver e:Nat}{cs:List PV}(hF:F x=.ptr id ver 0)(hs:S id=.cells ver e cs)
  (h:∀b,PW P (V3 id ver b) n N c Q F S):PW P wU n N c Q F S:=by
 intro C w a st;have e1:=st.fr x;rw[hF]at e1;generalize hv:a.tmps.getD x undef=v at e1;cases e1 with
 | ptr h1 h2 h3 =>
  obtain⟨b,k,hl,rfl⟩:=(h3 ver (by rw[hs];rfl)).2 rfl;have:=h b C w a ⟨st.sim,st.size,st.fr,.ptr h1 h2 h3⟩;exact wpIn_mono this λe a' w' ⟨F',S',C',q1,q2,q3,q4⟩=>⟨F',S',C',q1,⟨q2.sim,q2.size,q2.fr,trivial⟩,q3,q4⟩
theorem ZrW{P:Program}{n:Nat}{F:Nat->PV}{S:Store}{o:Oper}{t e m id ver b et:Nat}{x:Operand}{cs:List PV}{K:PV->Store->Prop}(ho:o.op=.slice t x none none none)(ht:P.underlying t=some (.array m e))(hc:P.cellsOf e≠0)(hx:ev F x=.ptr id ver 0)(hs:S id=.cells ver et cs)
  (hK:K (.sc (.slice (some ⟨b,0,none⟩) m m)) S):PO P (V3 id ver b) n o F S K:=by
 intro G hG C w a N st next Q' hnext;have e1:=st.ev x;rw[(hG x (by simp[ho,Op.operands])).trans hx]at e1;have e2:Rel C S w (.ptr id ver 0) (.pointer (some ⟨b,0,none⟩)):=st.v;have hnd:∀c,o.op≠.defer c:=by intro c hc;rw[ho]at hc;cases hc
 generalize hv:a.eval x=v at e1;cases e1 with
 | ptr h1 h2 h3 =>
  obtain⟨b1,k1,hl,rfl⟩:=(h3 ver (by rw[hs];rfl)).2 rfl;cases e2 with
  | ptr i1 i2 i3 =>
   obtain⟨b2,k2,hl2,hb⟩:=(i3 ver (by rw[hs];rfl)).2 rfl;rw[hl]at hl2;cases hl2;cases hb;have hrun:(execOp a.eval o).run P w=.ok (.value (.slice (some ⟨b,0,none⟩) m m)) w:=by
    unfold execOp;simp[ho,hv,Instr.sliceAt,run_underlying ht,Instr.sureAddr,Instr.sliceBounds,wS hc];intro _;rfl
   exact qf hnd hrun (hnext _ _ _ _ _ hK (.sc _) st.sim (Step.refl _ _ _))
theorem X7{P:Program}{o:Oper}{s x:Operand}{t:TypeId}{a:Act}{w w':World}{v:Value}(ho:o.op=.call { callee:=.builtin .copy,args:=#[s,x],argTypes:=#[t,t] })
  (h:(Builtin.copy_ #[t,t] o.type #[a.eval s,a.eval x]).run P w=.ok v w'):(execOp a.eval o).run P w=.ok (.value v) w':=by
 unfold execOp
 grind[resolve,invoke,builtin,Sem.run_bind,Sem.run_pure,Result.andThen_ok]
theorem ZrX{P:Program}{n:Nat}{F:Nat->PV}{S:Store}{o:Oper}{s x:Operand}{t e b m id ver et:Nat}{cs l:List PV}{K:PV->Store->Prop}(ho:o.op=.call { callee:=.builtin .copy,args:=#[s,x],argTypes:=#[t,t] })(ht:P.underlying t=some (.slice e))(hz:(P.info? e).map (·.size)=some 1)
  (hs:ev F s=.sc (.slice (some ⟨b,0,none⟩) m m)) (hx:ev F x=.lst l.length l) (hid:S id=.cells ver et cs) (hm:cs.length=m)
  (hK:K (I (min l.length m:Nat)) (S.set id (.cells ver et (l.take m++cs.drop (min l.length m))))):PO P (V3 id ver b) n o F S K:=by
 intro G hG C w a N st next Q' hnext;have e1:=st.ev s;rw[(hG s (by grind[Op.operands,Call.operands])).trans hs]at e1;have e2:=st.ev x;rw[(hG x (by grind[Op.operands,Call.operands])).trans hx]at e2;have e3:Rel C S w (.ptr id ver 0) (.pointer (some ⟨b,0,none⟩)):=st.v;have hnd:∀c,o.op≠.defer c:=by intro c hc;rw[ho]at hc;cases hc
 generalize hv:a.eval s=v at e1;cases e1;generalize hu:a.eval x=u at e2;cases e3 with
 | ptr i1 i2 i3 =>
  obtain⟨b2,k,hl,hb⟩:=(i3 ver (by rw[hid];rfl)).2 rfl;cases hb;rcases st.sim.cells id ver et cs hid with ⟨hn,_⟩ | ⟨b',k',c,g1,g2,g3,g4,g5,g6⟩
  ·rw[hn]at hl;cases hl
  rw[hl]at g1;cases g1;have main:∀(vs:List Value) (a':Addr) (cap:Nat),u=.slice (some a') l.length cap->vs.length=min l.length m->(∀j v,vs[j]?=some v->w.cell? (a'.add j)=some v)->(∀v∈vs,v.oneCell'=true)->(∀(i:Nat) (p:PV) (v:Value),(l.take m)[i]?=some p->vs[i]?=some v->Rel C S w p v)->o.wpIn (Fe (V3 id ver b)) n P a w next Q':=by
   intro vs a' cap hu' hvl hcell hone hrel;have hrun0:=run_copy_row P w t t o.type e b 0 m m a' l.length cap c et vs ht hz g2 (by rw[hvl]) hcell DB hone;have hrun:=X7 (P:=P) (a:=a) (w:=w) ho (by rw[hv,hu,hu'];exact hrun0);simp only[CZ,AM,AQ]at hrun;generalize hw':w.setRow b (vs++c.toList.drop vs.length).toArray=w' at hrun;have hheap:w'.heap[b]?=some (.cells (vs++c.toList.drop vs.length).toArray et (0,0)):=by rw[<-hw'];exact setRow_heap w b c _ et _ g2
   have hgr:w.grownBy w' (some b)/\w.drawn<=w'.drawn:=by
    rw[<-hw'];exact⟨⟨rfl,rfl,rfl,by simp,λj hj hne=>setRow_other w b j _ (λe=>hne (by rw[e]))⟩,Af _⟩
   have hsize:(vs++c.toList.drop vs.length).toArray.size=k:=DF
   have htl:(l.take m).length=vs.length:=by rw[As,hvl];omega
   obtain⟨t1,t2⟩:=st.sim.turn (l:=C.loc id) (ver':=ver) (cs':=l.take m++cs.drop (min l.length m)) hid (Af _) (λ_=>rfl) (by rw[hl];exact hgr)
    (.inr ⟨b,k,_,hl,.inr (by rw[hl];rfl),hheap,hsize,by rw[Aq,Bj,htl];omega,λi z hi hz=>by
      rw[AA]at hz
      by_cases q1:i<vs.length
      ·rw[An q1]at hz;exact hone z (Ab hz)
      ·rw[Ai DB,AK]at hz;rw[Aq,Bj,htl]at hi;have e9:vs.length+(i-vs.length)=i:=DB
       rw[e9]at hz;exact g5 i z DB (by rw[<-Array.getElem?_toList];exact hz),
     λi p z hp hz=>by
      rw[AA]at hz
      by_cases q1:i<vs.length
      ·rw[An q1]at hz;rw[An DB]at hp;exact hrel i p z hp hz
      ·rw[Ai DB,AK]at hz;rw[Ai DB,AK,htl,<-hvl]at hp;have e9:vs.length+(i-vs.length)=i:=DB
       rw[e9]at hz hp;exact g6 i p z hp (by rw[<-Array.getElem?_toList];exact hz)⟩)
   have hres:goInt vs.length=Value.int .i64 ((min l.length m:Nat):Int):=by rw[hvl];rfl
   exact qf hnd hrun (hnext _ _ _ _ _ hK (by rw[hres];exact .sc _) t1 t2)
  generalize hk:l.length=kk at e2;cases e2 with
  | lst0 =>
   rename_i cap a';have hrun0:(Builtin.copy_ #[t,t] o.type #[a.eval s,a.eval x]).run P w=.ok (goInt 0) w:=by
    rw[hv,hu];cases hq:P.info? e with
    | none=>simp[hq]at hz
    | some i =>
     cases a'<;>simp[Builtin.copy_,run_underlying ht,Builtin.lenOf,Builtin.firstCells,sizeOf,typeInfo,hq,storeCells,loadCells,loadCellsFrom]
   have hrun:=X7 (P:=P) (a:=a) (w:=w) ho hrun0;have eS:S.set id (.cells ver et cs)=S:=by
    funext i
    by_cases hi:i=id
    ·grind[q11]
    ·grind[q10]
   simp only[A6,Nat.zero_min,Dd,C6,AM,eS]at hK;exact qf hnd hrun (hnext _ _ _ _ _ hK (.sc _) st.sim (Step.refl _ _ _))
  | lst1 hn hmx hb hM hs1 h1 h2 =>
   rename_i cap b' o' c' e' fz;subst hk;have hadd:∀j,(⟨b',o',none⟩:Addr).add j=⟨b',o'+j,none⟩:=by intro j;unfold Addr.add;split<;>simp_all
   have hat:∀(j:Nat) (v:Value),((c'.toList.drop o').take (min l.length m))[j]?=some v->j<min l.length m/\c'[o'+j]?=some v:=λj v hj=>by
    rw[BA]at hj;split at hj
    ·rename_i hlt;rw[AK,Array.getElem?_toList]at hj;exact⟨hlt,hj⟩
    ·cases hj
   refine main ((c'.toList.drop o').take (min l.length m)) ⟨b',o',none⟩ cap rfl ?_ ?_ ?_ ?_
   ·rw[As,Bj];have e9:c'.toList.length=c'.size:=Array.length_toList
    by_cases hl0:l=[]
    ·subst hl0;simp
    ·have:=hs1 hl0;omega
   ·intro j v hj;obtain⟨q1,q2⟩:=hat j v hj;rw[hadd];simp[World.cell?,hb,q2]
   ·intro v hv';obtain⟨j,hj⟩:=B3 hv';obtain⟨q1,q2⟩:=hat j v hj;exact h1 j v DB q2
   ·intro i p v hp hvi;obtain⟨q1,q2⟩:=hat i v hvi;rw[AI DB]at hp;exact h2 i p v hp q2
open Go Go.Proofs Hp
theorem ZrY(l:List Int)(i:Nat):min (max (l.getD i 0) 0) 1000=yn l i:=by
 unfold yn;split
 ·omega
 ·split<;>omega
theorem ZrZ(l:List Int):(l.flatMap Enc.enc:List PV).take 4++[I 0,I 0,I 0,I 0].drop (min (l.flatMap Enc.enc:List PV).length 4)=[I (l.getD 0 0),I (l.getD 1 0),I (l.getD 2 0),I (l.getD 3 0)]:=by
 match l with
 | []=>rfl
 | [a]=>simp
 | [a,b]=>simp
 | [a,b,c]=>simp
 | a :: b :: c :: d :: r =>
  have:min (((a :: b :: c :: d :: r).flatMap Enc.enc:List PV).length) 4=4:=by rw[qO];simp[Enc.sz]
  rw[this];simp
theorem ZhQ(l:List Int):Pure prog 47 [L l] (.agg (Q5 (xv l) (yn l 1) (yn l 2) (yn l 3))):=by
 have c1:=JO (l.getD 1 0) 0 1000;have c2:=JO (l.getD 2 0) 0 1000;have c3:=JO (l.getD 3 0) 0 1000;rw[ZrY]at c1 c2 c3;have ha:=ZrZ l;have hL:L l=.lst (l.flatMap Enc.enc:List PV).length (l.flatMap Enc.enc):=by
  show PV.lst l.length _=_
  congr 1;rw[qO];simp[Enc.sz]
 have hsd:xv l=l.getD 0 0:=rfl;rw[hsd,hL];generalize l.getD 0 0=z0 at *;generalize l.getD 1 0=z1 at *;generalize l.getD 2 0=z2 at *;generalize l.getD 3 0=z3 at *;generalize yn l 1=t1 at *;generalize yn l 2=t2 at *;generalize yn l 3=t3 at *;generalize (l.flatMap Enc.enc:List PV)=cs at *;refine zx func47 ntmps47 results47 λS nx hd=>?_
 refine DK ?_;intro v0;refine DK ?_;intro v1;refine ZrV (x:=3) (id:=nx+1) (ver:=v1) rfl (by rw[z7];rfl) λb=>?_
 refine DK ?_;refine λhsuf=>ZrW rfl underlying147 DC rfl (by rw[z7];rfl) ?_
 refine⟨_,_,rfl,zQ hsuf ?_⟩;refine λhsuf=>ZrX (id:=nx+1) (ver:=v1) rfl underlying26 DE rfl rfl (by rw[z7];rfl) rfl ?_
 rw[ha];refine⟨_,_,yh _ DB DC,zQ hsuf ?_⟩
 try simp only[AE,AR,AW]
 repeat apply ze
 refine zg ?_;refine zn (zJ (λk:Nat=>1<=k/\k<=4) (λk=>[(2,.ptr nx v0 0),(3,.ptr (nx+1) v1 0),(4,I k)]) (λk=>[.cells v0 65 [I 0,I 0,I 0,I 0],.cells v1 147 [I z0,I (if 1<k then t1 else z1),I (if 2<k then t2 else z2),I (if 3<k then t3 else z3)]]) (λk=>4-k) 1 [] DC DC DC ?_);rintro k ⟨hk1,hk⟩
 repeat apply ze
 refine zg ?_;refine zz rfl (λhc=>?_) (λhc=>?_)
 ·simp at hc;refine zk (ze (zn ?_));obtain rfl | rfl | rfl:k=1\/k=2\/k=3:=DB
  ·repeat apply ze
   refine zg ?_;refine zu c1 ?_;refine zg ?_;exact zv 2 [] DB DB (by simp;exact wr 2 (by omega) (by omega)) rfl DC
  ·repeat apply ze
   refine zg ?_;refine zu c2 ?_;refine zg ?_;exact zv 3 [] DB DB (by simp;exact wr 3 (by omega) (by omega)) rfl DC
  ·repeat apply ze
   refine zg ?_;refine zu c3 ?_;refine zg ?_;exact zv 4 [] DB DB (by simp;exact wr 4 (by omega) (by omega)) rfl DC
 ·simp at hc;obtain rfl:k=4:=DB
  refine zC (DK ?_);exact DL hd
open Go Go.Proofs Hp
def V4(x:Inst)(bd:Int)(p:zH)(e c:Int):Rep:=if uP e c=0 then ⟨4,bd,xQ x p,W (x9 x p x.cust.length),xP x p,p⟩ else ⟨3,bd,0,0,[],[]⟩
def V5(e:Int):Rep:=⟨if e=2 then 1 else 2,0,0,0,[],[]⟩
structure Below21 (x:Inst) (l:List Int) (bd:Int) (p:zH) (e c:Int):Prop where
 climb:∃a b,Pure prog 34 [.agg (zD x),I (xv l),I (yn l 3)] (.tup [.agg [a,b],I bd])
 run:Pure prog 35 [.agg (zD x),.agg [I (xv l),I (yn l 1),I (yn l 2),I (yn l 3)]] (.tup [.agg [L p],I e])
 chk:e=0->Pure prog 67 [.agg (zD x),.agg [L p]] (I c)
 cost:uP e c=0->Pure prog 68 [.agg (zD x),.agg [L p]] (I (xQ x p))
 hold:uP e c=0->Pure prog 69 [.agg (zD x),.agg [L p]] (I (W (x9 x p x.cust.length)))
 days:uP e c=0->Pure prog 71 [.agg (zD x),.agg [L p]] (L (xP x p))
theorem ZcS(u:List UInt8)(hl:u.length<=1048576)(l:List Int)(hz:(z8 u).2≠0):Pure prog 12 [T (bs u),L l] (.agg (ZhN (V5 (z8 u).2))):=by
 have hrd:=ZhQ l;have hpa:=λ(S:Store) (id v:Nat) (s0 s1 s2 s3 x0 x1 x2 x3 x4 x5 r0 r1 r2 r3 r4 r5:PV) hS=>ZhO (S:=S) (id:=id) (v:=v) (s0:=s0) (s1:=s1) (s2:=s2) (s3:=s3) (x0:=x0) (x1:=x1) (x2:=x2) (x3:=x3) (x4:=x4) (x5:=x5) (r0:=r0) (r1:=r1) (r2:=r2) (r3:=r3) (r4:=r4) (r5:=r5) u hl hS
 simp only[if_neg hz]at hpa;have hres:V5 (z8 u).2=⟨if (z8 u).2=2 then 1 else 2,0,0,0,[],[]⟩:=rfl;rw[hres];generalize (if (z8 u).2=2 then (1:Int) else 2)=o at *;generalize (z8 u).2=e at *;generalize xv l=s0 at *;generalize yn l 1=s1 at *;generalize yn l 2=s2 at *;generalize yn l 3=s3 at *;refine zx func12 ntmps12 results12 λS nx hd=>?_
 refine DK ?_;intro v0;refine DK ?_;refine zu hrd ?_;intro v1
 repeat apply ze
 refine zg ?_;refine zn (zJ (λk:Nat=>k=0) (λ_=>[(4,.ptr nx v0 0),(5,.ptr (nx+1) v1 0),(21,.lst 4 [.fn (.func 48) [.ptr (nx+1) v1 0] [],.fn (.func 49) [.ptr (nx+1) v1 0] [],.fn (.func 50) [.ptr (nx+1) v1 0] [],.fn (.func 51) [.ptr (nx+1) v1 0] []]),(22,I 4),(23,I 0)])
  (λ_=>[.cells v0 32 [I 0,I 0,I 0,I 0,yJ,yJ],.cells v1 92 [T (bs u),I s0,I s1,I s2,I s3,I 0,I 0,I 0,I 0,yJ,yJ,I 0,I 0,I 0,I 0,yJ,yJ]]) (λs=>s) 0 [] rfl (by simp[yR]) DC ?_)
 rintro k rfl;refine DK ?_;refine ze (zo DC ?_);refine zk (ze (zn (DK ?_)));refine DK ?_;refine λhsuf=>((hpa _ _ _ _ _ _ _ _ _ _ _ _ _ _ _ _ _ _ _ (by rw[z7];rfl)).mono ?_).v
 rintro _ _ ⟨rfl,rfl⟩;refine⟨_,_,yh _ DB DC,zQ hsuf ?_⟩;refine zo (by simp[hz]) ?_;refine zC (DK ?_);refine yf 0 4 rfl rfl ?_;refine yf 0 5 rfl rfl ?_;exact zj (zm hd DD (by simp[zq]))
theorem Zr0(u:List UInt8)(hl:u.length<=1048576)(l:List Int){bd:Int}{p:zH}{e c:Int}(hz:(z8 u).2=0)(hB:Below21 (z8 u).1 l bd p e c):Pure prog 12 [T (bs u),L l] (.agg (ZhN (V4 (z8 u).1 bd p e c))):=by
 have hrd:=ZhQ l;have hpa:=λ(S:Store) (id v:Nat) (s0 s1 s2 s3 x0 x1 x2 x3 x4 x5 r0 r1 r2 r3 r4 r5:PV) hS=>ZhO (S:=S) (id:=id) (v:=v) (s0:=s0) (s1:=s1) (s2:=s2) (s3:=s3) (x0:=x0) (x1:=x1) (x2:=x2) (x3:=x3) (x4:=x4) (x5:=x5) (r0:=r0) (r1:=r1) (r2:=r2) (r3:=r3) (r4:=r4) (r5:=r5) u hl hS
 simp only[if_pos hz]at hpa;obtain⟨⟨a,b,b1⟩,b2,b3,b4,b5,b6⟩:=hB;have hfz:V4 (z8 u).1 bd p e c=if uP e c=0 then ⟨4,bd,xQ (z8 u).1 p,W (x9 (z8 u).1 p (z8 u).1.cust.length),xP (z8 u).1 p,p⟩ else ⟨3,bd,0,0,[],[]⟩:=rfl
 rw[hfz];generalize (z8 u).2=e0 at *;generalize (z8 u).1=y at *;subst hz;generalize xQ y p=co at *;generalize W (x9 y p y.cust.length)=ho at *;generalize xP y p=ds at *;generalize xv l=s0 at *;generalize yn l 1=s1 at *;generalize yn l 2=s2 at *;generalize yn l 3=s3 at *;refine zx func12 ntmps12 results12 λS nx hd=>?_
 refine DK ?_;intro v0;refine DK ?_;refine zu hrd ?_;intro v1
 repeat apply ze
 refine zg ?_;refine zn (zJ (λk:Nat=>k<=4/\(3<=k->uP e c=0)) (λk=>[(4,.ptr nx v0 0),(5,.ptr (nx+1) v1 0),(21,.lst 4 [.fn (.func 48) [.ptr (nx+1) v1 0] [],.fn (.func 49) [.ptr (nx+1) v1 0] [],.fn (.func 50) [.ptr (nx+1) v1 0] [],.fn (.func 51) [.ptr (nx+1) v1 0] []]),(22,I 4),(23,I k)])
  (λk=>[.cells v0 32 [I 0,I 0,I 0,I 0,yJ,yJ],.cells v1 92 [T (bs u),I s0,I s1,I s2,I s3,if k=0 then I 0 else I y.days,if k=0 then I 0 else I y.veh,if k=0 then I 0 else I y.cap,if k=0 then I 0 else I y.len,if k=0 then yJ else L y.cust,if k=0 then yJ else L y.dist,
   if k<=1 then I 0 else if k=2 then I 3 else I 4,if k<=1 then I 0 else I bd,if k<=3 then I 0 else I co,if k<=3 then I 0 else I ho,if k<=3 then yJ else L ds,if k<=2 then yJ else L p]]) (λs=>4-s) 0 [] DC (by simp[yR]) DC ?_)
 rintro k ⟨hk,hk3⟩;refine DK ?_;refine ze (zz rfl (λhc=>?_) (λhc=>?_))
 ·simp at hc;refine zk (ze (zn ?_));obtain rfl | rfl | rfl | rfl:k=0\/k=1\/k=2\/k=3:=DB
  ·refine DK ?_;refine DK ?_;refine λhsuf=>((hpa _ _ _ _ _ _ _ _ _ _ _ _ _ _ _ _ _ _ _ (by rw[z7];rfl)).mono ?_).v
   rintro _ _ ⟨rfl,rfl⟩;refine⟨_,_,yh _ DB DC,zQ hsuf ?_⟩;refine zp DC ?_;refine zk (zg ?_);exact zv 1 [] DC DB (by simp;exact wr 1 (by omega) (by omega)) rfl DC
  ·refine DK ?_;refine DK ?_;refine λhsuf=>((ZrR b1 (by rw[z7];rfl)).mono ?_).v
   rintro _ _ ⟨rfl,rfl⟩;refine⟨_,_,yh _ DB DC,zQ hsuf ?_⟩;refine zp DC ?_;refine zk (zg ?_);exact zv 2 [] DC DB (by simp;exact wr 2 (by omega) (by omega)) rfl DC
  ·by_cases hf:uP e c=0
   ·refine DK ?_;refine DK ?_;refine λhsuf=>((ZhP b2 b3 (by rw[z7];rfl)).mono ?_).v
    rintro _ _ ⟨rfl,rfl⟩;simp only[hf,if_true];refine⟨_,_,yh _ DB DC,zQ hsuf ?_⟩;refine zp DC ?_;refine zk (zg ?_);exact zv 3 [] ⟨by omega,λ_=>by first | exact hf | trivial⟩ DB (by simp;exact wr 3 (by omega) (by omega)) rfl DC
   ·rw[if_neg hf];refine DK ?_;refine DK ?_;refine λhsuf=>((ZhP b2 b3 (by rw[z7];rfl)).mono ?_).v
    rintro _ _ ⟨rfl,rfl⟩;simp only[if_neg hf];refine⟨_,_,yh _ DB DC,zQ hsuf ?_⟩;refine zo (by simp[hf]) ?_;refine zC (DK ?_);refine yf 0 4 rfl rfl ?_;refine yf 0 5 rfl rfl ?_;exact zj (zm hd DD (by simp[zq]))
  ·have hf:=hk3 DB;refine DK ?_;refine DK ?_;refine λhsuf=>((ZrS (b4 hf) (b5 hf) (b6 hf) (by rw[z7];rfl)).mono ?_).v
   rintro _ _ ⟨rfl,rfl⟩;refine⟨_,_,yh _ DB DC,zQ hsuf ?_⟩;refine zp DC ?_;refine zk (zg ?_);exact zv 4 [] ⟨by omega,λ_=>hf⟩ DB (by simp;exact wr 4 (by omega) (by omega)) rfl DC
 ·simp at hc;obtain rfl:k=4:=DB
  rw[if_pos (hk3 DB)];refine zC (DK ?_);exact zj (zm hd DD (by simp[zq]))
open Go Go.Proofs
def J4(a b:Int):Int:=if a.tmod b≠0/\¬a<0 then W (W (a.tdiv b)+1) else W (a.tdiv b)
def Q8(c:Cust)(n:Int):Int:=q8 (W (W (c.rate*n)-c.start)) 0
theorem ZhR(c:Cust)(n:Int):Pure prog 205 [.agg (yc c),I n] (I (Q8 c n)):=by
 refine zx func205 ntmps205 results205 λS nx hd=>?_
 refine DK ?_;intro v0;refine DK ?_;exact zj (zm hd DD (by simp[zq,Q8]))
def Q9(c:Cust):Nat->Int × Int
 | 0=>(0,c.start)
 | k+1=>(W ((Q9 c k).1+q8 (W ((Q9 c k).2-c.rate)) 0),W ((Q9 c k).2-c.rate))
def V6(c:Cust)(n:Nat):Int:=W (c.hold*(Q9 c n).1)
theorem Zr1(c:Cust)(n:Nat)(hn:n<=1000):Pure prog 210 [.agg (yc c),I n] (I (V6 c n)):=by
 refine zx func210 ntmps210 results210 λS nx hd=>?_
 refine DK ?_;intro v0;refine ze (zB (some [nx]) (Row.pures [0,1,2,3] .done) mixed trivial ?_)
 repeat apply ze
 refine zg ?_;refine zn (zJ (λs:Nat × Int × Int=>s.1<=n/\s.2=Q9 c s.1) (λ(k,a,b)=>[(1,I n),(2,.ptr nx v0 0),(5,I a),(6,I b),(9,I n),(10,I k)]) (λ_=>[.cells v0 87 (yc c)]) (λs=>n-s.1) (0,0,c.start) [] ⟨by simp,rfl⟩ DC DC ?_);rintro⟨k,a,b⟩ ⟨hk,hs⟩;simp only at hk hs ⊢;have ha:a=(Q9 c k).1:=congrArg Prod.fst hs;have hb:b=(Q9 c k).2:=congrArg Prod.snd hs;refine DK ?_;refine ze (zz rfl (λhc=>?_) (λhc=>?_))
 ·simp at hc;refine zk (ze (zn (DK ?_)));refine zg ?_;refine zg ?_;exact zv (k+1,W (a+q8 (W (b-c.rate)) 0),W (b-c.rate)) [] ⟨hc,by rw[ha,hb];rfl⟩ DF (by simp[zA k (by omega)]) rfl DC
 ·simp at hc;obtain rfl:k=n:=DB
  refine zC (DK ?_);exact zj (zm hd DD (by simp[zq,V6,ha]))
theorem ZhS(a b:Int)(hb:0<b):Pure prog 165 [I a,I b] (.tup [I (J4 a b),B true]):=by
 have h0:¬b=0:=DB
 have h1:¬b=-1:=DB
 have h2:¬b<0:=DB
 have e1:J4 a b=if a.tmod b≠0/\¬a<0 then W (W (a.tdiv b)+1) else W (a.tdiv b):=rfl
 rw[e1];refine zx func165 ntmps165 results165 λS nx hd=>?_
 refine DK ?_;obtain⟨q,hm⟩:∃q:Prop,(a=-9223372036854775808)=q:=⟨_,rfl⟩
 by_cases hq:q
 all_goals
  repeat apply ze
  refine zi [(2,9),(5,12)] (yq h0 h1 hm hq zy) ?_;refine zp DC ?_;refine zk (ze (zi [] h0 ?_))
  by_cases h3:a.tmod b=0
  ·rw[if_neg (by simp[h3])]
   repeat apply ze
   refine zi [(4,24)] (zF h0 h3 zy) ?_;refine zp DC ?_;refine zk (DK ?_);exact DL hd
  ·by_cases h4:a<0
   ·rw[if_neg (by simp[h4])]
    repeat apply ze
    refine zi [(4,24)] (zN h0 h3 h4 h2) ?_;refine zp DC ?_;refine zk (DK ?_);exact DL hd
   ·rw[if_pos ⟨h3,h4⟩]
    repeat apply ze
    refine zi [(4,24)] (zN h0 h3 h4 h2) ?_;refine zo DC ?_;refine zg ?_;refine DK ?_;exact DL hd
def Yx(a b:Int):Int × Bool:=if a=0\/b=0 then (0,true) else if ¬W ((W (a*b)).tdiv b)=a\/(a=-9223372036854775808/\b=-1) then (0,false) else (W (a*b),true)
theorem Zr2(a b:Int):Pure prog 121 [I a,I b] (.tup [I (Yx a b).1,B (Yx a b).2]):=by
 unfold Yx
 by_cases h0:a=0
 ·rw[if_pos (.inl h0)];refine zx func121 ntmps121 results121 λS nx hd=>?_
  refine DK ?_
  repeat apply ze
  refine zi [(2,9)] (zt h0 zy) ?_;refine zo DC ?_;refine DK ?_;exact DL hd
 by_cases h1:b=0
 ·rw[if_pos (.inr h1)];refine zx func121 ntmps121 results121 λS nx hd=>?_
  refine DK ?_
  repeat apply ze
  refine zi [(2,9)] (zt h0 h1) ?_;refine zo DC ?_;refine DK ?_;exact DL hd
 rw[if_neg (by simp[h0,h1])]
 by_cases h2:W ((W (a*b)).tdiv b)=a
 ·by_cases h3:a=-9223372036854775808
  ·by_cases h4:b=-1
   ·rw[if_pos (.inr ⟨h3,h4⟩)];refine zx func121 ntmps121 results121 λS nx hd=>?_
    refine DK ?_
    repeat apply ze
    refine zi [(2,9)] (zt h0 h1) ?_;refine zp DC ?_;refine zk (DK ?_)
    repeat apply ze
    refine zi [(5,21),(8,24)] (zN h1 h2 (eq_true h3) (eq_true h4)) ?_;refine zo DC ?_;refine DK ?_;exact DL hd
   ·rw[if_neg (by simp[h2,h4])];refine zx func121 ntmps121 results121 λS nx hd=>?_
    refine DK ?_
    repeat apply ze
    refine zi [(2,9)] (zt h0 h1) ?_;refine zp DC ?_;refine zk (DK ?_)
    repeat apply ze
    refine zi [(5,21),(8,24)] (zN h1 h2 (eq_true h3) h4) ?_;refine zp DC ?_;refine zk (DK ?_);exact DL hd
  ·rw[if_neg (by simp[h2,h3])];refine zx func121 ntmps121 results121 λS nx hd=>?_
   refine DK ?_
   repeat apply ze
   refine zi [(2,9)] (zt h0 h1) ?_;refine zp DC ?_;refine zk (DK ?_)
   repeat apply ze
   refine zi [(5,21),(8,24)] (zN h1 h2 h3 zy) ?_;refine zp DC ?_;refine zk (DK ?_);exact DL hd
 ·rw[if_pos (.inl h2)];refine zx func121 ntmps121 results121 λS nx hd=>?_
  refine DK ?_
  repeat apply ze
  refine zi [(2,9)] (zt h0 h1) ?_;refine zp DC ?_;refine zk (DK ?_)
  repeat apply ze
  refine zi [(5,21),(8,24)] (zF h1 h2 zy) ?_;refine zo DC ?_;refine DK ?_;exact DL hd
def J5(x:Int):Int :=
 let u:=IntKind.u64.wrap
 let a:=bits BinOp.and IntKind.u64
 let x1:=u (a (x.fdiv (2 ^ 1)) 6148914691236517205+a x 6148914691236517205)
 let x2:=u (a (x1.fdiv (2 ^ 2)) 3689348814741910323+a x1 3689348814741910323)
 let x3:=a (u (x2.fdiv (2 ^ 4)+x2)) 1085102592571150095
 let x4:=u (x3+x3.fdiv (2 ^ 8))
 let x5:=u (x4+x4.fdiv (2 ^ 16))
 let x6:=u (x5+x5.fdiv (2 ^ 32))
 bits BinOp.and IntKind.i64 (W x6) 127
theorem Zr3(n:Nat):Pure prog 304 [U n] (I (J5 n)):=by
 refine zx func304 ntmps304 results304 λS nx hd=>?_
 refine DK ?_;refine DK ?_;refine DK ?_;refine DK ?_;refine DK ?_;refine DK ?_;refine DK ?_;refine DK ?_;exact zj (zm hd DD (by simp[zq,J5,IntKind.bits]))
theorem Zr4(n:Nat):Pure prog 274 [U n] (I (J5 n)):=by
 have h:=Zr3 n;refine zx func274 ntmps274 results274 λS nx hd=>?_
 refine DK ?_;refine DK ?_;refine zu h ?_;exact DL hd
def ZcT(i:Nat)(least:Int)(p:Nat):Int:=if i=0\/J5 p<least then J5 p else least
def Yy(ps:List Nat):Nat->Int
 | 0=>0
 | k+1=>ZcT k (Yy ps k) (ps.getD k 0)
theorem Zr5(ps:List Nat)(hl:ps.length<=1048576):Pure prog 243 [L ps] (I (Yy ps ps.length)):=by
 refine zx func243 ntmps243 results243 λS nx hd=>?_
 refine DK ?_;refine DK ?_
 repeat apply ze
 refine zg ?_;refine zn (zJ (λk:Nat=>k<=ps.length) (λk=>[(3,I (Yy ps k)),(7,L ps),(8,I ps.length),(9,I k)]) (λ_=>[]) (λk=>ps.length-k) 0 [] DC (by simp[Yy]) DC ?_);rintro k hk;refine DK ?_;refine ze (zz rfl (λhc=>?_) (λhc=>?_))
 ·simp at hc;obtain⟨p,tl,a1,a2,a3,e0⟩:=zL rfl ps k hc;have hg:ps.getD k 0=p:=by rw[Aa,a1];rfl
  have hnx:Yy ps (k+1)=ZcT k (Yy ps k) p:=by rw[<-hg];rfl
  have hlen:=Zr4 p;refine zk (ze (zn (ze (zi [] (zt e0 hc) ?_))));refine DK ?_;refine zu hlen ?_;unfold ZcT at hnx;generalize Yy ps k=f0 at *;generalize J5 p=o at *
  by_cases h0:k=0
  ·rw[if_pos (.inl h0)]at hnx;refine ze (zi [(2,18)] (zt (eq_true h0) zy) ?_);refine zo DC ?_;refine zg ?_;refine zg ?_;exact zv (k+1) [] hc DB (by simp[zA k (by omega),hnx]) rfl DC
  by_cases h1:o<f0
  ·rw[if_pos (.inr h1)]at hnx;refine ze (zi [(2,18)] (zt h0 h1) ?_);refine zo DC ?_;refine zg ?_;refine zg ?_;exact zv (k+1) [] hc DB (by simp[zA k (by omega),hnx]) rfl DC
  ·rw[if_neg (by simp only[not_or];exact⟨h0,h1⟩)]at hnx;refine ze (zi [(2,18)] (zt h0 h1) ?_);refine zp DC ?_;refine zk (zg ?_);exact zv (k+1) [] hc DB (by simp[zA k (by omega),hnx]) rfl DC
 ·simp at hc;obtain rfl:k=ps.length:=DB
  refine zC (DK ?_);exact DL hd
def Zm(c:Cust)(n cap:Int):Int :=
 if c.kind=1 then Yy c.pats c.pats.length else if Q8 c n=0 then 0 else if xh cap c.size<1 then n else xh (J4 (Q8 c n) (xh cap c.size)) n
theorem ZhT(c:Cust)(n cap:Int)(hp:c.pats.length<=1048576):Pure prog 204 [.agg (yc c),I n,I cap] (I (Zm c n cap)):=by
 have hf:=Zr5 c.pats hp;have hw:=ZhR c n;unfold Zm;generalize Yy c.pats c.pats.length=fz at *;generalize Q8 c n=wz at *
 by_cases hk:c.kind=1
 ·rw[if_pos hk];refine zx func204 ntmps204 results204 λS nx hd=>?_
  refine DK ?_;intro v0
  repeat apply ze
  refine zi [] hk ?_;refine zo (by simp[hk]) ?_;refine DK ?_;refine zu hf ?_;exact DL hd
 rw[if_neg hk]
 by_cases h0:wz=0
 ·rw[if_pos h0];refine zx func204 ntmps204 results204 λS nx hd=>?_
  refine DK ?_;intro v0
  repeat apply ze
  refine zi [] hk ?_;refine zp (by simp[hk]) ?_;refine zk (DK ?_);refine zu hw ?_
  repeat apply ze
  refine zi [] h0 ?_;refine zo (by simp[h0]) ?_;refine DK ?_;exact DL hd
 rw[if_neg h0]
 by_cases h1:xh cap c.size<1
 ·rw[if_pos h1];refine zx func204 ntmps204 results204 λS nx hd=>?_
  refine DK ?_;intro v0
  repeat apply ze
  refine zi [] hk ?_;refine zp (by simp[hk]) ?_;refine zk (DK ?_);refine zu hw ?_
  repeat apply ze
  refine zi [] h0 ?_;refine zp (by simp[h0]) ?_;refine zk (DK ?_)
  repeat apply ze
  refine zi [] h1 ?_;refine zo (by simp[h1]) ?_;refine DK ?_;exact DL hd
 ·rw[if_neg h1];have hc:=ZhS wz (xh cap c.size) DB;generalize J4 wz (xh cap c.size)=q at *;refine zx func204 ntmps204 results204 λS nx hd=>?_
  refine DK ?_;intro v0
  repeat apply ze
  refine zi [] hk ?_;refine zp (by simp[hk]) ?_;refine zk (DK ?_);refine zu hw ?_
  repeat apply ze
  refine zi [] h0 ?_;refine zp (by simp[h0]) ?_;refine zk (DK ?_)
  repeat apply ze
  refine zi [] h1 ?_;refine zp (by simp[h1]) ?_;refine zk (DK ?_);refine zu hc ?_;refine DK ?_;exact DL hd
open Go Go.Proofs
def vA(f:Nat->Int):Nat->Int
 | 0=>0
 | k+1=>wM (vA f k) (f k)
theorem Zr6(a b:Int):zW (wM a b):=by unfold wM zW;split<;>(try split)<;>omega
theorem ZhU(f:Nat->Int)(k:Nat):zW (vA f k):=by
 cases k with
 | zero=>show zW 0;exact⟨by decide,by decide⟩
 | succ k=>exact Zr6 _ _
theorem ZcU{S:Store}(x:Inst)(g:FuncId)(ps:List PV)(f:Nat->Int)(hx:x.cust.length<=1048576)(hf:∀k,zW (f k))
  (h:∀k,k<x.cust.length->∀T:Store,(∀o,S o≠.dead->T o=S o)->Spec prog g (ps++[I k]) T (λq S'=>q=I (f k)/\S'=T)) :
  Spec prog 124 [.agg (zD x),.fn (.func g) ps []] S (λq S'=>q=I (vA f x.cust.length)/\S'=S):=by
 refine yi func124 ntmps124 results124 λnx hd=>?_
 have hT:∀obs o,S o≠.dead->ext S nx obs o=S o:=λobs o ho=>by
  apply zE;rcases Be o nx with q | q
  ·exact q
  ·exact absurd (hd o q) ho
 refine DK ?_;intro v0;refine DK ?_
 repeat apply ze
 refine zg ?_;refine zn (zJ (λs:Nat × Nat=>s.1<=x.cust.length) (λ(k,v)=>[(1,.fn (.func g) ps []),(2,.ptr nx v 0),(5,I (vA f k)),(9,I x.cust.length),(10,I k)]) (λ(k,v)=>[.cells v 25 (zD x)]) (λs=>x.cust.length-s.1) (0,v0) [] DC (by simp[vA]) DC ?_);rintro⟨k,v⟩ hk;simp only at hk ⊢;refine DK ?_;refine ze (zz rfl (λhc=>?_) (λhc=>?_))
 ·simp at hc;have hsat:=Vr (vA f k) (f k) (ZhU f k) (hf k);refine zk (ze (zn (DK ?_)));refine zg ?_;refine λhsuf=>((h k hc _ (hT _)).mono ?_).v
  rintro _ _ ⟨rfl,rfl⟩;refine⟨_,_,rfl,zQ hsuf ?_⟩;refine λhsuf=>((hsat _).mono ?_).v
  rintro _ _ ⟨rfl,rfl⟩;refine⟨_,_,rfl,zQ hsuf ?_⟩;refine zg ?_;exact zv (k+1,v) [] hc DF (by simp[zA k (by omega)];rfl) rfl DC
 ·simp at hc;obtain rfl:k=x.cust.length:=DB
  refine zC (DK ?_);exact DL hd
abbrev uQ(x:Inst)(pa pb ch:PV):List PV:=[I x.days,I x.veh,I x.cap,I x.len,L x.cust,L x.dist,pa,pb,ch]
theorem ZcV{S:Store}{id ver:Nat}(x:Inst)(pa pb ch:PV)(k:Nat){c:Cust}(hS:S id=.cells ver 182 (uQ x pa pb ch))(hx:x.cust.length<=1048576)(hc:x.cust[k]?=some c)(hp:c.pats.length<=1048576):
  Spec prog 164 [.ptr id ver 0,I k] S (λq S'=>q=I (Zm c x.days x.cap)/\S'=S):=by
 have hfo:=ZhT c x.days x.cap hp;have hk:k<x.cust.length:=(Ac.1 hc).1;obtain⟨t,tl,b1,b2,b3,f0,f1⟩:=el 8 rfl x.cust k hk;obtain rfl:t=c:=by rw[hc]at b1;exact(Option.some.inj b1).symm
 refine yi func164 ntmps164 results164 λnx hd=>?_
 have hlt:id<nx:=qC hd hS DC;have x1:∀obs,ext S nx obs id=.cells ver 182 (uQ x pa pb ch):=λobs=>(zE hlt).trans hS
 refine DK ?_;refine ze (zB (some [id]) (Row.pures [0,1,2,3,4,5,6,7,8,9,10,11,12,13,14,15,16,17,18,19] .done) mixed (zN x1 hk f0 f1) ?_);refine zP (hfo) trivial ?_;exact DL hd
theorem Zr7{S:Store}{id ver:Nat}(x:Inst)(pa pb:PV)(ch:List Int)(k:Nat){c:Cust}{a:Int}(hS:S id=.cells ver 182 (uQ x pa pb (L ch)))(hx:x.cust.length<=1048576)(hc:x.cust[k]?=some c)(hp:c.pats.length<=1048576)(ha:ch[k]?=some a):
  Spec prog 172 [.ptr id ver 0,I k] S (λq S'=>q=I (W (a*Zm c x.days x.cap))/\S'=S):=by
 have hfo:=λS (h:S id=_)=>ZcV (S:=S) (id:=id) (ver:=ver) x pa pb (L ch) k h hx hc hp
 have hk:k<ch.length:=(Ac.1 ha).1;obtain⟨t,tl,b1,b2,b3,f0⟩:=zL rfl ch k hk;obtain rfl:t=a:=by rw[ha]at b1;exact(Option.some.inj b1).symm
 refine yi func172 ntmps172 results172 λnx hd=>?_
 have hlt:id<nx:=qC hd hS DC;have x1:∀obs,ext S nx obs id=.cells ver 182 (uQ x pa pb (L ch)):=λobs=>(zE hlt).trans hS
 refine DK ?_;refine ze (zB (some [id]) (Row.pures [0,1,2,3,4,5,6,7,8] (.alt 9 (Row.pures [10,11] .done) .stop)) mixed (zF x1 hk f0) ?_);refine(Spec.mono (hfo _ (x1 [])) ?_).v;rintro _ _ ⟨rfl,rfl⟩;refine⟨by simp[yH],jp trivial ?_⟩;exact DL hd
def Zn(c:Cust)(n cap:Int):Int:=if c.kind=1 then W (Zm c n cap*c.demand) else Q8 c n
theorem Zr8{S:Store}{id ver:Nat}(x:Inst)(pa pb ch:PV)(k:Nat){c:Cust}(hS:S id=.cells ver 182 (uQ x pa pb ch))(hx:x.cust.length<=1048576)(hc:x.cust[k]?=some c)(hp:c.pats.length<=1048576):
  Spec prog 166 [.ptr id ver 0,I k] S (λq S'=>q=I (Zn c x.days x.cap)/\S'=S):=by
 have hfo:=λS (h:S id=_)=>ZcV (S:=S) (id:=id) (ver:=ver) x pa pb ch k h hx hc hp
 have hwa:=ZhR c x.days;have hk:k<x.cust.length:=(Ac.1 hc).1;obtain⟨t,tl,b1,b2,b3,f0,f1⟩:=el 8 rfl x.cust k hk;obtain rfl:t=c:=by rw[hc]at b1;exact(Option.some.inj b1).symm
 refine yi func166 ntmps166 results166 λnx hd=>?_
 have hlt:id<nx:=qC hd hS DC;have x1:∀obs,ext S nx obs id=.cells ver 182 (uQ x pa pb ch):=λobs=>(zE hlt).trans hS
 refine DK ?_;refine ze (zi [] (zN x1 hk f0 f1) ?_);intros
 repeat apply ze
 refine zg ?_
 by_cases hk1:t.kind=1
 ·repeat apply ze
  refine zo (by simp[hk1]) ?_;refine ze (zB (some [id,nx]) (Row.pures [0,1,3,4] (.alt 2 (Row.pures [5,6] .done) .stop)) mixed x1 ?_);refine(Spec.mono (hfo _ (x1 _)) ?_).v;rintro _ _ ⟨rfl,rfl⟩;refine⟨by simp[yH],jp trivial ?_⟩
  trace_state
  exact zj (zm hd DD (by simp[Zn,hk1,zq]))
 ·repeat apply ze
  refine zp (by simp[hk1]) ?_;refine zk (ze (zB (some [id,nx]) (Row.pures [0,1,2,3,4,5,6,7] .done) mixed x1 ?_));refine zP (hwa) trivial ?_;exact zj (zm hd DD (by simp[Zn,hk1,zq]))
open Go Go.Proofs
def Ja(price:List Int):Nat->Int
 | 0=>Yq price 0
 | k+1=>xh (Ja price k) (Yq price k)
def V7(n:Nat)(cap:Int)(c:Cust)(price:List Int):Int :=
 if c.kind=2 then W (W (Zm c n cap*Ja price n)+V6 c n) else W (Zm c n cap*Ja price n)
def Qj(n:Nat)(cap:Int)(c:Cust)(price:List Int):Int :=
 if (c.kind=1\/c.rule=1)/\(qv n cap c price).2=true then ZQ c n price (qv n cap c price).1 else V7 n cap c price
theorem Zr9{S:Store}{pl:PV}{price:List Int}(c:Cust)(n:Nat)(cap:Int)(hR:RowOf S pl price)(hp:∀z∈price,zW z)(hpl:price.length<=1000)(hm:CustMade c n)(hpc:c.pats.length<=1000)(hn:n<=60)(hcf:CustFits c)(hv:VisOk (qv n cap c price).1):
  Spec prog 170 [.agg (yc c),I n,I cap,pl] S (λq S'=>q=I (Qj n cap c price)/\S'=S):=by
 have hfo:=ZhT c n cap DB;have hke:=Zr1 c n DB;have hso:=λS (hR:RowOf S pl price)=>Zcr (S:=S) c n cap hR hp hpl hm hpc hn
 have hco:=λS (hR:RowOf S pl price)=>Zcn (S:=S) c n (qv n cap c price).1 hR hcf hv
 have hpr:=λS (hR:RowOf S pl price) (d:Int)=>Zck (S:=S) d hR
 obtain⟨res,hres⟩:∃res,res=Qj n cap c price:=⟨_,rfl⟩;rw[<-hres];unfold Qj at hres;generalize qv n cap c price=az at *;obtain⟨av,aok⟩:=az;simp only at hres hso hco;have hsame:(c.kind=1\/c.rule=1)->aok=true->res=ZQ c n price av:=λh1 h2=>by rw[hres,if_pos ⟨h1,h2⟩]
 have hlow:¬((c.kind=1\/c.rule=1)/\aok=true)->res=V7 n cap c price:=λh=>by rw[hres,if_neg h]
 clear hres;unfold V7 at hlow;generalize ZQ c n price av=cv at *;generalize Zm c n cap=fo at *;generalize V6 c n=ke at *;refine yi func170 ntmps170 results170 λnx hd=>?_
 have hRx:=λobs=>hR.ext hd obs
 refine DK ?_;intro v0;refine ze (qE (nx:=nx) (σ:=Unit) (λ_=>¬((c.kind=1\/c.rule=1)/\aok=true)) (λ_=>[(1,I n),(2,I cap),(3,pl),(4,.ptr nx v0 0)]) (λ_=>S) (λ_=>[.cells v0 87 (yc c)]) ?_ ?_)
 ·by_cases hk:c.kind=1
  ·refine ze (zi [(3,17)] (zt hk zy) ?_);refine zo DC ?_;refine DK ?_;refine λhsuf=>((hso _ (hRx _)).mono ?_).v
   rintro _ _ ⟨rfl,rfl⟩;refine⟨_,_,rfl,zQ hsuf ?_⟩;refine DK ?_;cases aok with
   | true =>
    refine zo DC ?_;refine DK ?_;refine λhsuf=>((hco _ (hRx _)).mono ?_).v
    rintro _ _ ⟨rfl,rfl⟩;refine⟨_,_,rfl,zQ hsuf ?_⟩;exact zj (zm hd DD (by rw[hsame (.inl hk) rfl];rfl))
   | false =>
    refine zp DC ?_;exact zk (zT () [] DC DC rfl DC)
  ·by_cases hru:c.rule=1
   ·refine ze (zi [(3,17)] (zt hk hru) ?_);refine zo DC ?_;refine DK ?_;refine λhsuf=>((hso _ (hRx _)).mono ?_).v
    rintro _ _ ⟨rfl,rfl⟩;refine⟨_,_,rfl,zQ hsuf ?_⟩;refine DK ?_;cases aok with
    | true =>
     refine zo DC ?_;refine DK ?_;refine λhsuf=>((hco _ (hRx _)).mono ?_).v
     rintro _ _ ⟨rfl,rfl⟩;refine⟨_,_,rfl,zQ hsuf ?_⟩;exact zj (zm hd DD (by rw[hsame (.inr hru) rfl];rfl))
    | false =>
     refine zp DC ?_;exact zk (zT () [] DC DC rfl DC)
   ·refine ze (zi [(3,17)] (zt hk hru) ?_);refine zp DC ?_;exact zk (zT () [] (λh=>h.1.elim hk hru) DC rfl DC)
 ·rintro _ hl;have hr:=hlow hl;refine DK ?_;refine λhsuf=>((hpr _ (hRx _) 0).mono ?_).v
  rintro _ _ ⟨rfl,rfl⟩;refine⟨_,_,rfl,zQ hsuf ?_⟩
  repeat apply ze
  refine zg ?_;refine zn (zJ (λs:Nat × Nat=>s.1<=n) (λ(k,v)=>[(1,I n),(2,I cap),(3,pl),(4,.ptr nx v 0),(11,I (Ja price k)),(38,I n),(39,I k)]) (λ(k,v)=>[.cells v 87 (yc c)]) (λs=>n-s.1) (0,v0) [] DC (by simp[Ja]) DC ?_);rintro⟨k,v⟩ hk;simp only at hk ⊢;refine DK ?_;refine ze (zz rfl (λhc=>?_) (λhc=>?_))
  ·simp at hc;refine zk (ze (zn (DK ?_)));refine zg ?_;refine λhsuf=>((hpr _ (hRx _) k).mono ?_).v
   rintro _ _ ⟨rfl,rfl⟩;refine⟨_,_,rfl,zQ hsuf ?_⟩;refine zg ?_;exact zv (k+1,v) [] hc DF (by simp[zA k (by omega),Ja]) rfl DC
  ·simp at hc;obtain rfl:k=n:=DB
   generalize Ja price k=lp at *;refine zC (DK ?_);refine zu hfo ?_
   repeat apply ze
   refine zg ?_
   by_cases hk2:c.kind=2
   ·rw[if_pos hk2]at hr;refine zo (by simp[hk2]) ?_;refine zg ?_;refine zu hke ?_;refine DK ?_;exact zj (zm hd DD (by rw[hr];rfl))
   ·rw[if_neg hk2]at hr;refine zp (by simp[hk2]) ?_;refine zk (DK ?_);exact zj (zm hd DD (by rw[hr];rfl))
end Go.Proofs.YtcocagkbfpgmiaaGreatDoor.Pv
