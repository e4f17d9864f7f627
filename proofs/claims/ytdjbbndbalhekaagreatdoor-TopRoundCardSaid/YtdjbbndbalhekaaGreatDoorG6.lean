/- Part of a proof, packed. -/
import Derived.Test.YtdjbbndbalhekaaGreatDoorG5
open Go.Proofs.Tryz
set_option linter.defProp false
set_option maxRecDepth 100000
set_option maxHeartbeats 3200000
namespace Go.Proofs.YtdjbbndbalhekaaGreatDoor.Pv
open Go Go.Proofs
def Y1(n:Int)(ps:Ln)(k:Nat):Bool:=!((ps.take k).all λw=>decide ((w.length:Int)=n))
def Zx6(n:Int)(ps:Ln):Y1 n ps 0=false:=by simp[Y1]
variable {ps:Ln}{k:Nat}{w:Wd}
def Zx7{n:Int}(h:ps[k]?=some w):Y1 n ps (k+1)=(Y1 n ps k||!decide ((w.length:Int)=n)):=by unfold Y1;rw[AE,h];simp
def Zx8(h:vZ w=true):(Ze w).1=xU w/\(Ze w).2≠2:=by unfold Ze xU;rw[if_pos h];split<;>simp
def Zx9(h:vZ w=false):(Ze w).2=2:=by unfold Ze;rw[if_neg (by rw[h];simp)]
theorem Zya{S:Store}{id ver idC vC:Nat}(ls:List Ln)(r:Rdr)(g:List Cust)(ds:PV)(l:Ln)(hS:S id=yq ver ls r (.sl idC vC 8 0 g.length) ds)(hC:S idC=.cells vC 59 (g.flatMap Enc.enc))(d7:g.length<=1048576)(hl:l.length<=1048576/\∀w∈l,w.length<=1048576):
  SP 114 [.ptr id ver 0,L (l.map bs)] S (λq S'=>match Xb r.d l with
   |none=>q=B false/\∃b,S'=S.set id (yq ver ls { r with bad:=b } (.sl idC vC 8 0 g.length) ds)
   |some (c,ok)=>q=B true/\S'=(S.set id (yq ver ls { r with bad:=r.bad||!ok } (.sl idC (vC+1) 8 0 (g.length+1)) ds)).set idC (.cells (vC+1) 59 ((g++[c]).flatMap Enc.enc))):=by
 have a0:id≠idC:=by rintro rfl;rw[hS]at hC;simp at hC
 obtain⟨pos,d,v,c,ln,m,bad⟩:=r;obtain _|⟨dw,ps⟩:=l;simp only[Xb];refine yr func114 ntmps114 results114 λnx p=>?_;refine EK ?_;repeat apply za
 refine zb ?_;refine aD ?_;refine EK ?_;refine zg ⟨_,_,by simp;rfl,⟨by simp[zp],bad,(QC S id _ hS).symm⟩,zV ?_⟩;exact p;rw[kV];have f:=ld dw (by have:=hl.2 dw EB;omega);cases hz:yF dw with
 |none =>
 rw[hz]at f;simp only[Jl,DE,A7,false_and,if_false]at f ⊢;refine yr func114 ntmps114 results114 λnx p=>?_;refine EK ?_;repeat apply za
 refine zb ?_;refine zk EF ?_;refine zh (EK ?_);refine zq f ?_;repeat apply za
 refine zb ?_;refine aD ?_;refine EK ?_;refine zg ⟨_,_,by simp;rfl,⟨by simp[zp],bad,(QC S id _ hS).symm⟩,zV ?_⟩;exact p
 |some dn =>
 have a9:zT dw=dn:=by unfold zT;rw[hz];rfl
 rw[hz]at f;simp only[Jl]at f;refine yr func114 ntmps114 results114 λnx p=>?_;have h:id<nx:=jt p hS EB;have t:idC<nx:=jt p hC EB;have g1:¬nx<=id:=EA;refine EK ?_;repeat apply za
 refine zb ?_;refine zk EF ?_;refine zh (EK ?_);refine zq f ?_;repeat apply za
 refine zb ?_;refine aC (EK ?_);intro v0;refine qy 0 2 65 1 rfl rfl λv1=>?_;obtain⟨o,ho⟩:∃o,o=(if (some dn).isSome=true/\(ps.all vZ)=true then some (QJ dw ps,ps.all λw=>decide ((w.length:Int)=d)) else none):=⟨_,rfl⟩;rw[<-ho];have b7:List.take ps.length ((ps.map bs).flatMap Enc.enc)=(ps.map bs).flatMap Enc.enc:=Ae (by rw[dU,List.length_map];exact Af _);obtain⟨a,e⟩:∃a:Nat->Store,∀k,a k=S.set id (yq ver ls ⟨pos,d,v,c,ln,m,bad||Y1 d ps k⟩ (.sl idC vC 8 0 g.length) ds):=⟨_,λ_=>rfl⟩;have b8:a 0=S:=by rw[e,Zx6,Bool.or_false];exact QC S id _ hS
 have x1:∀k obs,ext (a k) nx obs id=yq ver ls ⟨pos,d,v,c,ln,m,bad||Y1 d ps k⟩ (.sl idC vC 8 0 g.length) ds:=λk obs=>by rw[zG h,e,q11]
 have c6:∀k,yd nx (a k):=λk=>by rw[e];exact jf p h _
 have d8:ps.length<=1048576:=by have:=hl.1;simp at this;omega
 repeat apply za
 refine ze [] b7 ?_;refine zj (xk (λs:Nat × Nat × Nat=>s.1<=ps.length/\∀w∈ps.take s.1,vZ w=true) (λ(k,w0,w1)=>[(0,.ptr id ver 0),(7,.ptr nx w0 0),(27,L (ps.map bs)),(28,I ps.length),(29,I k)]) (λs=>a s.1) (λ(k,w0,w1)=>[.cells w0 59 [I 1,I dn,.sl (nx+1) w1 1 0 k,I 0,I 0,I 0,I 0,I 0],.cells w1 65 (((ps.map xU).take k).flatMap Enc.enc)]) (λs=>ps.length-s.1) (yb (0,v0,v1) [] EB EB b8 EB) ?_);rintro⟨k,w0,w1⟩ ⟨hk,i⟩;simp only at hk i ⊢;refine EK ?_;refine za (zv rfl (λhc=>?_) (λhc=>?_))
 .simp at hc;obtain⟨w,tl,hw,f0⟩:=Wb ps k hc;have c7:w.length<=1048576:=hl.2 w (by simp[Aa hw]);have c8:=ZxZ w c7;have a3:=vr w;refine zh (aA (aF [] (zn f0 hc) ?_));refine EK ?_;refine zq c8 ?_;cases j:vZ w with
  |false =>
  have hf:=Zx9 j;have a1:o=none:=by rw[ho,if_neg];rintro⟨_,h2⟩;have:=Ay.1 h2 w (Aa hw);rw[j]at this;cases this
  repeat apply za
  refine ze [] hf ?_;refine aD ?_;refine EK ?_;refine zg ⟨_,_,by simp;rfl,by rw[a1];exact⟨by simp[zp],_,e k⟩,zV (c6 k)⟩
  |true =>
  obtain⟨a4,d0⟩:=Zx8 j;have x:∀u∈ps.take (k+1),vZ u=true:=by
   rw[AE,hw];intro u hu;rw[AB]at hu;obtain hu|hu:=hu;exact i u hu;obtain rfl:u=w:=by simpa using hu
   exact j
  have a5:((ps.map xU).take (k+1)).flatMap Enc.enc=((ps.map xU).take k).flatMap Enc.enc++[U (xU w)]:=by rw[AE,Ai,hw,Ar];rfl
  have d1:(((ps.map xU).take k).flatMap Enc.enc).length=k:=by rw[nb,Az,List.length_map];omega
  have y:List.take k (((ps.map xU).take k).flatMap Enc.enc)=((ps.map xU).take k).flatMap Enc.enc:=Ae (by rw[d1];exact Af _);have a6:=Zx7 (n:=d) hw;repeat apply za
  refine ze [] d0 ?_;refine aC ?_;by_cases hq:(w.length:Int)=d;have a2:a (k+1)=a k:=by rw[e,e,a6,decide_eq_true hq,Bool.not_true,Bool.or_false]
  repeat apply za
  refine ze [] (zD x1 a3 hq) ?_;refine aC (ze [] (zn a4 y) ?_);refine⟨by omega,?_⟩;refine zb ?_;exact zr (k+1,w0,w1+1) [] ⟨hc,x⟩ EA (by simp[zu k EA]) a2 (by simp only[a5,AA]);have a2:(a k).set id (yq ver ls ⟨pos,d,v,c,ln,m,true⟩ (.sl idC vC 8 0 g.length) ds)=a (k+1):=by rw[e,e,a6,decide_eq_false hq,DF,Bool.or_true,Bool.or_true,Store.set_set]
  repeat apply za
  refine ze [] (zD x1 a3 hq) ?_;refine aD ?_;refine ze [] (zn x1 g1) ?_;have a7:(a k).set id (.cells ver 129 [L (wl ls),I pos,I d,I v,I c,I ln,.sl idC vC 8 0 g.length,ds,I m,B true])=a (k+1):=a2;rw[a7];refine ze [] (zn a4 y) ?_;refine⟨by omega,?_⟩;refine zb ?_;exact zr (k+1,w0,w1+1) [] ⟨hc,x⟩ EA (by simp[zu k EA]) rfl (by simp only[a5,AA])
 simp at hc;obtain rfl:k=ps.length:=EA;rw[Ah]at i;refine zx ?_;have a1:o=some (QJ dw ps,ps.all λw=>decide ((w.length:Int)=d)):=by rw[ho,if_pos ⟨rfl,Ay.2 i⟩]
 have d2:Y1 d ps ps.length=!(ps.all λw=>decide ((w.length:Int)=d)):=by unfold Y1;rw[Ah]
 have z:(ps.map xU).length=ps.length:=EB;rw[show (ps.map xU).take ps.length=ps.map xU from Ae EB];refine zY 1 rfl ?_;have d3:=x1 ps.length;have g2:¬nx<=idC:=EA;have d4:∀obs,ext (a ps.length) nx obs idC=.cells vC 59 (g.flatMap Enc.enc):=λobs=>by rw[zG t,e,q10 _ _ _ _ (Ne.symm a0),hC]
 have d5:∀A obs,ext ((a ps.length).set idC A) nx obs id=yq ver ls ⟨pos,d,v,c,ln,m,bad||Y1 d ps ps.length⟩ (.sl idC vC 8 0 g.length) ds:=λA obs=>by rw[zG h,q10 _ _ _ _ a0,e,q11]
 refine aG (some [nx]) R6 mixed (zU d3 d4 d5 g1 g2 z) ?_;refine⟨by omega,?_⟩;have d6:(g++[QJ dw ps]).flatMap Enc.enc=g.flatMap Enc.enc++[I 1,I dn,.lst ps.length ((ps.map xU).flatMap Enc.enc),I 0,I 0,I 0,I 0,I 0]:=by rw[Ar];congr 1;show yh (QJ dw ps)=_;unfold QJ yh;rw[a9];show [I 1,I dn,.lst (ps.map xU).length ((ps.map xU).flatMap Enc.enc),I 0,I 0,I 0,I 0,I 0]=_;rw[z]
 rw[<-d6];have a8:((a ps.length).set idC (.cells (vC+1) 59 ((g++[QJ dw ps]).flatMap Enc.enc))).set id (.cells ver 129 [L (wl ls),I pos,I d,I v,I c,I ln,.sl idC (vC+1) 8 0 (g.length+1),ds,I m,B (bad||Y1 d ps ps.length)])=(S.set id (yq ver ls ⟨pos,d,v,c,ln,m,bad||!(ps.all λw=>decide ((w.length:Int)=d))⟩ (.sl idC (vC+1) 8 0 (g.length+1)) ds)).set idC (.cells (vC+1) 59 ((g++[QJ dw ps]).flatMap Enc.enc)):=by rw[<-d2,e,Store.set_comm _ idC id _ _ a0,Store.set_set]
 rw[a8];refine EK ?_;refine zg ⟨_,_,by simp;rfl,by rw[a1];exact⟨by simp[zp],by rw[Ar];rfl⟩,zV ?_⟩;exact jf (jf p h _) t _
def eB(a:ByteArray):qD .eql a a=some (.bool true):=by simp[qD]
def Fs{l:Ln}(h:l.length≠5):Jh l=none:=by
 match l,h with
 |[],_=>rfl
 |[_],_=>rfl
 |[_,_],_=>rfl
 |[_,_,_],_=>rfl
 |[_,_,_,_],_=>rfl
 |[_,_,_,_,_],h=>exact absurd rfl h
 |_::_::_::_::_::_::_,_=>rfl
theorem Zyb{S:Store}{id ver idC vC:Nat}(ls:List Ln)(r:Rdr)(f:List Cust)(ds:PV)(l:Ln)(hS:S id=yq ver ls r (.sl idC vC 8 0 f.length) ds)(hC:S idC=.cells vC 59 (f.flatMap Enc.enc))(c8:f.length<=1048576)(hl:l.length<=1048576/\∀w∈l,w.length<=1048576):
  SP 115 [.ptr id ver 0,L (l.map bs)] S (λq S'=>match Jh l with
   |none=>q=B false/\S'=S
   |some c=>q=B true/\S'=(S.set id (yq ver ls r (.sl idC (vC+1) 8 0 (f.length+1)) ds)).set idC (.cells (vC+1) 59 ((f++[c]).flatMap Enc.enc))):=by
 have j:id≠idC:=by rintro rfl;rw[hS]at hC;simp at hC
 obtain⟨pos,d,v,c,ln,m,bad⟩:=r;by_cases h5:l.length=5
 .obtain⟨a,b,e,p,h,rfl⟩:∃a b c d e,l=[a,b,c,d,e]:=by
   match l,h5 with
   |[a,b,c,d,e],_=>exact⟨a,b,c,d,e,rfl⟩
  obtain⟨o,ho⟩:∃o,o=Jh [a,b,e,p,h]:=⟨_,rfl⟩;rw[<-ho];rw[kW]at ho;have g:=ez [a,b,e,h] EB (λw hw=>by have:=hl.2 w (by simp at hw ⊢;obtain rfl|rfl|rfl|rfl:=hw<;>simp);omega);cases hz:jg [a,b,e,h] with
  |none =>
  rw[hz]at g;simp only[vE]at g;have i:o=none:=by rw[ho,hz];simp
  refine yr func115 ntmps115 results115 λnx hd=>?_;refine EK ?_;repeat apply za
  refine zb ?_;refine aC (aG none Rs mixed trivial ?_);refine zJ (g) trivial ?_;repeat apply za
  refine zb ?_;refine aD ?_;refine EK ?_;refine zg ⟨_,_,by simp;rfl,by rw[i];exact⟨by simp[zp],rfl⟩,zV hd⟩
  |some z =>
  have a9:z=[zT a,zT b,zT e,zT h]:=by unfold jg at hz;split at hz<;>cases hz;rfl
  subst a9;rw[hz]at g ho;simp only[vE]at g;obtain⟨t,b7⟩:∃x,x=zT a:=⟨_,rfl⟩;obtain⟨u,b8⟩:∃x,x=zT b:=⟨_,rfl⟩;obtain⟨ne,a7⟩:∃x,x=zT e:=⟨_,rfl⟩;obtain⟨y,c6⟩:∃x,x=zT h:=⟨_,rfl⟩;rw[<-b7,<-b8,<-a7,<-c6]at g ho;have a1:p=Zz->qD .eql (bs p) ⟨#[102,105,108,108]⟩=some (.bool true):=λq=>by rw[q];exact eB _
  have a0:p≠Zz->qD .eql (bs p) ⟨#[102,105,108,108]⟩=some (.bool false):=λq=>bg λhh=>q (Vs.1 hh);have a8:p=ZX->qD .eql (bs p) ⟨#[97,110,121]⟩=some (.bool true):=λq=>by rw[q];exact eB _
  have a2:p≠ZX->qD .eql (bs p) ⟨#[97,110,121]⟩=some (.bool false):=λq=>bg λhh=>q (Vs.1 hh);refine yr func115 ntmps115 results115 λnx hd=>?_;have n:id<nx:=jt hd hS EB;have k:idC<nx:=jt hd hC EB;have g1:¬nx<=id:=EA;have g2:¬nx<=idC:=EA;refine EK ?_;repeat apply za
  refine zb ?_;refine aC (aG none Rs mixed trivial ?_);refine zJ (g) trivial ?_;repeat apply za
  refine zb ?_;refine aC (aG (some []) Rn mixed trivial ?_);intro v0;refine yn 0 2 rfl rfl ?_;repeat apply za
  refine zb ?_;refine zj ?_;by_cases hf:p=Zz;have e1:=a1 hf;refine aF [] e1 ?_;refine aD ?_;refine zb ?_;have i:o=some ⟨2,0,[],t,u,ne,1,y⟩:=by rw[ho,if_pos ⟨rfl,.inl hf⟩];unfold Vl;rw[if_pos hf]
  have a3:∀obs,ext S nx obs id=yq ver ls ⟨pos,d,v,c,ln,m,bad⟩ (.sl idC vC 8 0 f.length) ds:=λobs=>(zG n).trans hS;have a4:∀obs,ext S nx obs idC=.cells vC 59 (f.flatMap Enc.enc):=λobs=>(zG k).trans hC;have a5:∀A obs,ext (S.set idC A) nx obs id=yq ver ls ⟨pos,d,v,c,ln,m,bad⟩ (.sl idC vC 8 0 f.length) ds:=λA obs=>by rw[zG n,q10 _ _ _ _ j,hS]
  refine aG (some [nx]) R6 mixed (yx a3 a4 a5 g1 g2) ?_;refine⟨by omega,?_⟩;have a6:(f++[(⟨2,0,[],t,u,ne,1,y⟩:Cust)]).flatMap Enc.enc=f.flatMap Enc.enc++[I 2,I 0,.lst 0 [],I t,I u,I ne,I 1,I y]:=by rw[Ar];rfl
  have s:(S.set idC (.cells (vC+1) 59 (f.flatMap Enc.enc++[I 2,I 0,.lst 0 [],I t,I u,I ne,I 1,I y]))).set id (.cells ver 129 [L (wl ls),I pos,I d,I v,I c,I ln,.sl idC (vC+1) 8 0 (f.length+1),ds,I m,B bad])=(S.set id (yq ver ls ⟨pos,d,v,c,ln,m,bad⟩ (.sl idC (vC+1) 8 0 (f.length+1)) ds)).set idC (.cells (vC+1) 59 ((f++[(⟨2,0,[],t,u,ne,1,y⟩:Cust)]).flatMap Enc.enc)):=by rw[a6,Store.set_comm _ idC id _ _ j]
  rw[s];refine EK ?_;refine zg ⟨_,_,by simp;rfl,by rw[i];exact⟨by simp[zp],by rw[Ar];rfl⟩,zV ?_⟩;exact jf (jf hd n _) k _;have e1:=a0 hf;refine aF [] e1 ?_;refine aE ?_;by_cases hy:p=ZX;have e2:=a8 hy;refine aF [] e2 ?_;refine aD ?_;refine zb ?_;have i:o=some ⟨2,0,[],t,u,ne,2,y⟩:=by rw[ho,if_pos ⟨rfl,.inr hy⟩];unfold Vl;rw[if_neg hf]
  have a3:∀obs,ext S nx obs id=yq ver ls ⟨pos,d,v,c,ln,m,bad⟩ (.sl idC vC 8 0 f.length) ds:=λobs=>(zG n).trans hS;have a4:∀obs,ext S nx obs idC=.cells vC 59 (f.flatMap Enc.enc):=λobs=>(zG k).trans hC;have a5:∀A obs,ext (S.set idC A) nx obs id=yq ver ls ⟨pos,d,v,c,ln,m,bad⟩ (.sl idC vC 8 0 f.length) ds:=λA obs=>by rw[zG n,q10 _ _ _ _ j,hS]
  refine aG (some [nx]) R6 mixed (yx a3 a4 a5 g1 g2) ?_;refine⟨by omega,?_⟩;have a6:(f++[(⟨2,0,[],t,u,ne,2,y⟩:Cust)]).flatMap Enc.enc=f.flatMap Enc.enc++[I 2,I 0,.lst 0 [],I t,I u,I ne,I 2,I y]:=by rw[Ar];rfl
  have s:(S.set idC (.cells (vC+1) 59 (f.flatMap Enc.enc++[I 2,I 0,.lst 0 [],I t,I u,I ne,I 2,I y]))).set id (.cells ver 129 [L (wl ls),I pos,I d,I v,I c,I ln,.sl idC (vC+1) 8 0 (f.length+1),ds,I m,B bad])=(S.set id (yq ver ls ⟨pos,d,v,c,ln,m,bad⟩ (.sl idC (vC+1) 8 0 (f.length+1)) ds)).set idC (.cells (vC+1) 59 ((f++[(⟨2,0,[],t,u,ne,2,y⟩:Cust)]).flatMap Enc.enc)):=by rw[a6,Store.set_comm _ idC id _ _ j]
  rw[s];refine EK ?_;refine zg ⟨_,_,by simp;rfl,by rw[i];exact⟨by simp[zp],by rw[Ar];rfl⟩,zV ?_⟩;exact jf (jf hd n _) k _;have e2:=a2 hy;have i:o=none:=by rw[ho,if_neg];rintro⟨_,q|q⟩;exact hf q;exact hy q
  refine aF [] e2 ?_;refine aE ?_;refine EK ?_;refine zg ⟨_,_,by simp;rfl,by rw[i];exact⟨by simp[zp],rfl⟩,zV hd⟩
 rw[Fs h5];refine yr func115 ntmps115 results115 λnx hd=>?_;refine EK ?_;have c7:¬(l.length:Int)=5:=EA;repeat apply za
 refine ze [] c7 ?_;refine aD ?_;refine EK ?_;refine zg ⟨_,_,by simp;rfl,⟨by simp[zp],rfl⟩,zV hd⟩
def Vu(ls:List Ln)(p k:Nat):qq ls p (k+1)=qq ls p k++[zZ ls (p+k)]:=by simp[qq,AC]
theorem eC(ls:List Ln)(p k:Nat):(qq ls p k).length=k:=by simp[qq]
variable {ls:List Ln}{p n:Nat}
def Ft{f:Ln->Bool}(a:k<n)(h:f (zZ ls (p+k))=false):(qq ls p n).all f=false:=by rw[Cb];exact⟨zZ ls (p+k),Aj.2 ⟨k,AN.2 a,rfl⟩,by simp[h]⟩
def Fu{a b:ByteArray}(h:a≠b):(a==b)=false:=by
 have e:(a==b)=(a.data==b.data):=by cases a;cases b;rfl
 rw[e,beq_eq_false_iff_ne];exact λc=>h (by cases a;cases b;cases c;rfl)
abbrev Vv(id ver:Nat):List (Value × PV):=[(.string ⟨#[118,105,115,105,116]⟩,.fn (.func 114) [.ptr id ver 0] []),(.string ⟨#[116,97,110,107]⟩,.fn (.func 115) [.ptr id ver 0] [])]
def xe(ls:List Ln)(d:Int)(p k:Nat):List Cust:=(qq ls p k).map λl=>(uF d l).1
def xH(ls:List Ln)(d:Int)(p k:Nat):Bool:=(qq ls p k).all λl=>(uF d l).2
def Fv(ls:List Ln)(d:Int)(p k:Nat):xe ls d p (k+1)=xe ls d p k++[(uF d (zZ ls (p+k))).1]:=by simp[xe,Vu]
def Fw(ls:List Ln)(d:Int)(p k:Nat):xH ls d p (k+1)=(xH ls d p k&&(uF d (zZ ls (p+k))).2):=by simp[xH,Vu]
def Fx(ls:List Ln)(d:Int)(p k:Nat):(xe ls d p k).length=k:=by simp[xe,eC]
def Zyc{S:Store}{id ver idC vC:Nat}(ls:List Ln)(r:Rdr)(n:Nat)(ds:PV)(hS:S id=yq ver ls r (.sl idC vC 8 0 0) ds)(hC:S idC=.cells vC 59 [])(hl:LnsOk ls)(hm:r.m=n)(hp:r.pos<=ls.length)(hb:r.bad=false):
  SP 72 [.ptr id ver 0] S (λq S'=>if (qq ls r.pos n).all (λl=>(vB r.d l).isSome)=true then
    q=B true/\r.pos+n<=ls.length/\S'=(S.set id (yq ver ls { r with pos:=r.pos+n,bad:=!(xH ls r.d r.pos n) } (.sl idC (vC+n) 8 0 n) ds)).set idC (.cells (vC+n) 59 ((xe ls r.d r.pos n).flatMap Enc.enc))
   else q=B false/\∃r' cs' oC,S'=(S.set id (yq ver ls r' cs' ds)).set idC oC):=by
 have d1:id≠idC:=by rintro rfl;rw[hS]at hC;simp at hC
 obtain⟨pos,d,v,c,ln,m,bad⟩:=r;simp only at hm hp hb ⊢;subst hm hb;obtain⟨o,ho⟩:∃o,o=(qq ls pos n).all (λl=>(vB d l).isSome):=⟨_,rfl⟩;rw[<-ho];obtain⟨St,y⟩:∃St:Nat->Store,∀k,St k=(S.set id (yq ver ls ⟨pos+k,d,v,c,ln,n,!(xH ls d pos k)⟩ (.sl idC (vC+k) 8 0 k) ds)).set idC (.cells (vC+k) 59 ((xe ls d pos k).flatMap Enc.enc)):=⟨_,λ_=>rfl⟩;have e5:St 0=S:=by rw[y];have e1:S.set id (yq ver ls ⟨pos+0,d,v,c,ln,n,!(xH ls d pos 0)⟩ (.sl idC (vC+0) 8 0 0) ds)=S:=QC S id _ hS;rw[e1];exact QC S idC _ hC
 refine yr func72 ntmps72 results72 λnx hd=>?_;have f:id<nx:=jt hd hS EB;have g:idC<nx:=jt hd hC EB;have g1:¬nx<=id:=EA;have g2:¬nx<=idC:=EA;have xi:∀k,St k id=yq ver ls ⟨pos+k,d,v,c,ln,n,!(xH ls d pos k)⟩ (.sl idC (vC+k) 8 0 k) ds:=λk=>by rw[y,q10 _ _ _ _ d1,q11]
 have xc:∀k,St k idC=.cells (vC+k) 59 ((xe ls d pos k).flatMap Enc.enc):=λk=>by rw[y,q11]
 have e0:∀k,yd nx (St k):=λk=>by rw[y];exact jf (jf hd f _) g _
 have x1:∀obs,ext S nx obs id=yq ver ls ⟨pos,d,v,c,ln,n,false⟩ (.sl idC vC 8 0 0) ds:=λobs=>(zG f).trans hS;refine EK ?_;refine EK ?_;intro v0;refine λa=>QU (.inr rfl) underlying175 underlying9 rfl rfl rfl (by rw[Zg];rfl) rfl ?_;refine⟨_,_,yi _ (Af _) EB,zO a ?_⟩;refine λa=>QU (.inr rfl) underlying175 underlying9 rfl rfl rfl (by rw[Zg];simp;rfl) (by simp[jO,jD];rfl) ?_;refine⟨_,_,yi _ (Af _) EB,zO a ?_⟩;repeat apply za
 refine ze [] x1 ?_;have s:∀k r' cs',(St k).set id (yq ver ls r' cs' ds)=(S.set id (yq ver ls r' cs' ds)).set idC (.cells (vC+k) 59 ((xe ls d pos k).flatMap Enc.enc)):=λk r' cs'=>by rw[y,Store.set_comm _ idC id _ _ d1,Store.set_set]
 refine zj (xk (λk:Nat=>k<=n/\pos+k<=ls.length/\∀l∈qq ls pos k,(vB d l).isSome=true) (λk=>[(0,.ptr id ver 0),(3,.mp nx v0),(16,I n),(17,I k)]) St (λ_=>[.map v0 (Vv id ver)]) (λk=>n-k) (yb 0 [] ⟨by simp,by simpa using hp,by simp[qq]⟩ EB e5 rfl) ?_);rintro k ⟨hk,e6,a5⟩;refine EK ?_;refine za (zv rfl (λhc=>?_) (λhc=>?_));simp at hc;have d2:k<n:=EA;have a0:=λS (h:S id=_)=>bi (S:=S) (id:=id) (ver:=ver) ls ⟨pos+k,d,v,c,ln,n,!(xH ls d pos k)⟩ (.sl idC (vC+k) 8 0 k) ds h hl.1;have d3:=hl.at (pos+k);refine zh (aA ?_);obtain⟨S1,t⟩:∃S1,S1=(St k).set id (yq ver ls (qu ls ⟨pos+k,d,v,c,ln,n,!(xH ls d pos k)⟩) (.sl idC (vC+k) 8 0 k) ds):=⟨_,rfl⟩;have c7:yd nx S1:=by rw[t];exact jf (e0 k) f _
 have a2:vB d (zZ ls (pos+k))=none->o=false:=λq=>by rw[ho];exact Ft d2 (by rw[q];rfl)
 simp only at a0;refine za (xZ [] EG EG λK Gc Gh hK c8 d4 X a6 hX=>?_);simp -implicitDefEqProofs [a6,hX];try clear a6 hX X
 refine c8 _ _ _ _ _ _ _ λa=>((a0 _ ((zG f).trans (xi k))).mono ?_).v;rintro _ _ ⟨rfl,rfl⟩;refine⟨S1,_,by rw[qE _ f,<-t],?_⟩;clear c8 d4;clear Gc Gh;refine w8 a (D:=[]) EG λGc Gh c8 d4 X a6 hX=>?_;simp -implicitDefEqProofs [a6,hX];clear a6 hX X;refine hK _ _ _ ?_;clear hK c8 d4;clear K Gc Gh;clear a0 a;rcases e:zZ ls (pos+k) with _|⟨w,l'⟩
 have a1:=a2 (by rw[e];rfl);repeat apply za
 refine zb ?_;refine aD ?_;refine EK ?_;refine zg ⟨_,_,by simp;rfl,by rw[a1];simp only[A7,if_false];exact⟨by simp[zp],_,_,_,by rw[t];exact s k _ _⟩,zV c7⟩;repeat apply za
 refine zb ?_;refine zk EF ?_;refine zh ?_;have d5:ext S1 nx [.map v0 (Vv id ver)] nx=.map v0 (Vv id ver):=by rw[Zg];rfl
 have d6:pos+k<ls.length:=by apply DY;intro hh;unfold zZ at e;rw[List.getD_eq_getElem?_getD,Ao hh]at e;cases e
 have e7:qu ls ⟨pos+k,d,v,c,ln,n,!(xH ls d pos k)⟩=⟨pos+k+1,d,v,c,ln,n,!(xH ls d pos k)⟩:=if_pos d6;rw[e7]at t;have a7:=Fx ls d pos k;have e9:=hl.1;have a3:S1 id=yq ver ls ⟨pos+k+1,d,v,c,ln,n,!(xH ls d pos k)⟩ (.sl idC (vC+k) 8 0 (xe ls d pos k).length) ds:=by rw[t,q11,a7]
 have a4:S1 idC=.cells (vC+k) 59 ((xe ls d pos k).flatMap Enc.enc):=by rw[t,q10 _ _ _ _ (Ne.symm d1),xc]
 have e2:l'.length<=1048576/\∀u∈l',u.length<=1048576:=by rw[e]at d3;exact⟨by have:=d3.1;simp at this;omega,λu hu=>d3.2 u (by simp[hu])⟩
 have d0:List.take l'.length ((l'.map bs).flatMap Enc.enc)=(l'.map bs).flatMap Enc.enc:=Ae (by rw[dU,List.length_map];exact Af _);have e3:L (l'.map bs)=.lst l'.length ((l'.map bs).flatMap Enc.enc):=by unfold L;rw[List.length_map]
 have a8:∀r' cs',S1.set id (yq ver ls r' cs' ds)=(S.set id (yq ver ls r' cs' ds)).set idC (.cells (vC+k) 59 ((xe ls d pos k).flatMap Enc.enc)):=λr' cs'=>by rw[t,Store.set_set,s]
 have a9:∀r' cs' oC,(S1.set id (yq ver ls r' cs' ds)).set idC oC=(S.set id (yq ver ls r' cs' ds)).set idC oC:=λr' cs' oC=>by rw[a8,Store.set_set]
 obtain⟨zf,d7⟩:∃z,Program.zeroOf prog 174=some z:=Cj.1 ED;have q1:w≠Zc->(bs w==⟨#[118,105,115,105,116]⟩)=false:=λh=>Fu λhh=>h (Vs.1 hh);have q2:w≠Xa->(bs w==⟨#[116,97,110,107]⟩)=false:=λh=>Fu λhh=>h (Vs.1 hh);by_cases hv:w=Zc
 .have hf:jO .string (.string (bs w)) (Vv id ver) 0=some (some (0,.fn (.func 114) [.ptr id ver 0] [])):=by rw[hv];rfl
  refine EK ?_;refine λa=>Yv rfl underlying175 underlying9 rfl rfl rfl d5 hf d7 ?_;refine⟨_,_,rfl,?_⟩;have b7:Y7 true zf (some (0,.fn (.func 114) [.ptr id ver 0] []))=.tup [.fn (.func 114) [.ptr id ver 0] [],B true]:=rfl;refine xA [] b7 a ?_;have i:=λS (h1:S id=_) (h2:S idC=_)=>Zya (S:=S) (id:=id) (ver:=ver) (idC:=idC) (vC:=vC+k) ls ⟨pos+k+1,d,v,c,ln,n,!(xH ls d pos k)⟩ (xe ls d pos k) ds l' h1 h2 (by rw[a7];omega) e2;have x:vB d (zZ ls (pos+k))=Xb d l':=by rw[e];exact if_pos hv
  simp only[e3]at i;cases j:Xb d l' with
  |none =>
  have a1:=a2 (by rw[x,j]);rw[j]at i;simp only at i;refine aF [(2,34)] d0 ?_;refine λa=>((i _ ((zG f).trans a3) ((zG g).trans a4)).mono ?_).v;rintro _ _ ⟨rfl,b,rfl⟩;refine⟨_,_,qE _ f,xA [(2,34)] trivial a ?_⟩;refine aD ?_;refine EK ?_;refine zg ⟨_,_,by simp;rfl,by rw[a1];simp only[A7,if_false];exact⟨by simp[zp],_,_,_,a8 _ _⟩,zV (jf c7 f _)⟩
  |some cc =>
  obtain⟨b8,e4⟩:=cc;rw[j]at i;simp only at i;refine aF [(2,34)] d0 ?_;refine λa=>((i _ ((zG f).trans a3) ((zG g).trans a4)).mono ?_).v;rintro _ _ ⟨rfl,rfl⟩;refine⟨_,_,by rw[qE _ f,qE _ g],xA [(2,34)] trivial a ?_⟩;refine aC (zb ?_);have d8:uF d (zZ ls (pos+k))=(b8,e4):=by unfold uF;rw[x,j];rfl
  have d9:St (k+1)=(S1.set id (yq ver ls ⟨pos+k+1,d,v,c,ln,n,!(xH ls d pos k)||!e4⟩ (.sl idC (vC+k+1) 8 0 ((xe ls d pos k).length+1)) ds)).set idC (.cells (vC+k+1) 59 ((xe ls d pos k++[b8]).flatMap Enc.enc)):=by rw[a9,y,Fw,Fv,d8,a7,Bool.not_and];rfl
  exact zr (k+1) [] ⟨d2,d6,λl c6=>by
   rw[Vu,AB]at c6;obtain q|q:=c6;exact a5 l q;obtain rfl:l=zZ ls (pos+k):=by simpa using q
   rw[x,j];rfl⟩ EA (by simp[zu k EA]) (d9.trans (by rw[Ar];rfl)) rfl
 by_cases hk:w=Xa
 .have hf:jO .string (.string (bs w)) (Vv id ver) 0=some (some (1,.fn (.func 115) [.ptr id ver 0] [])):=by rw[hk];rfl
  refine EK ?_;refine λa=>Yv rfl underlying175 underlying9 rfl rfl rfl d5 hf d7 ?_;refine⟨_,_,rfl,?_⟩;have b7:Y7 true zf (some (1,.fn (.func 115) [.ptr id ver 0] []))=.tup [.fn (.func 115) [.ptr id ver 0] [],B true]:=rfl;refine xA [] b7 a ?_;have p:=λS (h1:S id=_) (h2:S idC=_)=>Zyb (S:=S) (id:=id) (ver:=ver) (idC:=idC) (vC:=vC+k) ls ⟨pos+k+1,d,v,c,ln,n,!(xH ls d pos k)⟩ (xe ls d pos k) ds l' h1 h2 (by rw[a7];omega) e2;have x:vB d (zZ ls (pos+k))=(Jh l').map (·,true):=by rw[e];exact(if_neg hv).trans (if_pos hk)
  simp only[e3]at p;cases j:Jh l' with
  |none =>
  have a1:=a2 (by rw[x,j];rfl);rw[j]at p;simp only at p;refine aF [(2,34)] d0 ?_;refine λa=>((p _ ((zG f).trans a3) ((zG g).trans a4)).mono ?_).v;rintro _ _ ⟨rfl,rfl⟩;refine⟨_,_,rfl,xA [(2,34)] trivial a ?_⟩;refine aD ?_;refine EK ?_;refine zg ⟨_,_,by simp;rfl,by rw[a1];simp only[A7,if_false];exact⟨by simp[zp],_,_,_,by rw[t];exact s k _ _⟩,zV c7⟩
  |some b8 =>
  rw[j]at p;simp only at p;refine aF [(2,34)] d0 ?_;refine λa=>((p _ ((zG f).trans a3) ((zG g).trans a4)).mono ?_).v;rintro _ _ ⟨rfl,rfl⟩;refine⟨_,_,by rw[qE _ f,qE _ g],xA [(2,34)] trivial a ?_⟩;refine aC (zb ?_);have d8:uF d (zZ ls (pos+k))=(b8,true):=by unfold uF;rw[x,j];rfl
  have d9:St (k+1)=(S1.set id (yq ver ls ⟨pos+k+1,d,v,c,ln,n,!(xH ls d pos k)⟩ (.sl idC (vC+k+1) 8 0 ((xe ls d pos k).length+1)) ds)).set idC (.cells (vC+k+1) 59 ((xe ls d pos k++[b8]).flatMap Enc.enc)):=by rw[a9,y,Fw,Fv,d8,a7,DT];rfl
  exact zr (k+1) [] ⟨d2,d6,λl c6=>by
   rw[Vu,AB]at c6;obtain q|q:=c6;exact a5 l q;obtain rfl:l=zZ ls (pos+k):=by simpa using q
   rw[x,j];rfl⟩ EA (by simp[zu k EA]) (d9.trans (by rw[Ar];rfl)) rfl
 have hf:jO .string (.string (bs w)) (Vv id ver) 0=some none:=by simp[jO,Instr.sameNow,q1 hv,q2 hk]
 have x:vB d (zZ ls (pos+k))=none:=by rw[e];exact(if_neg hv).trans (if_neg hk)
 have a1:=a2 x;refine EK ?_;refine λa=>Yv rfl underlying175 underlying9 rfl rfl rfl d5 hf d7 ?_;refine⟨_,_,rfl,?_⟩;have b7:Y7 true zf none=.tup [Jt zf,B false]:=rfl;refine xA [] b7 a ?_;refine aF [(2,34)] zE ?_;refine aD ?_;refine EK ?_;refine zg ⟨_,_,by simp;rfl,by rw[a1];simp only[A7,if_false];exact⟨by simp[zp],_,_,_,by rw[t];exact s k _ _⟩,zV c7⟩;simp at hc;obtain rfl:k=n:=EA;have e8:o=true:=by rw[ho,Ay];exact a5
 refine zx (EK ?_);refine zg ⟨_,_,by simp;rfl,by rw[e8];simp only[if_true];exact⟨by simp[zp],e6,y _⟩,zV (e0 _)⟩
def wQ(ls:List Ln)(p k:Nat):List (List Int):=(qq ls p k).map λl=>l.map zT
def Zyd(ls:List Ln)(p k:Nat):wQ ls p (k+1)=wQ ls p k++[(zZ ls (p+k)).map zT]:=by simp[wQ,Vu]
def Fy(ls:List Ln)(p k:Nat):(wQ ls p k).length=k:=by simp[wQ,eC]
def Zye{S:Store}{id ver idD vD:Nat}(ls:List Ln)(r:Rdr)(n:Nat)(cs:PV)(hS:S id=yq ver ls r cs (.sl idD vD 1 0 0))(hD:S idD=.cells vD 26 [])(hl:LnsOk ls)(hm:r.m=n)(hn:n<=1048576)(hp:r.pos<=ls.length):
  SP 73 [.ptr id ver 0] S (λq S'=>if zZ ls r.pos=[j9]/\(qq ls (r.pos+1) (n+1)).all (uG (n+1))=true then
    q=B true/\r.pos+1+(n+1)<=ls.length/\S'=(S.set id (yq ver ls { r with pos:=r.pos+1+(n+1) } cs (.sl idD (vD+(n+1)) 1 0 (n+1)))).set idD (.cells (vD+(n+1)) 26 ((wQ ls (r.pos+1) (n+1)).flatMap Enc.enc))
   else q=B false/\∃r' ds' oD,S'=(S.set id (yq ver ls r' cs ds')).set idD oD):=by
 have p:id≠idD:=by rintro rfl;rw[hS]at hD;simp at hD
 obtain⟨pos,d,v,c,j,m,bad⟩:=r;simp only at hm hp ⊢;subst hm;obtain⟨o,ho⟩:∃o:Bool,o=(decide (zZ ls pos=[j9])&&(qq ls (pos+1) (n+1)).all (uG (n+1))):=⟨_,rfl⟩;have a7:(zZ ls pos=[j9]/\(qq ls (pos+1) (n+1)).all (uG (n+1))=true)<->o=true:=by rw[ho,Aw,decide_eq_true_eq]
 simp only[a7];obtain⟨St,s⟩:∃St:Nat->Store,∀k,St k=(S.set id (yq ver ls ⟨pos+1+k,d,v,c,j,n,bad⟩ cs (.sl idD (vD+k) 1 0 k))).set idD (.cells (vD+k) 26 ((wQ ls (pos+1) k).flatMap Enc.enc)):=⟨_,λ_=>rfl⟩;have x:=λS (h:S id=_)=>bi (S:=S) (id:=id) (ver:=ver) ls ⟨pos,d,v,c,j,n,bad⟩ cs (.sl idD vD 1 0 0) h hl.1;have d3:=Fq (zZ ls pos) [j9] (hl.at pos).1 EB;obtain⟨S1,t⟩:∃S1,S1=S.set id (yq ver ls (qu ls ⟨pos,d,v,c,j,n,bad⟩) cs (.sl idD vD 1 0 0)):=⟨_,rfl⟩;have a8:S1 idD=.cells vD 26 []:=by rw[t,q10 _ _ _ _ (Ne.symm p),hD]
 refine yr func73 ntmps73 results73 λnx hd=>?_;have b:id<nx:=jt hd hS EB;have a2:idD<nx:=jt hd hD EB;have g1:¬nx<=id:=EA;have g2:¬nx<=idD:=EA;have d4:yd nx S1:=by rw[t];exact jf hd b _
 have a9:∀k,yd nx (St k):=λk=>by rw[s];exact jf (jf hd b _) a2 _
 simp only at x;refine EK ?_;repeat apply za
 refine zb ?_;refine λa=>((x _ ((zG b).trans hS)).mono ?_).v;rintro _ _ ⟨rfl,rfl⟩;refine⟨S1,[],by rw[qE _ b,<-t],zO a ?_⟩;refine λa=>((d3 _).mono ?_).v;rintro _ _ ⟨rfl,rfl⟩;refine⟨_,_,rfl,zO a ?_⟩;by_cases hw:zZ ls pos=[j9];have d5:pos<ls.length:=by apply DY;intro hh;unfold zZ at hw;rw[List.getD_eq_getElem?_getD,Ao hh]at hw;cases hw
 have d6:qu ls ⟨pos,d,v,c,j,n,bad⟩=⟨pos+1,d,v,c,j,n,bad⟩:=if_pos d5;rw[d6]at t;have b7:St 0=S1:=by rw[s,t];refine QC _ idD _ ?_;rw[q10 _ _ _ _ (Ne.symm p),hD];rfl
 have x1:∀obs,ext S1 nx obs id=yq ver ls ⟨pos+1,d,v,c,j,n,bad⟩ cs (.sl idD vD 1 0 0):=λobs=>by rw[zG b,t,q11]
 have xi:∀k,St k id=yq ver ls ⟨pos+1+k,d,v,c,j,n,bad⟩ cs (.sl idD (vD+k) 1 0 k):=λk=>by rw[s,q10 _ _ _ _ p,q11]
 have xd:∀k,St k idD=.cells (vD+k) 26 ((wQ ls (pos+1) k).flatMap Enc.enc):=λk=>by rw[s,q11]
 have wn:IntKind.i64.wrap ((n:Int)+1)=(n:Int)+1:=by rw[AD];omega
 refine zk (by simp[hw]) ?_;refine zh ?_;repeat apply za
 refine ze [] (zn x1 wn) ?_;refine zj (xk (λk:Nat=>k<=n+1/\pos+1+k<=ls.length/\∀l∈qq ls (pos+1) k,uG (n+1) l=true) (λk=>[(0,.ptr id ver 0),(14,I ((n:Int)+1)),(15,I k)]) St (λ_=>[]) (λk=>n+1-k) (yb 0 [] ⟨by simp,by omega,by simp[qq]⟩ EB b7 rfl) ?_);rintro k ⟨hk,d7,a3⟩;refine EK ?_;by_cases b8:k<n+1
 .have e5:(k:Int)<(n:Int)+1:=EA;have i:=λS (h:S id=_)=>bi (S:=S) (id:=id) (ver:=ver) ls ⟨pos+1+k,d,v,c,j,n,bad⟩ cs (.sl idD (vD+k) 1 0 k) h hl.1;have c6:=hl.at (pos+1+k);have g:=ez (zZ ls (pos+1+k)) c6.1 (λw hw=>by have:=c6.2 w hw;omega);obtain⟨S2,f⟩:∃S2,S2=(St k).set id (yq ver ls (qu ls ⟨pos+1+k,d,v,c,j,n,bad⟩) cs (.sl idD (vD+k) 1 0 k)):=⟨_,rfl⟩;have c7:yd nx S2:=by rw[f];exact jf (a9 k) b _
  have u:∀r' ds',(St k).set id (yq ver ls r' cs ds')=(S.set id (yq ver ls r' cs ds')).set idD (.cells (vD+k) 26 ((wQ ls (pos+1) k).flatMap Enc.enc)):=λr' ds'=>by rw[s,Store.set_comm _ idD id _ _ p,Store.set_set]
  have a4:uG (n+1) (zZ ls (pos+1+k))=false->o=false:=λq=>by rw[ho,Ft b8 q,DI]
  simp only at i;refine za (zm EF ?_);refine zh (aA ?_);obtain⟨p2,a1⟩:∃p2,qu ls ⟨pos+1+k,d,v,c,j,n,bad⟩=⟨p2,d,v,c,j,n,bad⟩:=by unfold qu;split;exact⟨_,rfl⟩;exact⟨_,rfl⟩
  have d8:pos+1+k<ls.length->p2=pos+1+k+1:=λh=>by unfold qu at a1;rw[if_pos h]at a1;exact(congrArg Rdr.pos a1).symm
  rw[a1]at f i;have x2:∀obs,ext S2 nx obs id=yq ver ls ⟨p2,d,v,c,j,n,bad⟩ cs (.sl idD (vD+k) 1 0 k):=λobs=>by rw[zG b,f,q11]
  cases hz:jg (zZ ls (pos+1+k)) with
  |none =>
  have a0:=a4 (by unfold uG;rw[hz];rfl);rw[hz]at g;simp only[vE]at g;refine EK ?_;refine λa=>((i _ ((zG b).trans (xi k))).mono ?_).v;rintro _ _ ⟨rfl,rfl⟩;refine⟨S2,_,by rw[qE _ b,<-f],zO a ?_⟩;refine λa=>((g _).mono ?_).v;rintro _ _ ⟨rfl,rfl⟩;refine⟨_,_,rfl,zO a ?_⟩;repeat apply za
  refine ze [(2,25)] zE ?_;refine aD ?_;refine EK ?_;refine zg ⟨_,_,by simp;rfl,by rw[a0];simp only[A7,if_false];exact⟨by simp[zp],_,_,_,by rw[f];exact u _ _⟩,zV c7⟩
  |some z =>
  have c8:=eo hz;rw[hz]at g;simp only[vE]at g;refine EK ?_;refine λa=>((i _ ((zG b).trans (xi k))).mono ?_).v;rintro _ _ ⟨rfl,rfl⟩;refine⟨S2,_,by rw[qE _ b,<-f],zO a ?_⟩;refine λa=>((g _).mono ?_).v;rintro _ _ ⟨rfl,rfl⟩;refine⟨_,_,rfl,zO a ?_⟩;by_cases a5:z.length=n+1;have a6:(z.length:Int)=(n:Int)+1:=EA;repeat apply za
  refine ze [(2,25)] (zD x2 wn a6) ?_;refine aC ?_;have y:(zZ ls (pos+1+k)).length=n+1:=by rw[<-c8];exact a5
  have d0:pos+1+k<ls.length:=by apply DY;intro hh;unfold zZ at y;rw[List.getD_eq_getElem?_getD,Ao hh]at y;simp at y
  obtain rfl:=d8 d0;have d9:z=(zZ ls (pos+1+k)).map zT:=by unfold jg at hz;split at hz<;>cases hz;rfl
  have e0:=Fy ls (pos+1) k;have d1:((wQ ls (pos+1) k).flatMap Enc.enc).length=k:=by rw[jJ,e0]
  have e1:List.take k ((wQ ls (pos+1) k).flatMap Enc.enc)=(wQ ls (pos+1) k).flatMap Enc.enc:=Ae (by rw[d1];exact Af _);have e2:∀obs,ext S2 nx obs idD=.cells (vD+k) 26 ((wQ ls (pos+1) k).flatMap Enc.enc):=λobs=>by rw[zG a2,f,q10 _ _ _ _ (Ne.symm p),xd]
  have x3:∀A obs,ext (S2.set idD A) nx obs id=yq ver ls ⟨pos+1+k+1,d,v,c,j,n,bad⟩ cs (.sl idD (vD+k) 1 0 k):=λA obs=>by rw[zG b,q10 _ _ _ _ p,f,q11]
  have e6:k<=1048576:=EA;clear d1;refine ze [] (zU x2 e2 x3 g1 g2 e1) ?_;refine⟨by omega,?_⟩;have e3:St (k+1)=(S2.set idD (.cells (vD+k+1) 26 ((wQ ls (pos+1) k).flatMap Enc.enc++[L z]))).set id (.cells ver 129 [L (wl ls),I ((pos:Int)+1+k+1),I d,I v,I c,I j,cs,.sl idD (vD+k+1) 1 0 (k+1),I n,B bad]):=by have e:(.cells ver 129 [L (wl ls),I ((pos:Int)+1+k+1),I d,I v,I c,I j,cs,.sl idD (vD+k+1) 1 0 (k+1),I n,B bad]:Ob)=yq ver ls ⟨pos+1+k+1,d,v,c,j,n,bad⟩ cs (.sl idD (vD+k+1) 1 0 (k+1)):=rfl;rw[e,f,Store.set_comm _ idD id _ _ p,Store.set_set,u,Store.set_set,s,Zyd,Ar,<-d9];rfl
  rw[<-e3];refine zb ?_;exact zr (k+1) [] ⟨b8,d0,λl d2=>by
   rw[Vu,AB]at d2;obtain q|q:=d2;exact a3 l q;obtain rfl:l=zZ ls (pos+1+k):=by simpa using q
   unfold uG;rw[hz,decide_eq_true y];rfl⟩ EA (by simp[zu k EA]) rfl rfl
  have a6:¬(z.length:Int)=(n:Int)+1:=EA;have a0:=a4 (by unfold uG;rw[hz,<-c8,decide_eq_false a5];rfl);repeat apply za
  refine ze [(2,25)] (zD x2 wn a6) ?_;refine aD ?_;refine EK ?_;refine zg ⟨_,_,by simp;rfl,by rw[a0];simp only[A7,if_false];exact⟨by simp[zp],_,_,_,by rw[f];exact u _ _⟩,zV c7⟩
 obtain rfl:k=n+1:=EA;have e4:o=true:=by rw[ho,decide_eq_true hw,Ay.2 a3];rfl
 refine za (aE ?_);refine zx (EK ?_);refine zg ⟨_,_,by simp;rfl,by rw[e4];simp only[if_true];exact⟨by simp[zp],d7,s _⟩,zV (a9 _)⟩;have a0:o=false:=by rw[ho,decide_eq_false hw,Dg]
 refine zm (by simp[hw]) ?_;refine EK ?_;refine zg ⟨_,_,by simp;rfl,by rw[a0];simp only[A7,if_false];exact⟨by simp[zp],_,_,_,(by rw[<-t];exact(QC S1 idD _ a8).symm)⟩,zV d4⟩
abbrev RdX:=Rdr × List Cust × List (List Int)
def r0:Rdr:=⟨0,0,0,0,0,0,false⟩
def uc(ls:List Ln)(k:Nat)(x:RdX):Option RdX:=match k with
 |0=>if zZ ls x.1.pos=[vu,[49]] then some (qu ls x.1,x.2) else none
 |1=>match qK (zZ ls x.1.pos) [vw,vx,vy,vz] with
  |some [d,v,c,l]=>some ({ qu ls x.1 with d:=d,v:=v,c:=c,l:=l },x.2)
  |_=>none
 |2=>match qK (zZ ls x.1.pos) [vA] with
  |some [m]=>some ({ qu ls x.1 with m:=m },x.2)
  |_=>none
 |3=>if (qq ls x.1.pos x.1.m.toNat).all (λl=>(vB x.1.d l).isSome)=true then some ({ x.1 with pos:=x.1.pos+x.1.m.toNat,bad:=!(xH ls x.1.d x.1.pos x.1.m.toNat) },xe ls x.1.d x.1.pos x.1.m.toNat,x.2.2) else none
 |4=>if zZ ls x.1.pos=[j9]/\(qq ls (x.1.pos+1) (x.1.m.toNat+1)).all (uG (x.1.m.toNat+1))=true then some ({ x.1 with pos:=x.1.pos+1+(x.1.m.toNat+1) },x.2.1,wQ ls (x.1.pos+1) (x.1.m.toNat+1)) else none
 |5=>if x.1.pos=ls.length then some x else none
 |_=>some x
def yV(ls:List Ln):Nat->Option RdX
 |0=>some (r0,[],[])
 |k+1=>(yV ls k).bind (uc ls k)
def Vw{r:Rdr}(h:zZ ls r.pos≠[]):qu ls r={ r with pos:=r.pos+1 }/\r.pos+1<=ls.length:=by by_cases a:r.pos<ls.length;exact⟨if_pos a,a⟩;simp_all[zZ]
variable {a:Ln}{z:List Int}
def eD{l:Ln}(h:qK l a=some z)(hn:a≠[]):l≠[]:=by grind[qK,X9]
def FA(w:Wd):0<=zT w:=by simp[zT]
def FB{l:Ln}(h:qK l a=some z):∀x∈z,0<=x:=by unfold qK jg at h;split at h;split at h;cases h;simp[FA];cases h;cases h
def Zyf(ls:List Ln):Yl ls=(yV ls 6).map λx=>(⟨x.1.d,x.1.v,x.1.c,x.1.l,x.2.1,x.2.2⟩,!x.1.bad):=by
 unfold Yl;by_cases h0:zZ ls 0=[vu,[49]]
 .obtain⟨g,q0⟩:=Vw (ls:=ls) (r:=r0) (by show zZ ls 0≠[];rw[h0];simp);have s1:yV ls 1=some (⟨1,0,0,0,0,0,false⟩,[],[]):=by show (if zZ ls r0.pos=[vu,[49]] then some (qu ls r0,_) else none)=_;rw[g];exact if_pos h0
  rw[if_pos h0];cases h1:qK (zZ ls 1) [vw,vx,vy,vz] with
  |none =>
  simp_all[yV,uc]
  |some z =>
  obtain⟨d,v,c,l,rfl⟩:∃d v c l,z=[d,v,c,l]:=by
   have:=Vt h1
   match z,this with
   |[d,v,c,l],_=>simp
  obtain⟨h,n⟩:=Vw (ls:=ls) (r:=⟨1,0,0,0,0,0,false⟩) (eD h1 EB);have s2:yV ls 2=some (⟨2,d,v,c,l,0,false⟩,[],[]):=by show (yV ls 1).bind (uc ls 1)=_;rw[s1];show (match qK (zZ ls 1) _ with|some [d,v,c,l]=>some ({ qu ls _ with d:=d,v:=v,c:=c,l:=l },_)|_=>none)=_;rw[h1,h]
  simp only[];cases h2:qK (zZ ls 2) [vA] with
  |none =>
  simp_all[yV,uc]
  |some z2 =>
  obtain⟨m,rfl⟩:∃m,z2=[m]:=by
   have:=Vt h2
   match z2,this with
   |[m],_=>simp
  obtain⟨i,o⟩:=Vw (ls:=ls) (r:=⟨2,d,v,c,l,0,false⟩) (eD h2 EB);have s3:yV ls 3=some (⟨3,d,v,c,l,m,false⟩,[],[]):=by show (yV ls 2).bind (uc ls 2)=_;rw[s2];show (match qK (zZ ls 2) _ with|some [m]=>some ({ qu ls _ with m:=m },_)|_=>none)=_;rw[h2,i]
  simp only[];by_cases h3:(qq ls 3 m.toNat).all (λl=>(vB d l).isSome)=true;have a:yV ls 4=some (⟨3+m.toNat,d,v,c,l,m,!(xH ls d 3 m.toNat)⟩,xe ls d 3 m.toNat,[]):=by show (yV ls 3).bind (uc ls 3)=_;rw[s3];exact if_pos h3
  by_cases b:zZ ls (3+m.toNat)=[j9]/\(qq ls (4+m.toNat) (m.toNat+1)).all (uG (m.toNat+1))=true;have j:3+m.toNat+1=4+m.toNat:=EA;have e:yV ls 5=some (⟨4+m.toNat+(m.toNat+1),d,v,c,l,m,!(xH ls d 3 m.toNat)⟩,xe ls d 3 m.toNat,wQ ls (4+m.toNat) (m.toNat+1)):=by show (yV ls 4).bind (uc ls 4)=_;rw[a];show (if zZ ls (3+m.toNat)=[j9]/\(qq ls (3+m.toNat+1) (m.toNat+1)).all (uG (m.toNat+1))=true then some ((⟨3+m.toNat+1+(m.toNat+1),d,v,c,l,m,!(xH ls d 3 m.toNat)⟩:Rdr),xe ls d 3 m.toNat,wQ ls (3+m.toNat+1) (m.toNat+1)) else none)=_;rw[j];exact if_pos b
  by_cases k:ls.length=5+2*m.toNat;have f:yV ls 6=some (⟨4+m.toNat+(m.toNat+1),d,v,c,l,m,!(xH ls d 3 m.toNat)⟩,xe ls d 3 m.toNat,wQ ls (4+m.toNat) (m.toNat+1)):=by show (yV ls 5).bind (uc ls 5)=_;rw[e];exact if_pos EI
  rw[if_pos ⟨h3,b.1,b.2,k⟩,f];simp only[AR,Bool.not_not];rfl;have f:yV ls 6=none:=by show (yV ls 5).bind (uc ls 5)=_;rw[e];exact if_neg (by show ¬4+m.toNat+(m.toNat+1)=ls.length;omega)
  simp_all;have e:yV ls 5=none:=by show (yV ls 4).bind (uc ls 4)=_;rw[a];exact if_neg (by show ¬(zZ ls (3+m.toNat)=_/\(qq ls (3+m.toNat+1) _).all _=true);rw[show 3+m.toNat+1=4+m.toNat by omega];exact b)
  have f:yV ls 6=none:=by show (yV ls 5).bind _=none;rw[e];rfl
  grind;have a:yV ls 4=none:=by show (yV ls 3).bind (uc ls 3)=_;rw[s3];exact if_neg h3
  have f:yV ls 6=none:=by show ((yV ls 4).bind _).bind _=none;rw[a];rfl
  grind
 have s1:yV ls 1=none:=by show (if zZ ls r0.pos=[vu,[49]] then some (qu ls r0,_) else none)=_;exact if_neg h0
 simp_all[yV]
def Zyg{l:Ln}(h:w∈l):w.length<=(zP l).length:=by
 rw[aS];have:w.length<=(l.map List.length).sum:=by
  induction l with
  |nil=>cases h
  |cons a l b =>
  grind
 omega
def FC{l:Ln}(h:l∈ls):(zP l).length+1<=(zN ls).length:=by induction ls<;>grind[vW]
theorem FD(ls:List Ln):ls.length<=(zN ls).length:=by induction ls<;>grind[vW]
variable {t:List UInt8}
def li(h:y9 t=some ls)(hl:t.length<=1048576):LnsOk ls:=by obtain⟨h1,_,_⟩:=ek t.length (Af _) h;refine⟨by grind[FD],λl hm=>?_⟩;have h2:=FC hm;rw[h1]at h2;exact⟨by grind[aS],λw a=>by have:=Zyg a;omega⟩
theorem Wc(w:Wd):zL (zT w):=by
 have h0:=FA w;unfold zT at h0 ⊢;cases h:yF w with
 |none=>exact⟨by simp,by simp⟩
 |some n =>
 have:=J9 h;show -9223372036854775808<=(n:Int)/\(n:Int)<=9223372036854775807;omega
def Zyh{l:Ln}(h:qK l a=some z):∀x∈z,zL x:=by grind[qK,jg,Wc]
def Zyi(w:Wd):xU w<2^64:=by grind[xU,ex]
variable {d:Int}
def Zyj{l:Ln}{x:Cust × Bool}(h:vB d l=some x)(hl:l.length<=1048576):CustOk x.1:=by
 have z0:zL 0:=⟨by decide,by decide⟩;have z1:zL 1:=⟨by decide,by decide⟩;have z2:zL 2:=⟨by decide,by decide⟩
 match l,h,hl with
 |w::l',h,hl =>
 have h':(if w=Zc then Xb d l' else if w=Xa then (Jh l').map (·,true) else none)=some x:=h;split at h'
 .match l',h',hl with
  |dw::ps,h',hl =>
  rw[kV]at h';split at h';cases h';refine⟨z1,Wc dw,?_,?_,z0,z0,z0,z0,z0⟩;intro p f;obtain⟨u,_,rfl⟩:=Aj.1 f;exact Zyi u;show (ps.map xU).length<=_;simp at hl ⊢;omega;cases h'
 split at h';obtain⟨c,hc,rfl⟩:=An.1 h';by_cases g:l'.length=5;obtain⟨a,b,e,i,j,rfl⟩:∃a b c d e,l'=[a,b,c,d,e]:=by
  match l',g with
  |[a,b,c,d,e],_=>exact⟨a,b,c,d,e,rfl⟩
 rw[kW]at hc;split at hc;cases hc;refine⟨z2,z0,by simp,by simp,Wc _,Wc _,Wc _,?_,Wc _⟩;show zL (Vl i);unfold Vl;split;exact⟨by decide,by decide⟩;exact⟨by decide,by decide⟩;cases hc;simp_all[Fs];cases h'
variable {x:Inst}
def FE{b:Bool}(h:Yl ls=some (x,b))(hl:LnsOk ls):InstOk x:=by
 unfold Yl at h;split at h;split at h;rename_i d v c l h1;split at h;rename_i m h2;split at h;rename_i g;obtain⟨i,e2,o,p⟩:=g;cases h;have q:=Zyh h1;have j:m.toNat<=1048576:=by have:=hl.1;omega
 refine⟨q d EB,q v EB,q c EB,q l EB,?_,?_,?_,?_⟩;grind[eC];intro s e;obtain⟨a,hm,rfl⟩:=Aj.1 e;have hs:=Ay.1 i a hm;obtain⟨k,_,rfl⟩:=Aj.1 hm;obtain⟨y,f⟩:=Cj.1 hs;have:uF d (zZ ls (3+k))=y:=by unfold uF;rw[f];rfl
 rw[this];exact Zyj f (hl.at _).1;grind[eC];intro r n;obtain⟨a,hm,rfl⟩:=Aj.1 n;obtain⟨k,_,rfl⟩:=Aj.1 hm;refine⟨by have:=(hl.at (4+m.toNat+k)).1;simp;omega,λz t=>?_⟩;grind[Wc];cases h;cases h;cases h;cases h
def bm(h:yV ls k=none)(a:k<=6):yV ls 6=none:=by
 have:∀j,yV ls (k+j)=none:=by
  intro j;induction j with
  |zero=>exact h
  |succ j b=>show (yV ls (k+j)).bind _=none;rw[b];rfl
 have:=this (6-k);rwa[Nat.add_sub_cancel' a]at this
def FF(ls:List Ln)(k:Nat)(x:RdX):Prop :=
 x.1.pos<=ls.length/\(k<=3->x.2.1=[]/\x.1.bad=false)/\(k<=4->x.2.2=[])/\0<=x.1.m/\(k=4->x.1.m.toNat<=1048576)
def FG(t:List UInt8)(hl:t.length<=1048576):PP 43 [T (bs t)] (.tup [.agg (zB (yD t).1),I (yD t).2]):=by
 have f:=lh t hl;cases hz:y9 t with
 |none =>
 rw[hz]at f;simp only[Yo]at f;have hp:yD t=(zI,2):=by unfold yD;rw[hz]
 rw[hp];refine zt func43 ntmps43 results43 λS nx w=>?_;refine EK ?_;intro v0;refine EK ?_;refine zq f ?_;repeat apply za
 refine zb ?_;refine aD ?_;refine EK ?_;refine yn 0 4 rfl rfl ?_;refine yn 0 5 rfl rfl ?_;exact zg (zi w EC (by simp[zI,zp]))
 |some ls =>
 rw[hz]at f;simp only[Yo]at f;have g:=li hz hl;have hp:yD t=match Yl ls with
  |none=>(zI,2)
  |some (x,ok)=>if ok=true/\jq x=true then (x,0) else (zI,3):=by unfold yD;rw[hz]<;>rfl
 have a3:=Zyf ls;obtain⟨q,a1⟩:∃q,q=yD t:=⟨_,rfl⟩;rw[<-a1];rw[<-a1]at hp;have u:yV ls 6=none->q=(zI,2):=λh=>by rw[hp,a3,h];rfl
 refine zt func43 ntmps43 results43 λS nx w=>?_;refine EK ?_;intro v0;refine EK ?_;refine zq f ?_;repeat apply za
 refine zb ?_;refine aC (EK ?_);intro v1;refine qy 1 6 59 8 rfl rfl λw0=>?_;refine qy 1 7 26 1 rfl rfl λw1=>?_;repeat apply za
 refine zb ?_;refine zj (zC (λs:Nat × Rdr × List Cust × List (List Int) × Nat × Nat=>s.1<=6/\yV ls s.1=some (s.2.1,s.2.2.1,s.2.2.2.1)/\FF ls s.1 (s.2.1,s.2.2.1,s.2.2.2.1)) (λ(k,r,i,j,vC,vD)=>[(2,.ptr nx v0 0),(6,.ptr (nx+1) v1 0),(32,.lst 6 [.fn (.func 69) [.ptr (nx+1) v1 0] [],.fn (.func 70) [.ptr (nx+1) v1 0] [],.fn (.func 71) [.ptr (nx+1) v1 0] [],.fn (.func 72) [.ptr (nx+1) v1 0] [],.fn (.func 73) [.ptr (nx+1) v1 0] [],.fn (.func 74) [.ptr (nx+1) v1 0] []]),(33,I 6),(34,I k)])
  (λ(k,r,i,j,vC,vD)=>[.cells v0 25 [I 0,I 0,I 0,I 0,yE,yE],yq v1 ls r (.sl (nx+2) vC 8 0 i.length) (.sl (nx+3) vD 1 0 j.length),.cells vC 59 (i.flatMap Enc.enc),.cells vD 26 (j.flatMap Enc.enc)]) (λs=>6-s.1) (0,r0,[],[],w0,w1) [] ⟨by simp,rfl,by simp[FF,r0]⟩ (by simp[qw]) (by simp[r0]) ?_)
 rintro⟨k,r,i,j,vC,vD⟩ ⟨hk,n,m1,m2,m3,m4,m5⟩;simp only at hk n m1 m2 m3 m4 m5 ⊢;refine EK ?_;refine za (zv rfl (λhc=>?_) (λhc=>?_));simp at hc;refine zh (aA ?_);obtain rfl|rfl|rfl|rfl|rfl|rfl:k=0\/k=1\/k=2\/k=3\/k=4\/k=5:=EA;have a:yV ls 1=if zZ ls r.pos=[vu,[49]] then some (qu ls r,i,j) else none:=by show (yV ls 0).bind (uc ls 0)=_;rw[n];rfl
 refine EK ?_;refine EK ?_;refine λb=>((Zx2 ls r _ _ (by rw[zS];rfl) g).mono ?_).v;rintro _ _ ⟨rfl,rfl⟩;refine⟨_,_,yi _ EA EB,zO b ?_⟩;by_cases h:zZ ls r.pos=[vu,[49]];rw[if_pos h]at a;obtain⟨n1,n2⟩:=Vw (ls:=ls) (r:=r) (by rw[h];simp);refine zk (by simp[h]) ?_;refine zh (zb ?_);exact zr (1,qu ls r,i,j,vC,vD) [] ⟨by omega,a,by rw[n1];exact⟨n2,λ_=>m2 EA,λ_=>m3 EA,m4,λh=>by omega⟩⟩ EA (by simp;try exact wr _ EA EA) rfl (by simp;try rfl);rw[if_neg h]at a;have o:=u (bm a EA);refine zm (by simp[h]) ?_;refine EK ?_;refine yn 0 4 rfl rfl ?_;refine yn 0 5 rfl rfl ?_;exact zg (zi w EC (by simp[zI,zp,o]))
 .have a:yV ls 2=match qK (zZ ls r.pos) [vw,vx,vy,vz] with
   |some [d,v,c,l]=>some ({ qu ls r with d:=d,v:=v,c:=c,l:=l },i,j)
   |_=>none:=by show (yV ls 1).bind (uc ls 1)=_;rw[n];rfl
  have e:=λS (h:S (nx+1)=_)=>Zx3 (S:=S) (id:=nx+1) (ver:=v1) ls r (.sl (nx+2) vC 8 0 i.length) (.sl (nx+3) vD 1 0 j.length) h g;cases h:qK (zZ ls r.pos) [vw,vx,vy,vz] with
  |none =>
  rw[h]at a e;simp only at a e;have o:=u (bm a EA);refine EK ?_;refine EK ?_;refine λb=>((e _ (by rw[zS];rfl)).mono ?_).v;rintro _ _ ⟨rfl,rfl⟩;refine⟨_,_,yi _ EA EB,zO b ?_⟩;refine aD ?_;refine EK ?_;refine yn 0 4 rfl rfl ?_;refine yn 0 5 rfl rfl ?_;exact zg (zi w EC (by simp[zI,zp,o]))
  |some z =>
  obtain⟨d,v,c,l,rfl⟩:∃d v c l,z=[d,v,c,l]:=by
   have:=Vt h
   match z,this with
   |[d,v,c,l],_=>exact⟨d,v,c,l,rfl⟩
  obtain⟨n1,n2⟩:=Vw (ls:=ls) (r:=r) (eD h EB);have a4:=FB h;rw[h]at a e;simp only at a e;refine EK ?_;refine EK ?_;refine λb=>((e _ (by rw[zS];rfl)).mono ?_).v;rintro _ _ ⟨rfl,rfl⟩;refine⟨_,_,yi _ EA EB,zO b ?_⟩;refine aC (zb ?_);exact zr (2,{ qu ls r with d:=d,v:=v,c:=c,l:=l },i,j,vC,vD) [] ⟨by omega,a,by rw[n1];exact⟨n2,λ_=>m2 EA,λ_=>m3 EA,m4,λh=>by omega⟩⟩ EA (by simp;try exact wr _ EA EA) rfl (by simp;try rfl)
 .have a:yV ls 3=match qK (zZ ls r.pos) [vA] with
   |some [m]=>some ({ qu ls r with m:=m },i,j)
   |_=>none:=by show (yV ls 2).bind (uc ls 2)=_;rw[n];rfl
  have e:=λS (h:S (nx+1)=_)=>Zx4 (S:=S) (id:=nx+1) (ver:=v1) ls r (.sl (nx+2) vC 8 0 i.length) (.sl (nx+3) vD 1 0 j.length) h g;cases h:qK (zZ ls r.pos) [vA] with
  |none =>
  rw[h]at a e;simp only at a e;have o:=u (bm a EA);refine EK ?_;refine EK ?_;refine λb=>((e _ (by rw[zS];rfl)).mono ?_).v;rintro _ _ ⟨rfl,rfl⟩;refine⟨_,_,yi _ EA EB,zO b ?_⟩;refine aD ?_;refine EK ?_;refine yn 0 4 rfl rfl ?_;refine yn 0 5 rfl rfl ?_;exact zg (zi w EC (by simp[zI,zp,o]))
  |some z =>
  obtain⟨m,rfl⟩:∃m,z=[m]:=by
   have:=Vt h
   match z,this with
   |[m],_=>exact⟨m,rfl⟩
  obtain⟨n1,n2⟩:=Vw (ls:=ls) (r:=r) (eD h EB);have a4:=FB h;rw[h]at a e;simp only at a e;refine EK ?_;refine EK ?_;refine λb=>((e _ (by rw[zS];rfl)).mono ?_).v;rintro _ _ ⟨rfl,rfl⟩;refine⟨_,_,yi _ EA EB,zO b ?_⟩;refine aC (zb ?_);exact zr (3,{ qu ls r with m:=m },i,j,vC,vD) [] ⟨by omega,a,by rw[n1];exact⟨n2,λ_=>m2 EA,λ_=>m3 EA,a4 m EB,λh=>by omega⟩⟩ EA (by simp;try exact wr _ EA EA) rfl (by simp;try rfl)
 obtain⟨rfl,hb⟩:=m2 EA;have hm:r.m=(r.m.toNat:Int):=EA;have a:yV ls 4=if (qq ls r.pos r.m.toNat).all (λl=>(vB r.d l).isSome)=true then some ({ r with pos:=r.pos+r.m.toNat,bad:=!(xH ls r.d r.pos r.m.toNat) },xe ls r.d r.pos r.m.toNat,j) else none:=by show (yV ls 3).bind (uc ls 3)=_;rw[n];rfl
 have e:=λS (h:S (nx+1)=_) (h2:S (nx+2)=_)=>Zyc (S:=S) (id:=nx+1) (ver:=v1) (idC:=nx+2) (vC:=vC) ls r r.m.toNat (.sl (nx+3) vD 1 0 j.length) h h2 g hm m1 hb;by_cases h:(qq ls r.pos r.m.toNat).all (λl=>(vB r.d l).isSome)=true;rw[if_pos h]at a;simp only[if_pos h]at e;have a6:=Fx ls r.d r.pos r.m.toNat;refine EK ?_;refine EK ?_;refine λb=>((e _ (by rw[zS];rfl) (by rw[zS];rfl)).mono ?_).v;rintro _ _ ⟨rfl,a2,rfl⟩;refine⟨_,_,by rw[yi _ EA EB,yi _ EA EB],zO b ?_⟩;refine aC (zb ?_);exact zr (4,{ r with pos:=r.pos+r.m.toNat,bad:=!(xH ls r.d r.pos r.m.toNat) },xe ls r.d r.pos r.m.toNat,j,vC+r.m.toNat,vD) [] ⟨by omega,a,a2,λh=>by omega,λ_=>m3 EA,m4,λ_=>by have:=g.1;show r.m.toNat<=_;omega⟩ EA (by simp;try exact wr _ EA EA) rfl (by simp[a6]);rw[if_neg h]at a;have o:=u (bm a EA);simp only[if_neg h]at e;refine EK ?_;refine EK ?_;refine λb=>((e _ (by rw[zS];rfl) (by rw[zS];rfl)).mono ?_).v;rintro _ _ ⟨rfl,r',cs',oC,rfl⟩;refine⟨_,_,by rw[yi _ EA EB,yi _ EA EB],zO b ?_⟩;refine aD ?_;refine EK ?_;refine yn 0 4 rfl rfl ?_;refine yn 0 5 rfl rfl ?_;exact zg (zi w EC (by simp[zI,zp,o]));obtain rfl:=m3 EA;have hm:r.m=(r.m.toNat:Int):=EA;have a:yV ls 5=if zZ ls r.pos=[j9]/\(qq ls (r.pos+1) (r.m.toNat+1)).all (uG (r.m.toNat+1))=true then some ({ r with pos:=r.pos+1+(r.m.toNat+1) },i,wQ ls (r.pos+1) (r.m.toNat+1)) else none:=by show (yV ls 4).bind (uc ls 4)=_;rw[n];rfl
 have e:=λS (h:S (nx+1)=_) (h2:S (nx+3)=_)=>Zye (S:=S) (id:=nx+1) (ver:=v1) (idD:=nx+3) (vD:=vD) ls r r.m.toNat (.sl (nx+2) vC 8 0 i.length) h h2 g hm (m5 rfl) m1;by_cases h:zZ ls r.pos=[j9]/\(qq ls (r.pos+1) (r.m.toNat+1)).all (uG (r.m.toNat+1))=true;rw[if_pos h]at a;simp only[if_pos h]at e;have a7:=Fy ls (r.pos+1) (r.m.toNat+1);refine EK ?_;refine EK ?_;refine λb=>((e _ (by rw[zS];rfl) (by rw[zS];rfl)).mono ?_).v;rintro _ _ ⟨rfl,a2,rfl⟩;refine⟨_,_,by rw[yi _ EA EB,yi _ EA EB],zO b ?_⟩;refine aC (zb ?_);exact zr (5,{ r with pos:=r.pos+1+(r.m.toNat+1) },i,wQ ls (r.pos+1) (r.m.toNat+1),vC,vD+(r.m.toNat+1)) [] ⟨by omega,a,a2,λh=>by omega,λh=>by omega,m4,λh=>by omega⟩ EA (by simp;try exact wr _ EA EA) rfl (by simp[a7]);rw[if_neg h]at a;have o:=u (bm a EA);simp only[if_neg h]at e;refine EK ?_;refine EK ?_;refine λb=>((e _ (by rw[zS];rfl) (by rw[zS];rfl)).mono ?_).v;rintro _ _ ⟨rfl,r',ds',oD,rfl⟩;refine⟨_,_,by rw[yi _ EA EB,yi _ EA EB],zO b ?_⟩;refine aD ?_;refine EK ?_;refine yn 0 4 rfl rfl ?_;refine yn 0 5 rfl rfl ?_;exact zg (zi w EC (by simp[zI,zp,o]));have a:yV ls 6=if r.pos=ls.length then some (r,i,j) else none:=by show (yV ls 5).bind (uc ls 5)=_;rw[n];rfl
 refine EK ?_;refine EK ?_;refine λb=>((Zx5 ls r _ _ (by rw[zS];rfl)).mono ?_).v;rintro _ _ ⟨rfl,rfl⟩;refine⟨_,_,rfl,zO b ?_⟩;by_cases h:r.pos=ls.length;rw[if_pos h]at a;refine zk (by simp[h]) ?_;refine zh (zb ?_);exact zr (6,r,i,j,vC,vD) [] ⟨by omega,a,m1,λh=>by omega,λh=>by omega,m4,λh=>by omega⟩ EA (by simp;try exact wr _ EA EA) rfl EB;rw[if_neg h]at a;have o:=u a;refine zm (by simp[h]) ?_;refine EK ?_;refine yn 0 4 rfl rfl ?_;refine yn 0 5 rfl rfl ?_;exact zg (zi w EC (by simp[zI,zp,o]));simp at hc;obtain rfl:k=6:=EA;have y:Yl ls=some (⟨r.d,r.v,r.c,r.l,i,j⟩,!r.bad):=by rw[a3,n];rfl
 have a5:=FE y g;have p:=rX _ a5;rw[y]at hp;refine zx (zY 2 rfl ?_);refine zY 3 rfl ?_;obtain⟨pos,d,v,c,ln,m,bad⟩:=r;cases bad with
 |true =>
 have o:q=(zI,3):=by rw[hp];exact if_neg EB
 repeat apply za
 refine ze [(4,47)] zE ?_;refine aD ?_;refine EK ?_;refine yn 0 4 rfl rfl ?_;refine yn 0 5 rfl rfl ?_;exact zg (zi w EC (by simp[zI,zp,o]))
 |false =>
 by_cases a0:jq ⟨d,v,c,ln,i,j⟩=true;have o:q=(⟨d,v,c,ln,i,j⟩,0):=by rw[hp];exact if_pos ⟨rfl,a0⟩
 rw[if_pos a0]at p;repeat apply za
 refine ze [(4,47)] trivial ?_;refine yP [(4,47)] p trivial ?_;refine aC (EK ?_);exact zg (zi w EC (by simp[zp,o]));have o:q=(zI,3):=by rw[hp];exact if_neg (λh=>a0 h.2)
 rw[if_neg a0]at p;repeat apply za
 refine ze [(4,47)] trivial ?_;refine yP [(4,47)] p trivial ?_;refine aD ?_;refine EK ?_;refine yn 0 4 rfl rfl ?_;refine yn 0 5 rfl rfl ?_;exact zg (zi w EC (by simp[zI,zp,o]))
def wX{z:Int}(h:zL z):(zz z).length<=20:=by unfold zL at h;unfold zz;have:=aQ z.toNat 18 EA;omega
abbrev jV:Wd:=[111,117,116,99,111,109,101]
abbrev eE:Wd:=[109,97,108,102,111,114,109,101,100]
abbrev FH:Wd:=[114,97,110,103,101]
abbrev Z0:Wd:=[110,111,110,101]
abbrev xV:Wd:=[98,111,117,110,100]
abbrev ji:Wd:=[112,108,97,110]
abbrev QK:Wd:=[99,111,115,116]
abbrev QL:Wd:=[104,111,108,100,105,110,103]
abbrev qv:Wd:=[100,97,121]
abbrev wB:Wd:=[116,111,117,114]
structure Rep where
 out:Int
 bound:Int
 cost:Int
 U:Int
 days:List Int
 ae:zy
abbrev Xg(r:Rep):List PV:=[I r.out,I r.bound,I r.cost,I r.U,L r.days,L r.ae]
def ju(t:zM):Ln:=wB::zH t.length::t.flatMap λs=>[zz s.c,zz s.q]
def xW(d:zo):List Ln:=[qv,zH d.length]::d.map ju
def yR(p:zy):List Ln:=[ji,zH p.length]::p.flatMap xW
def jN(l:List Int):List Ln:=(List.range l.length).map λi=>[qv,zH i,zz (l.getD i 0)]
def qg(r:Rep):List Ln :=
 if r.out=1 then [[jV,eE]] else if r.out=2 then [[jV,FH]]
 else if r.out=3 then [[jV,Z0],[xV,zz r.bound]]
 else if r.out=4 then [jV,ji]::[xV,zz r.bound]::[QK,zz r.cost]::[QL,zz r.U]::(jN r.days++yR r.ae)
 else []
variable {r:Nat}
def Zyk{m:Nat}{l:List UInt8}(h:zH m=zH r++l):(r<10->zH m=UInt8.ofNat (48+r%10)::l)/\(¬r<10->zH m=zH (r/10)++UInt8.ofNat (48+r%10)::l):=by constructor;intro a;rw[h,J2 a,Dn a];rfl;intro a;rw[h,X0 a];simp
def We{m:Nat}(h:∀l∈ls,(zP l).length+1<=m):(zN ls).length<=m*ls.length:=by
 induction ls with
 |nil=>simp[zN]
 |cons a ls b =>
 rw[vW];have h1:=h a EB;have h2:=b λl hl=>h l (by simp[hl]);simp only[Ak,Ab,Nat.mul_add,BU];omega
def Zyl{l:List Nat}{m:Nat}(h:∀z∈l,z<=m):l.sum<=m*l.length:=by
 induction l with
 |nil=>simp
 |cons a l b =>
 have h1:=h a EB;have h2:=b λz c=>h z (by simp[c]);simp only[AL,Ab,Nat.mul_add,BU];omega
def Xh{ws:Ln}{m:Nat}(h:∀w∈ws,w.length<=m):(zP ws).length<=(m+1)*ws.length:=by
 rw[aS];have:=Zyl (l:=ws.map List.length) (m:=m) λz a=>by obtain⟨w,b,rfl⟩:=Aj.1 a;exact h w b
 rw[List.length_map]at this;rw[Nat.add_mul];omega
def Vx(a b:List Ln):zN (a++b)=zN a++zN b:=by simp[zN]
def xI(h:n<10000000000000000000):(zH n).length<=20:=by have:=aQ n 19 EA;omega
structure PlanTold (p:zy):Prop where
 n:p.length<=1000
 d:∀d∈p,d.length<=1000
 t:∀d∈p,∀t∈d,t.length<=1000
 s:∀d∈p,∀t∈d,∀s∈t,(0<=s.c/\s.c<=1000000000000000000)/\0<=s.q/\s.q<=1000000000000000000
def eF(t:zM):(ju t).length=2+2*t.length:=by
 unfold ju;simp only[Ab,List.length_flatMap,Ag];have:(t.map λ_=>0+1+1).sum=2*t.length:=by
  induction t with
  |nil=>rfl
  |cons a t b=>rw[Ap,AL,b,Ab];omega
 omega
def FI{t:zM}(hl:t.length<=1000)(h:∀s∈t,(0<=s.c/\s.c<=1000000000000000000)/\0<=s.q/\s.q<=1000000000000000000):∀w∈ju t,w.length<=20:=by intro w a;unfold ju at a;simp only[Al,By,Be,or_false]at a;obtain rfl|rfl|⟨s,hs,rfl|rfl⟩:=a;decide;exact xI EA;have:=h s hs;exact wX (by unfold zL;omega);have:=h s hs;exact wX (by unfold zL;omega)
def FJ{t:zM}(hl:t.length<=1000)(h:∀s∈t,(0<=s.c/\s.c<=1000000000000000000)/\0<=s.q/\s.q<=1000000000000000000):(zP (ju t)).length<=42042:=by have h1:=Xh (FI hl h);rw[eF]at h1;omega
def Zym{p:zy}(h:PlanTold p){d:zo}(a:d∈p):∀l∈xW d,(zP l).length+1<=42043:=by intro l hl;unfold xW at hl;obtain rfl|hl:=Al.1 hl;have:=xI (n:=d.length) (by have:=h.d d a;omega);have:=Xh (ws:=[qv,zH d.length]) (m:=20) (by intro w b;simp only[Al,Be,or_false]at b;obtain rfl|rfl:=b;decide;exact this);simp at this ⊢;omega;obtain⟨t,c,rfl⟩:=Aj.1 hl;have:=FJ (h.t d a t c) (h.s d a t c);omega
def Zyn{p:zy}(h:PlanTold p):(yR p).length<=1+1001*p.length:=by
 have:∀q:zy,(∀d∈q,d.length<=1000)->(q.flatMap xW).length<=1001*q.length:=by
  intro q;induction q with
  |nil=>intro _;simp
  |cons a q b =>
  intro h;have h1:=h a EB;have h2:=b λd c=>h d (by simp[c]);simp only[Ax,Ak,Ab,xW,List.length_map,Nat.mul_add,BU];omega
 have:=this p h.d;unfold yR;rw[Ab];omega
def Zyo{p:zy}(h:PlanTold p):∀l∈yR p,(zP l).length+1<=42043:=by intro l hl;unfold yR at hl;obtain rfl|hl:=Al.1 hl;have:=xI (n:=p.length) (by have:=h.n;omega);have:=Xh (ws:=[ji,zH p.length]) (m:=20) (by intro w a;simp only[Al,Be,or_false]at a;obtain rfl|rfl:=a;decide;exact this);simp at this ⊢;omega;obtain⟨d,b,hl⟩:=By.1 hl;exact Zym h b l hl
def eG{p:zy}(h:PlanTold p):(zN (yR p)).length<=100000000000:=by have h1:=We (Zyo h);have h2:=Zyn h;have h3:=h.n;have:42043*(yR p).length<=42043*1001001:=Cp _ EA;omega
section
variable {S:Store} {id v:Nat} {t s0 s1 s2 s3 x0 x1 x2 x3 x4 x5 r0 r1 r2 r3 r4 r5:PV}
def FK(u:List UInt8)(hl:u.length<=1048576)(f:S id=.cells v 71 [T (bs u),s0,s1,s2,s3,x0,x1,x2,x3,x4,x5,r0,r1,r2,r3,r4,r5]):
  SP 32 [.ptr id v 0] S (λq S'=>q=I (yD u).2/\S'=S.set id (.cells v 71
   (if (yD u).2=0 then [T (bs u),s0,s1,s2,s3]++zB (yD u).1++[r0,r1,r2,r3,r4,r5] else [T (bs u),s0,s1,s2,s3,x0,x1,x2,x3,x4,x5,I (if (yD u).2=2 then 1 else 2),r1,r2,r3,r4,r5]))):=by
 have g:=FG u hl;generalize yD u=z at *;obtain⟨y,e⟩:=z;simp only at g ⊢;refine yr func32 ntmps32 results32 λnx c=>?_;have a:id<nx:=jt c f EB;have b:=λobs=>(zG (S:=S) (obs:=obs) a).trans f;have g1:¬nx<=id:=EA;refine EK ?_;refine aF [] b ?_;refine yP [] g b ?_;intro v0;repeat apply za
 refine zb ?_;refine zj (EK ?_);by_cases d:e=0;subst d;refine aD ?_;refine ze [] (zn b g1) ?_;refine EK ?_;exact zg ⟨_,_,rfl,⟨by simp[zp],by simp⟩,zV (jf c a _)⟩;rw[if_neg d];refine zk (by simp[d]) ?_;refine EK ?_;by_cases h2:e=2;subst h2;refine aD ?_;refine ze [] (zn b g1) ?_;refine EK ?_;exact zg ⟨_,_,rfl,⟨by simp[zp],by simp⟩,zV (jf c a _)⟩;rw[if_neg h2];refine zk (by simp[h2]) ?_;refine ze [] (zn b g1) ?_;refine EK ?_;exact zg ⟨_,_,rfl,⟨by simp[zp],by simp⟩,zV (jf c a _)⟩
variable {bd:Int}
def Zyp{a b:PV}(hc:PP 61 [.agg [x0,x1,x2,x3,x4,x5],s0,s3] (.tup [.agg [a,b],I bd]))(e:S id=.cells v 71 [t,s0,s1,s2,s3,x0,x1,x2,x3,x4,x5,r0,r1,r2,r3,r4,r5]):
  SP 33 [.ptr id v 0] S (λq S'=>q=I 0/\S'=S.set id (.cells v 71 [t,s0,s1,s2,s3,x0,x1,x2,x3,x4,x5,I 3,I bd,r2,r3,r4,r5])):=by
 refine yr func33 ntmps33 results33 λnx f=>?_;have c:id<nx:=jt f e EB;have d:=λobs=>(zG (S:=S) (obs:=obs) c).trans e;have g:∀(A:Ob) obs,ext (S.set id A) nx obs id=A:=λA obs=>(zG c).trans (q11 _ _ _);have g1:¬nx<=id:=EA;refine EK ?_;refine aF [] (zn d g1) ?_;refine aG (some []) (Row.pures [0,1,2,3,5,6,7,8,10,11,12,13] (.alt 4 (.alt 9 (.alt 14 R9 .stop) (.alt 14 (.alt 9 R9 .stop) .stop)) (.alt 9 (.alt 4 (.alt 14 R9 .stop) (.alt 14 (.alt 4 R9 .stop) .stop)) (.alt 14 (.alt 4 (.alt 9 R9 .stop) (.alt 9 (.alt 4 R9 .stop) .stop)) .stop)))) mixed (zD d g g1) ?_
 repeat' refine And.intro ?_ ?_
 all_goals
  refine zJ (hc) (zD d g g1) ?_;refine EK ?_;exact zg ⟨_,_,rfl,⟨by simp[zp],rfl⟩,zV (jf f c _)⟩
def Zf(e c:Int):Int:=if e=0 then c else e
def FL{p:zy}{e c:Int}(j:PP 62 [.agg [x0,x1,x2,x3,x4,x5],.agg [s0,s1,s2,s3]] (.tup [.agg [L p],I e]))(hc:e=0->PP 45 [.agg [x0,x1,x2,x3,x4,x5],.agg [L p]] (I c))
  (h:S id=.cells v 71 [t,s0,s1,s2,s3,x0,x1,x2,x3,x4,x5,r0,r1,r2,r3,r4,r5]) :
  SP 34 [.ptr id v 0] S (λq S'=>q=I (Zf e c)/\S'=S.set id (.cells v 71
   (if Zf e c=0 then [t,s0,s1,s2,s3,x0,x1,x2,x3,x4,x5,I 4,r1,r2,r3,r4,L p] else [t,s0,s1,s2,s3,x0,x1,x2,x3,x4,x5,r0,r1,r2,r3,r4,r5]))):=by
 have a:S=S.set id (.cells v 71 [t,s0,s1,s2,s3,x0,x1,x2,x3,x4,x5,r0,r1,r2,r3,r4,r5]):=(QC S id _ h).symm;unfold Zf;refine yr func34 ntmps34 results34 λnx g=>?_;have b:id<nx:=jt g h EB;have d:=λobs=>(zG (S:=S) (obs:=obs) b).trans h;have k:∀(A:Ob) obs,ext (S.set id A) nx obs id=A:=λA obs=>(zG b).trans (q11 _ _ _);have g1:¬nx<=id:=EA;refine EK ?_;refine aG (some [id]) Ry mixed (zn d g1) ?_;refine zJ (j) (zn d g1) ?_;intro v0;repeat apply za
 refine zb ?_;by_cases f:e=0;case neg =>
  simp only[if_neg f];refine zm (by simp[f]) ?_;refine EK ?_;exact zg ⟨_,_,rfl,⟨by simp[zp],a⟩,zV g⟩
 have i:=hc f;clear hc;simp only[if_pos f];subst f;refine aC ?_;repeat apply za
 refine zA (some [id,nx]) RL mixed (zn d g1) ?_;refine zJ (i) (zn d g1) ?_;refine EK ?_;by_cases h2:c=0;case neg =>
  rw[if_neg h2];refine zm (by simp[h2]) ?_;refine EK ?_;exact zg ⟨_,_,rfl,⟨by simp[zp],a⟩,zV g⟩
 subst h2;rw[if_pos rfl];refine aC (aG (some [nx]) (Row.pures [0,1,2,3,4,5] (.alt 6 (Row.pures [7,8,9] (.alt 10 (.done) .stop)) .stop)) mixed (zD d k g1) ?_)
 repeat' refine And.intro ?_ ?_
 all_goals
  refine EK ?_;exact zg ⟨_,_,rfl,⟨by simp[zp],rfl⟩,zV (jf g b _)⟩
def Zyq{c:Int}{ds:List Int}(hc:PP 46 [.agg [x0,x1,x2,x3,x4,x5],.agg [r5]] (I c))(i:PP 47 [.agg [x0,x1,x2,x3,x4,x5],.agg [r5]] (I bd))(e:PP 49 [.agg [x0,x1,x2,x3,x4,x5],.agg [r5]] (L ds))
  (f:S id=.cells v 71 [t,s0,s1,s2,s3,x0,x1,x2,x3,x4,x5,r0,r1,r2,r3,r4,r5]) :
  SP 35 [.ptr id v 0] S (λq S'=>q=I 0/\S'=S.set id (.cells v 71 [t,s0,s1,s2,s3,x0,x1,x2,x3,x4,x5,r0,r1,I c,I bd,L ds,r5])):=by
 refine yr func35 ntmps35 results35 λnx g=>?_;have a:id<nx:=jt g f EB;have b:=λobs=>(zG (S:=S) (obs:=obs) a).trans f;have d:∀(A:Ob) obs,ext (S.set id A) nx obs id=A:=λA obs=>(zG a).trans (q11 _ _ _);have g1:¬nx<=id:=EA;refine EK ?_;refine aG (some []) R4 mixed (zD b d g1) ?_
 repeat' refine And.intro ?_ ?_
 all_goals
  refine zJ (hc) (zD b d g1) ?_;refine aG (some []) R4 mixed (zD b d g1) ?_
  repeat' refine And.intro ?_ ?_
  all_goals
   refine zJ (i) (zD b d g1) ?_;refine aG (some []) R4 mixed (zD b d g1) ?_
   repeat' refine And.intro ?_ ?_
   all_goals
    refine zJ (e) (zD b d g1) ?_;refine EK ?_;exact zg ⟨_,_,rfl,⟨by simp[zp],rfl⟩,zV (jf g a _)⟩
end
open Hp
def yp(l:List Int)(i:Nat):Int:=if 1000<l.getD i 0 then 1000 else if l.getD i 0<0 then 0 else l.getD i 0
def Vy(l:List Int)(i:Nat):0<=yp l i/\yp l i<=1000:=by unfold yp;split;omega;split<;>omega
def lj(l:List Int)(i:Nat)(hi:i<=100):PP 104 [L l,I i] (I (yp l i)):=by
 refine zt func104 ntmps104 results104 λS nx d=>?_;refine EK ?_;by_cases h1:i<l.length;obtain⟨z,tl,f,g,a3,c⟩:=zF rfl l i h1;have e:l.getD i 0=z:=by rw[List.getD_eq_getElem?_getD,f];rfl
 have a:1<=l.length-i:=EA;have b:¬l.length<=i:=EA;unfold yp;rw[e];by_cases h2:z<0;rw[if_neg EA,if_pos h2];repeat apply za
 refine ze [(4,9)] (yx c h1 b a h2) ?_;refine zm rfl (EK ?_);exact zg (zi d rfl rfl);by_cases h3:1000<z;rw[if_pos h3];repeat apply za
 refine ze [(4,9)] (yx c h1 b a h2) ?_;refine zk rfl (zh ?_);repeat apply za
 refine ze [] (zD c h1 a) ?_;refine zm (by simp[h3]) ?_;refine EK ?_;exact zg (zi d rfl rfl);rw[if_neg h3,if_neg h2];repeat apply za
 refine ze [(4,9)] (yx c h1 b a h2) ?_;refine zk rfl (zh ?_);repeat apply za
 refine ze [] (zD c h1 a) ?_;refine zk EF ?_;refine zh (aF [] (zD c h1 a) ?_);exact zg (zi d rfl rfl);have e:l.getD i 0=0:=by rw[List.getD_eq_getElem?_getD,Ao EA];rfl
 unfold yp;rw[e,if_neg EH,if_neg EH];have b:l.length<=i:=EA;repeat apply za
 refine ze [(4,9)] (zn b zE) ?_;refine zm rfl (EK ?_);exact zg (zi d rfl rfl)
def xJ(l:List Int):Int:=l.getD 0 0
def Zyr(l:List Int):PP 63 [L l] (.agg (X7 (xJ l) (yp l 1) (yp l 2) (yp l 3))):=by
 have g:=lj l 1 EA;have i:=lj l 2 EA;have t3:=lj l 3 EA;generalize yp l 1=r at *;generalize yp l 2=b at *;generalize yp l 3=c at *;refine zt func63 ntmps63 results63 λS nx e=>?_;refine EK ?_;intro v0;refine EK ?_;refine zq g ?_;refine zq i ?_;refine zq t3 ?_;intro v1;by_cases h:0<l.length;obtain⟨z,tl,j,k,a3,f⟩:=zF rfl l 0 h;have a:xJ l=z:=by unfold xJ;rw[List.getD_eq_getElem?_getD,j];rfl
 have d:1<=l.length:=h;rw[Eg]at f;rw[a];repeat apply za
 refine zb ?_;refine zm (by simp[h]) ?_;refine ze [] (zD f h d) ?_;refine EK ?_;exact EL e;have a:xJ l=0:=by unfold xJ;rw[List.getD_eq_getElem?_getD,Ao EA];rfl
 rw[a];have hl:l=[]:=CD.1 EA;subst hl;repeat apply za
 refine zb ?_;refine aC (EK ?_);exact EL e
def Zys(l:List Int):PP 36 [L l] (.agg (X7 (xJ l) (yp l 1%9) (yp l 2%21) (yp l 3%13))):=by have a:=Zyr l;have b1:=Vy l 1;have b2:=Vy l 2;have b3:=Vy l 3;have d:(yp l 1).tmod 9=yp l 1%9:=AY EA;have w2:(yp l 2).tmod 21=yp l 2%21:=AY EA;have e:(yp l 3).tmod 13=yp l 3%13:=AY EA;generalize yp l 1=r at *;generalize yp l 2=b at *;generalize yp l 3=c at *;generalize xJ l=s at *;refine zt func36 ntmps36 results36 λS nx f=>?_;refine EK ?_;intro v0;refine EK ?_;refine zq a ?_;intro v1;refine aF [] d ?_;refine aF [] w2 ?_;refine aF [] e ?_;refine EK ?_;exact EL f
theorem PlanG.refCost{p:zy}(h:PlanG x n p):PP 15 [.agg (zB x),.agg [L p]] (I (yN x p)) :=
 UF x p h.serves (by have:=h.ad;omega) (λc hc=>(h.a.aa c hc).Z) λd b=>(h.s.ok d b).1
theorem PlanG.same{p:zy}(h:PlanG x n p):PP 14 [.agg [L p],.agg [L p]] (B true):=by obtain⟨h1,h2,h3⟩:=h.s.sizes (by have:=h.a.ac;omega) EA;have:=Ud p p EA (λd b=>by have:=h2 d b;omega) (λd b t c=>by have:=h3 d b t c;omega);simpa using this
def Zyt(l:List Int)(i:Nat):min (max (l.getD i 0) 0) 1000=yp l i:=by unfold yp;split;omega;split<;>omega
def Zyu(l:List Int):(l.flatMap Enc.enc:List PV).take 4++[I 0,I 0,I 0,I 0].drop (min (l.flatMap Enc.enc:List PV).length 4)=[I (l.getD 0 0),I (l.getD 1 0),I (l.getD 2 0),I (l.getD 3 0)]:=by
 match l with
 |[]=>rfl
 |[a]=>simp
 |[a,b]=>simp
 |[a,b,c]=>simp
 |a::b::c::d::r =>
 have:min (((a::b::c::d::r).flatMap Enc.enc:List PV).length) 4=4:=by rw[xz];simp[Enc.sz]
 rw[this];simp
def FM(l:List Int):PP 31 [L l] (.agg (X7 (xJ l) (yp l 1) (yp l 2) (yp l 3))):=by
 have c1:=W7 (l.getD 1 0) 0 1000;have c2:=W7 (l.getD 2 0) 0 1000;have c3:=W7 (l.getD 3 0) 0 1000;rw[Zyt]at c1 c2 c3;have d:=Zyu l;have e:L l=.lst (l.flatMap Enc.enc:List PV).length (l.flatMap Enc.enc):=by show PV.lst l.length _=_;congr 1;rw[xz];simp[Enc.sz]
 have c:xJ l=l.getD 0 0:=rfl;rw[c,e];generalize l.getD 0 0=z0 at *;generalize l.getD 1 0=z1 at *;generalize l.getD 2 0=z2 at *;generalize l.getD 3 0=z3 at *;generalize yp l 1=t1 at *;generalize yp l 2=t2 at *;generalize yp l 3=t3 at *;generalize (l.flatMap Enc.enc:List PV)=cs at *;refine zt func31 ntmps31 results31 λS nx f=>?_;refine EK ?_;intro v0;refine EK ?_;intro v1;refine Zwz (x:=3) (id:=nx+1) (ver:=v1) rfl (by rw[zS];rfl) λb=>?_;refine EK ?_;refine λa=>ZwA rfl underlying111 EB rfl (by rw[zS];rfl) ?_;refine⟨_,_,rfl,zO a ?_⟩;refine λa=>ZwB (id:=nx+1) (ver:=v1) rfl underlying26 ED rfl rfl (by rw[zS];rfl) rfl ?_;rw[d];refine⟨_,_,yi _ EA EB,zO a ?_⟩;try simp only[AM,AO,AW]
 repeat apply za
 refine zb ?_;refine zj (zC (λk:Nat=>1<=k/\k<=4) (λk=>[(2,.ptr nx v0 0),(3,.ptr (nx+1) v1 0),(4,I k)]) (λk=>[.cells v0 68 [I 0,I 0,I 0,I 0],.cells v1 111 [I z0,I (if 1<k then t1 else z1),I (if 2<k then t2 else z2),I (if 3<k then t3 else z3)]]) (λk=>4-k) 1 [] EB EB EB ?_);rintro k ⟨g,h⟩;repeat apply za
 refine zb ?_;refine zv rfl (λhc=>?_) (λhc=>?_);simp at hc;refine zh (aA ?_);obtain rfl|rfl|rfl:k=1\/k=2\/k=3:=EA;repeat apply za
 refine zb ?_;refine zq c1 ?_;refine zb ?_;exact zr 2 [] EA EA (by simp;exact wr 2 EA EA) rfl EB;repeat apply za
 refine zb ?_;refine zq c2 ?_;refine zb ?_;exact zr 3 [] EA EA (by simp;exact wr 3 EA EA) rfl EB;repeat apply za
 refine zb ?_;refine zq c3 ?_;refine zb ?_;exact zr 4 [] EA EA (by simp;exact wr 4 EA EA) rfl EB;simp at hc;obtain rfl:k=4:=EA;refine zx (EK ?_);exact EL f
def Wf(x:Inst)(bd:Int)(p:zy)(e c:Int):Rep:=if Zf e c=0 then ⟨4,bd,yN x p,W (yG x p x.y.length),qa x p,p⟩ else ⟨3,bd,0,0,[],[]⟩
def FN(e:Int):Rep:=⟨if e=2 then 1 else 2,0,0,0,[],[]⟩
structure Below21 (x:Inst) (l:List Int) (bd:Int) (p:zy) (e c:Int):Prop where
 climb:∃a b,PP 61 [.agg (zB x),I (xJ l),I (yp l 3)] (.tup [.agg [a,b],I bd])
 run:PP 62 [.agg (zB x),.agg [I (xJ l),I (yp l 1),I (yp l 2),I (yp l 3)]] (.tup [.agg [L p],I e])
 chk:e=0->PP 45 [.agg (zB x),.agg [L p]] (I c)
 cost:Zf e c=0->PP 46 [.agg (zB x),.agg [L p]] (I (yN x p))
 U:Zf e c=0->PP 47 [.agg (zB x),.agg [L p]] (I (W (yG x p x.y.length)))
 days:Zf e c=0->PP 49 [.agg (zB x),.agg [L p]] (L (qa x p))
def Zyv(u:List UInt8)(hl:u.length<=1048576)(l:List Int)(f:(yD u).2≠0):PP 7 [T (bs u),L l] (.agg (Xg (FN (yD u).2))):=by
 have d:=FM l;have a:=λ(S:Store) (id v:Nat) (s0 s1 s2 s3 x0 x1 x2 x3 x4 x5 r0 r1 r2 r3 r4 r5:PV) hS=>FK (S:=S) (id:=id) (v:=v) (s0:=s0) (s1:=s1) (s2:=s2) (s3:=s3) (x0:=x0) (x1:=x1) (x2:=x2) (x3:=x3) (x4:=x4) (x5:=x5) (r0:=r0) (r1:=r1) (r2:=r2) (r3:=r3) (r4:=r4) (r5:=r5) u hl hS;simp only[if_neg f]at a;have b:FN (yD u).2=⟨if (yD u).2=2 then 1 else 2,0,0,0,[],[]⟩:=rfl;rw[b];generalize (if (yD u).2=2 then (1:Int) else 2)=o at *;generalize (yD u).2=e at *;generalize xJ l=s0 at *;generalize yp l 1=s1 at *;generalize yp l 2=s2 at *;generalize yp l 3=s3 at *;refine zt func7 ntmps7 results7 λS nx g=>?_;refine EK ?_;intro v0;refine EK ?_;refine zq d ?_;intro v1;repeat apply za
 refine zb ?_;refine zj (zC (λk:Nat=>k=0) (λ_=>[(4,.ptr nx v0 0),(5,.ptr (nx+1) v1 0),(21,.lst 4 [.fn (.func 32) [.ptr (nx+1) v1 0] [],.fn (.func 33) [.ptr (nx+1) v1 0] [],.fn (.func 34) [.ptr (nx+1) v1 0] [],.fn (.func 35) [.ptr (nx+1) v1 0] []]),(22,I 4),(23,I 0)])
  (λ_=>[.cells v0 33 [I 0,I 0,I 0,I 0,yE,yE],.cells v1 71 [T (bs u),I s0,I s1,I s2,I s3,I 0,I 0,I 0,I 0,yE,yE,I 0,I 0,I 0,I 0,yE,yE]]) (λs=>s) 0 [] rfl (by simp[qw]) EB ?_)
 rintro k rfl;refine EK ?_;refine za (aD ?_);refine zh (aA (EK ?_));refine EK ?_;refine λc=>((a _ _ _ _ _ _ _ _ _ _ _ _ _ _ _ _ _ _ _ (by rw[zS];rfl)).mono ?_).v;rintro _ _ ⟨rfl,rfl⟩;refine⟨_,_,yi _ EA EB,zO c ?_⟩;refine zm (by simp[f]) ?_;refine zx (EK ?_);refine yn 0 4 rfl rfl ?_;refine yn 0 5 rfl rfl ?_;exact zg (zi g EC (by simp[zp]))
def Zyw(u:List UInt8)(hl:u.length<=1048576)(l:List Int){bd:Int}{p:zy}{e c:Int}(j:(yD u).2=0)(n:Below21 (yD u).1 l bd p e c):PP 7 [T (bs u),L l] (.agg (Xg (Wf (yD u).1 bd p e c))):=by
 have h:=FM l;have f:=λ(S:Store) (id v:Nat) (s0 s1 s2 s3 x0 x1 x2 x3 x4 x5 r0 r1 r2 r3 r4 r5:PV) hS=>FK (S:=S) (id:=id) (v:=v) (s0:=s0) (s1:=s1) (s2:=s2) (s3:=s3) (x0:=x0) (x1:=x1) (x2:=x2) (x3:=x3) (x4:=x4) (x5:=x5) (r0:=r0) (r1:=r1) (r2:=r2) (r3:=r3) (r4:=r4) (r5:=r5) u hl hS;simp only[if_pos j]at f;obtain⟨⟨a,b,b1⟩,b2,b3,b4,b5,b6⟩:=n;have i:Wf (yD u).1 bd p e c=if Zf e c=0 then ⟨4,bd,yN (yD u).1 p,W (yG (yD u).1 p (yD u).1.y.length),qa (yD u).1 p,p⟩ else ⟨3,bd,0,0,[],[]⟩:=rfl;rw[i];generalize (yD u).2=e0 at *;generalize (yD u).1=y at *;subst j;generalize yN y p=co at *;generalize W (yG y p y.y.length)=ho at *;generalize qa y p=ds at *;generalize xJ l=s0 at *;generalize yp l 1=s1 at *;generalize yp l 2=s2 at *;generalize yp l 3=s3 at *;refine zt func7 ntmps7 results7 λS nx m=>?_;refine EK ?_;intro v0;refine EK ?_;refine zq h ?_;intro v1;repeat apply za
 refine zb ?_;refine zj (zC (λk:Nat=>k<=4/\(3<=k->Zf e c=0)) (λk=>[(4,.ptr nx v0 0),(5,.ptr (nx+1) v1 0),(21,.lst 4 [.fn (.func 32) [.ptr (nx+1) v1 0] [],.fn (.func 33) [.ptr (nx+1) v1 0] [],.fn (.func 34) [.ptr (nx+1) v1 0] [],.fn (.func 35) [.ptr (nx+1) v1 0] []]),(22,I 4),(23,I k)])
  (λk=>[.cells v0 33 [I 0,I 0,I 0,I 0,yE,yE],.cells v1 71 [T (bs u),I s0,I s1,I s2,I s3,if k=0 then I 0 else I y.days,if k=0 then I 0 else I y.X,if k=0 then I 0 else I y.Q,if k=0 then I 0 else I y.len,if k=0 then yE else L y.y,if k=0 then yE else L y.O,
   if k<=1 then I 0 else if k=2 then I 3 else I 4,if k<=1 then I 0 else I bd,if k<=3 then I 0 else I co,if k<=3 then I 0 else I ho,if k<=3 then yE else L ds,if k<=2 then yE else L p]]) (λs=>4-s) 0 [] EB (by simp[qw]) EB ?_)
 rintro k ⟨o,g⟩;refine EK ?_;refine za (zv rfl (λhc=>?_) (λhc=>?_));simp at hc;refine zh (aA ?_);obtain rfl|rfl|rfl|rfl:k=0\/k=1\/k=2\/k=3:=EA;refine EK ?_;refine EK ?_;refine λd=>((f _ _ _ _ _ _ _ _ _ _ _ _ _ _ _ _ _ _ _ (by rw[zS];rfl)).mono ?_).v;rintro _ _ ⟨rfl,rfl⟩;refine⟨_,_,yi _ EA EB,zO d ?_⟩;refine aC (zb ?_);exact zr 1 [] EB EA (by simp;exact wr 1 EA EA) rfl EB;refine EK ?_;refine EK ?_;refine λd=>((Zyp b1 (by rw[zS];rfl)).mono ?_).v;rintro _ _ ⟨rfl,rfl⟩;refine⟨_,_,yi _ EA EB,zO d ?_⟩;refine aC (zb ?_);exact zr 2 [] EB EA (by simp;exact wr 2 EA EA) rfl EB;by_cases hf:Zf e c=0;refine EK ?_;refine EK ?_;refine λd=>((FL b2 b3 (by rw[zS];rfl)).mono ?_).v;rintro _ _ ⟨rfl,rfl⟩;simp only[hf,if_true];refine⟨_,_,yi _ EA EB,zO d ?_⟩;refine aC (zb ?_);exact zr 3 [] ⟨by omega,λ_=>by first|exact hf|trivial⟩ EA (by simp;exact wr 3 EA EA) rfl EB;rw[if_neg hf];refine EK ?_;refine EK ?_;refine λd=>((FL b2 b3 (by rw[zS];rfl)).mono ?_).v;rintro _ _ ⟨rfl,rfl⟩;simp only[if_neg hf];refine⟨_,_,yi _ EA EB,zO d ?_⟩;refine zm (by simp[hf]) ?_;refine zx (EK ?_);refine yn 0 4 rfl rfl ?_;refine yn 0 5 rfl rfl ?_;exact zg (zi m EC (by simp[zp]));have hf:=g EA;refine EK ?_;refine EK ?_;refine λd=>((Zyq (b4 hf) (b5 hf) (b6 hf) (by rw[zS];rfl)).mono ?_).v;rintro _ _ ⟨rfl,rfl⟩;refine⟨_,_,yi _ EA EB,zO d ?_⟩;refine aC (zb ?_);exact zr 4 [] ⟨by omega,λ_=>hf⟩ EA (by simp;exact wr 4 EA EA) rfl EB;simp at hc;obtain rfl:k=4:=EA;rw[if_pos (g EA)];refine zx (EK ?_);exact zg (zi m EC (by simp[zp]))
def Zyx(n p k:Nat)(h:k<n):(jh n p).take (k+1)=(jh n p).take k++[UInt8.ofNat (48+yU p k)]:=by rw[AE];congr 1;unfold jh;rw[Ai,A4 h];rfl
def Zyy(p n:Nat)(h1:1<=n)(hn:n<=64)(r:p<2^64):PP 30 [U p,I n] (T (bs (jh n p))):=by
 have a:=nr p r;have t:(jP p).length=64:=by simp[jP]
 have d:∀k,k<64->(jP p)[k]?=some ((yU p k:Nat):Int):=λk h=>by unfold jP;rw[Ai,A4 h];rfl
 have m:=be n p;have c:=Zyx n p;have f:∀k,yU p k<=1:=cE p;generalize jP p=B at *;generalize jh n p=P at *;have c1:¬(n:Int)<1:=EA;have c2:¬(64:Int)<n:=EA;refine zt func30 ntmps30 results30 λS nx w=>?_;refine EK ?_;repeat apply za
 refine ze [(2,10)] (zn c1 c2) ?_;refine aC (EK ?_);refine za (qO 5 5 1 rfl λv1=>?_);refine zb ?_;refine zq a ?_;repeat apply za
 refine zb ?_;refine zj (zC (λs:Nat × Nat=>s.1<=n) (λ(k,v)=>[(1,I n),(5,.sl nx v 1 0 k),(6,L B),(7,I k)]) (λ(k,v)=>[.cells v 5 ((P.map U8).take k)]) (λs=>n-s.1) (0,v1) [] EB EB EB ?_);rintro⟨k,v⟩ x;simp only at x ⊢;repeat apply za
 refine zb ?_;refine zv rfl (λhc=>?_) (λhc=>?_);simp at hc;obtain⟨z,tl,b1,b2,b3,y⟩:=zF rfl B k EA;obtain rfl:z=((yU p k:Nat):Int):=by have:=d k EA;rw[b1]at this;exact Option.some.inj this
 have hb:=f k;have g:k<B.length:=EA;have hs:=c k hc;have hu:=QA (k:=yU p k) EA;generalize UInt8.ofNat (48+yU p k)=u at *;generalize yU p k=b at *;have w1:IntKind.i64.wrap (48+(b:Int))=(u.toNat:Int):=by rw[hu,AD];omega
 have w2:=km u.toNat EA;have hl:((P.map U8).take k).length=k:=EF;have o:List.take k ((P.map U8).take k)=(P.map U8).take k:=Ae (by rw[hl];exact Af _);have q:(P.map U8).take (k+1)=(P.map U8).take k++[U8 u]:=by rw[<-List.map_take,hs,List.map_append,List.map_take];rfl
 generalize (P.map U8).take k=cs at *;refine zh (aA (ze [] (yx y g w1 w2 o) ?_));refine⟨by omega,?_⟩;refine zb ?_;exact zr (k+1,v+1) [] hc EA (by simp[zu k EA]) rfl (by simp only[q,AA]);simp at hc;obtain rfl:k=n:=EA;rw[show List.take k (P.map U8)=P.map U8 from Ae EF];refine zx (EK ?_);refine λj=>tJ (e:=5) (l:=P) (off:=0) (id:=nx) (ver:=v) rfl EB EB EB (by simp[m]) (by rw[Zg];rfl) (λi u h=>by rw[A3,Ai,h];rfl) EA ?_;refine⟨_,_,rfl,zO j ?_⟩;exact EL w
def qh(a b:List UInt8)(h:a.length+b.length<=1099511627776):∃s,s=a++b/\s.length=a.length+b.length/\qD .add (bs a) (bs b)=some (.string (bs s)):=⟨_,rfl,by simp,QB a b EA⟩
structure InstS (x:Inst) (n:Nat):Prop where
 t:InstT x n
 n7:n<=60
 y:x.y.length<=1000
 J:∀c∈x.y,c.J.length<=1000
def FO(h:InstQ x n):InstS x n:=⟨h.t,by have:=h.n7;omega,by have:=h.ad;omega,h.k.a.J⟩
theorem Wg{z:Int}(h:YX z):(zz z).length<=20:=wX (by obtain⟨a,b⟩:=h;unfold zL;omega)
def FP(n p:Nat)(h:n<=60):(jh n p).length<=60:=by simp_all[be]
theorem FQ(h:InstS x n){c:Cust}(hc:c∈x.y):(∀w∈qW n c,w.length<=60)/\(qW n c).length<=1006:=by have f:=h.J c hc;unfold qW;obtain⟨k,d,-⟩|⟨k,-,-,a,b,s,-,ho⟩:=(h.t.y c hc).kind;rw[if_pos k];refine⟨λw e=>?_,by simp;omega⟩;simp only[Al,Aj]at e;obtain rfl|rfl|⟨p,-,rfl⟩:=e;decide;have:=Wg d;omega;exact FP n p h.n7;grind[Wg]
def FR{K:Nat}(h:InstS x n)(k:8<=K)(h1:x.y.length+1<=K)(h2:∀c∈x.y,c.J.length+2<=K):∀l∈jU x,(zP l).length+1<=61*K+1:=by
 have hn:x.days.toNat=n:=by have:=h.t.days;omega
 have m:(zz x.days).length<=20:=wX (by have:=h.t.days;have:=h.n7;unfold zL;omega);have hv:=Wg h.t.al.1;have hc:=Wg h.t.al.2.1;have hl:=Wg h.t.al.2.2;have g:=xI (n:=x.y.length) (by have:=h.y;omega);have key:∀l:Ln,(∀w∈l,w.length<=60)->l.length<=K->(zP l).length+1<=61*K+1:=λl a b=>by have:=Xh a;omega
 intro l e;simp only[jU,Al,AB,Aj]at e;obtain rfl|rfl|rfl|⟨c,i,rfl⟩|rfl|⟨r,f,rfl⟩:=e;exact key _ EB EF
 .refine key _ (λw d=>?_) EA;simp only[Al,Be,or_false]at d;obtain rfl|rfl|rfl|rfl|rfl|rfl|rfl|rfl:=d;all_goals first|omega|decide
 refine key _ (λw d=>?_) EF;simp only[Al,Be,or_false]at d;obtain rfl|rfl:=d;decide;omega;grind[FQ,qW];exact key _ EB EF;refine key _ (λw d=>?_) (by simp;have:=(h.t.af r f).1;omega);obtain⟨z,j,rfl⟩:=Aj.1 d;have:=Wg ((h.t.af r f).2 z j);omega
def FSq(h:InstS x n):∀l∈jU x,(zP l).length+1<=61367:=λl hl=>by have:=FR (K:=1002) h EA (by have:=h.y;omega) (λc hc=>by have:=h.J c hc;omega) l hl;omega
def Zyz(h:InstS x n)(ls:List Ln)(hs:∀l∈ls,l∈jU x)(hl:ls.length<=3000):(zN ls).length<=184101000:=by have:=We (ls:=ls) λl hm=>FSq h l (hs l hm);omega
def QM(x:Inst):List Ln:=[[vu,[49]],[vw,zz x.days,vx,zz x.X,vy,zz x.Q,vz,zz x.len],[vA,zH x.y.length]]
theorem lm(x:Inst):jU x=QM x++(x.y.map (qW x.days.toNat)++[j9]::x.O.map (λr:List Int=>r.map zz)):=rfl
def ZyA(h:InstS x n):PP 6 [.agg (zB x)] (T (bs (zN (jU x)))):=by
 have g:=h.t.days;have a5:x.days.toNat=n:=EA;have g6:=h.n7;have v6:=h.t.n1;obtain⟨⟨k1,v7⟩,⟨k2,v8⟩,⟨k3,v9⟩⟩:=h.t.al;obtain⟨ve,a6⟩:=Au k1;obtain⟨ca,a7⟩:=Au k2;obtain⟨le,a8⟩:=Au k3;have w5:=h.y;have w6:=h.t.rows;have g7:PP 28 [.lst 5 [I n,I ve,I ca,I le,I x.y.length]] (.lst 5 [T (bs (zH n)),T (bs (zH ve)),T (bs (zH ca)),T (bs (zH le)),T (bs (zH x.y.length))]) :=
  ko [n,ve,ca,le,x.y.length] EB (by intro m hm;simp only[Al,Be,or_false]at hm;obtain rfl|rfl|rfl|rfl|rfl:=hm<;>omega)
 have hb:=Zyz h;have k4:=FSq h;have a9:zN (QM x)=[116,114,97,110,116,101,114,32,49,10,100,97,121,115,32]++zH n++[32,118,101,104,105,99,108,101,115,32]++zH ve++[32,99,97,112,97,99,105,116,121,32]++zH ca++[32,108,101,110,103,116,104,32]++zH le++[10,99,117,115,116,111,109,101,114,115,32]++zH x.y.length++[10]:=by simp[QM,zN,zP,zz,g,a6,a7,a8]
 obtain⟨P,hP⟩:∃P:Nat->List UInt8,P=λk=>zN (QM x++(x.y.take k).map (qW n)):=⟨_,rfl⟩;have k5:P 0=zN (QM x):=by rw[hP];simp
 have k6:∀k c,x.y[k]?=some c->P (k+1)=P k++(zP (qW n c)++[10]):=λk c hc=>by rw[hP];show zN (QM x++(x.y.take (k+1)).map (qW n))=_;rw[AE,hc,List.map_append,<-List.append_assoc];exact tG _ _
 have g8:∀k,(P k).length<=184101000:=λk=>by rw[hP];refine hb _ (λl hl=>?_) (by simp[QM];omega);rw[lm,a5,AB,AB];obtain hl|hl:=AB.1 hl;exact .inl hl;obtain⟨c,hc,rfl⟩:=Aj.1 hl;exact .inr (.inl (Cs (Bu hc)))
 obtain⟨D,hD⟩:∃D:Nat->List UInt8,D=λk=>zN (QM x++(x.y.map (qW n)++[j9]::(x.O.take k).map (λr:List Int=>r.map zz))):=⟨_,rfl⟩;have k7:D 0=P x.y.length++[100,105,115,116,97,110,99,101,115,10]:=by rw[hD,hP];simp[zN,zP]
 have k8:∀k r,x.O[k]?=some r->D (k+1)=D k++(zP (r.map zz)++[10]):=λk r hr=>by rw[hD];show zN (QM x++(x.y.map (qW n)++[j9]::(x.O.take (k+1)).map (λr:List Int=>r.map zz)))=_;rw[AE,hr,List.map_append,<-List.cons_append,<-List.append_assoc,<-List.append_assoc];exact tG _ _
 have g9:D x.O.length=zN (jU x):=by rw[hD,lm,a5];simp
 have k9:∀k,(D k).length<=184101000:=λk=>by rw[hD];refine hb _ (λl hl=>?_) (by simp[QM];omega);rw[lm,a5,AB,AB];obtain hl|hl:=AB.1 hl;exact .inl hl;obtain hl|hl:=AB.1 hl;exact .inr (.inl hl);obtain rfl|hl:=Al.1 hl;exact .inr (.inr EB);obtain⟨r,hr,rfl⟩:=Aj.1 hl;exact .inr (.inr (BT _ (Cs (Bu hr))))
 rw[<-g9];clear hb hP hD g9;have q0:=xI (n:=n) EA;have q1:=xI (n:=ve) EA;have q2:=xI (n:=ca) EA;have q3:=xI (n:=le) EA;have q4:=xI (n:=x.y.length) EA;generalize zH n=w0 at *;generalize zH ve=w1 at *;generalize zH ca=w2 at *;generalize zH le=w3 at *;generalize w7:zH x.y.length=w4 at *;obtain⟨s1,l0,l1,l2⟩:=qh [116,114,97,110,116,101,114,32,49,10,100,97,121,115,32] w0 (by (try simp only[Ab,Ag]);omega);have x0:s1.length<=35:=by rw[l1];(try simp only[Ab,Ag]);omega
 obtain⟨s2,l3,l4,l5⟩:=qh s1 [32,118,101,104,105,99,108,101,115,32] (by (try simp only[Ab,Ag]);omega);have x1:s2.length<=45:=by rw[l4];(try simp only[Ab,Ag]);omega
 obtain⟨s3,l6,l7,l8⟩:=qh s2 w1 (by (try simp only[Ab,Ag]);omega);have x2:s3.length<=65:=by rw[l7];(try simp only[Ab,Ag]);omega
 obtain⟨s4,l9,m0,m3⟩:=qh s3 [32,99,97,112,97,99,105,116,121,32] (by (try simp only[Ab,Ag]);omega);have x3:s4.length<=75:=by rw[m0];(try simp only[Ab,Ag]);omega
 obtain⟨s5,m4,m5,m6⟩:=qh s4 w2 (by (try simp only[Ab,Ag]);omega);have x4:s5.length<=95:=by rw[m5];(try simp only[Ab,Ag]);omega
 obtain⟨s6,m7,m8,m9⟩:=qh s5 [32,108,101,110,103,116,104,32] (by (try simp only[Ab,Ag]);omega);have x5:s6.length<=103:=by rw[m8];(try simp only[Ab,Ag]);omega
 obtain⟨s7,n0,n2,n3⟩:=qh s6 w3 (by (try simp only[Ab,Ag]);omega);have x6:s7.length<=123:=by rw[n2];(try simp only[Ab,Ag]);omega
 obtain⟨s8,n4,n5,n6⟩:=qh s7 [10,99,117,115,116,111,109,101,114,115,32] (by (try simp only[Ab,Ag]);omega);have y0:s8.length<=134:=by rw[n5];(try simp only[Ab,Ag]);omega
 obtain⟨s9,n8,n9,o0⟩:=qh s8 w4 (by (try simp only[Ab,Ag]);omega);have y3:s9.length<=154:=by rw[n9];(try simp only[Ab,Ag]);omega
 obtain⟨h0,h4,h5,h6⟩:=qh s9 [10] (by (try simp only[Ab,Ag]);omega);have v5:h0.length<=155:=by rw[h5];(try simp only[Ab,Ag]);omega
 have o1:P 0=h0:=by rw[k5,a9,h4,n8,n4,n0,m7,m4,l9,l6,l3,l0]
 refine zt func6 ntmps6 results6 λS nx hd=>?_;refine EK ?_;intro v0;refine aF [] (zR g a6 a7 a8) ?_;refine yP [] g7 (zR g a6 a7 a8) ?_;refine aG none (Row.pures [0,1,2,3,4,5,6,7,8,9,10,11,12,13,14,15,16,17,18,19,20,21,22,23,24,25] .done) mixed (zU l2 l5 l8 m3 m6 (yx m9 n3 n6 o0 h6)) ?_;repeat apply za
 refine zb ?_;rw[<-o1];refine zj (zC (λk:Nat=>k<=x.y.length) (λk=>[(1,.ptr nx v0 0),(4,T (bs (P k))),(5,I k)]) (λ_=>[.cells v0 25 (zB x)]) (λk=>x.y.length-k) 0 [] EB EB EB ?_);rintro k hk;repeat apply za
 refine zb ?_;refine zv rfl (λhc=>?_) (λhc=>?_);simp at hc;obtain⟨c,tl,a1,a2,a3,f0,f1⟩:=el 8 rfl x.y k hc;have a:=k6 k c a1;have b7:=Aa a1;have h7:=(h.t.y c b7).kind;have o2:=h.J c b7;have h8:=FQ h b7;have y4:=g8 k;generalize P k=ss at *;refine zh (aA ?_);obtain⟨kd,dm,ps,ra,si,st,ru,ho⟩:=c;simp only at h7 o2;refine aF [] (zD f0 f1 hc) ?_;intro v2;repeat apply za
 refine zb ?_;obtain⟨o3,h9,o4,-⟩|⟨o5,-,-,b8,c6,c7,y5,c8⟩:=h7;subst o3;obtain⟨dn,rfl⟩:=Au h9.1;have y6:=h9.2;have o6:=J3 dn EA;have y7:=xI (n:=dn) EA;have d0:qW n ⟨1,dn,ps,ra,si,st,ru,ho⟩=Zc::zH dn::ps.map (jh n):=by simp[qW,zz]
 rw[d0]at a h8;obtain⟨V,hV⟩:∃V:Nat->List UInt8,V=λj=>ss++zP (Zc::zH dn::(ps.take j).map (jh n)):=⟨_,rfl⟩;have o7:V 0=ss++[118,105,115,105,116,32]++zH dn:=by rw[hV];simp[zP]
 have o8:∀j p,ps[j]?=some p->V (j+1)=V j++[32]++jh n p:=λj p hp=>by rw[hV];show ss++zP (Zc::zH dn::(ps.take (j+1)).map (jh n))=_;rw[AE,hp,List.map_append];have:=tF (zH dn::(ps.take j).map (jh n)) (jh n p) Zc;simp only[List.cons_append]at this;show ss++zP (Zc::zH dn::((ps.take j).map (jh n)++[jh n p]))=_;rw[this];simp
 have o9:P (k+1)=V ps.length++[10]:=by rw[a,hV];simp
 have i5:∀j,(V j).length<=184201000:=λj=>by rw[hV];have:=Xh (ws:=Zc::zH dn::(ps.take j).map (jh n)) (m:=60) (λw hw=>h8.1 w (by simp only[Al,Aj]at hw ⊢;obtain r|r|⟨p,hp,r⟩:=hw;exact .inl r;exact .inr (.inl r);exact .inr (.inr ⟨p,Bu hp,r⟩)));have hl:(Zc::zH dn::(ps.take j).map (jh n)).length<=1002:=EF;simp only[Ak];have:61*(Zc::zH dn::(ps.take j).map (jh n)).length<=61*1002:=Cp _ hl;omega
 clear hV a;generalize zH dn=dw at *;obtain⟨m1,p4,p5,i6⟩:=qh ss [118,105,115,105,116,32] (by simp only[Ab,Ag];omega);obtain⟨m2,p6,z0,i7⟩:=qh m1 dw (by rw[p5];simp only[Ab,Ag];omega);have i8:V 0=m2:=by rw[o7,p6,p4]
 refine aD ?_;refine aF [] (zn i6 i7) ?_;refine yP [] o6 (zn i6 i7) ?_;rw[<-i8];refine EK ?_;refine zj (zC (λj:Nat=>j<=ps.length) (λj=>[(1,.ptr nx v0 0),(4,T (bs (V j))),(5,I k),(6,.ptr (nx+1) v2 0),(7,I j)]) (λ_=>[.cells v0 25 (zB x),.cells v2 59 [I 1,I dn,L ps,I ra,I si,I st,I ru,I ho]]) (λj=>ps.length-j) 0 [] EB EB EB ?_);rintro j hj;repeat apply za
 refine zb ?_;refine zv rfl (λe=>?_) (λe=>?_);simp at e;obtain⟨p,tl2,b1,b2,b3,g0⟩:=zF rfl ps j e;have p7:=Aa b1;have j0:p<2^64:=Bw (o4 p p7) (BL EH EA);have p8:=Zyy p n EA EA j0;have hpl:=FP n p g6;have p9:=o8 j p b1;have q5:=i5 j;generalize jh n p=pw at *;generalize q6:V (j+1)=vj1 at *;generalize V j=vj at *;obtain⟨y1,i,d1,f⟩:=qh vj [32] (by simp only[Ab,Ag];omega);obtain⟨y2,d2,r1,o⟩:=qh y1 pw (by rw[d1];simp only[Ab,Ag];omega);obtain rfl:vj1=y2:=by rw[p9,d2,i]
 refine zh (aA (zA (some [nx,nx+1]) Rk mixed (yx g0 e f o g) ?_));refine zJ (p8) (yx g0 e f o g) ?_;refine zb ?_;exact zr (j+1) [] e EA (by simp[zu j EA,q6]) rfl EB;simp at e;obtain rfl:j=ps.length:=EA;have q5:=i5 ps.length;obtain⟨y1,i,d1,f⟩:=qh (V ps.length) [10] (by simp only[Ab,Ag];omega);have b:P (k+1)=y1:=by rw[o9,i]
 refine zx (ze [] f ?_);refine zb ?_;exact zr (k+1) [_] hc EA (by simp[zu k EA,b]) rfl EC;subst o5;obtain⟨ra,rfl⟩:=Au b8.1;obtain⟨si,rfl⟩:=Au c6.1;obtain⟨st,rfl⟩:=Au c7.1;obtain⟨ho,rfl⟩:=Au c8.1;obtain⟨-,b8⟩:=b8;obtain⟨-,c6⟩:=c6;obtain⟨-,c7⟩:=c7;obtain⟨-,c8⟩:=c8;have j1:PP 28 [.lst 4 [I ra,I si,I st,I ho]] (.lst 4 [T (bs (zH ra)),T (bs (zH si)),T (bs (zH st)),T (bs (zH ho))]) :=
  ko [ra,si,st,ho] EB (by intro m hm;simp only[Al,Be,or_false]at hm;obtain rfl|rfl|rfl|rfl:=hm<;>omega)
 have p0:=xI (n:=ra) EA;have p1:=xI (n:=si) EA;have p2:=xI (n:=st) EA;have p3:=xI (n:=ho) EA;have d0:qW n ⟨2,dm,ps,ra,si,st,ru,ho⟩=[Xa,zH ra,zH si,zH st,if ru=2 then ZX else Zz,zH ho]:=by simp[qW,zz]
 rw[d0]at a;generalize zH ra=u0 at *;generalize zH si=u1 at *;generalize zH st=u2 at *;generalize zH ho=u3 at *;refine aE ?_;refine EK ?_;refine zq j1 ?_;refine EK ?_;repeat apply za
 refine zb ?_;by_cases d3:ru=2;subst d3;rw[if_pos rfl]at a;refine aD ?_;refine zb ?_;obtain⟨t1,d4,d5,d6⟩:=qh ss [116,97,110,107,32] (by (try simp only[Ab,Ag]);omega);have r2:t1.length<=184101005:=by rw[d5];(try simp only[Ab,Ag]);omega
 obtain⟨t2,d7,d8,d9⟩:=qh t1 u0 (by (try simp only[Ab,Ag]);omega);have r3:t2.length<=184101025:=by rw[d8];(try simp only[Ab,Ag]);omega
 obtain⟨t3,e0,e3,e4⟩:=qh t2 [32] (by (try simp only[Ab,Ag]);omega);have r4:t3.length<=184101026:=by rw[e3];(try simp only[Ab,Ag]);omega
 obtain⟨t4,e5,e6,e7⟩:=qh t3 u1 (by (try simp only[Ab,Ag]);omega);have r5:t4.length<=184101046:=by rw[e6];(try simp only[Ab,Ag]);omega
 obtain⟨t5,e8,e9,f2⟩:=qh t4 [32] (by (try simp only[Ab,Ag]);omega);have r6:t5.length<=184101047:=by rw[e9];(try simp only[Ab,Ag]);omega
 obtain⟨t6,f3,f4,f5⟩:=qh t5 u2 (by (try simp only[Ab,Ag]);omega);have r7:t6.length<=184101067:=by rw[f4];(try simp only[Ab,Ag]);omega
 obtain⟨t7,f6,f7,f8⟩:=qh t6 [32] (by (try simp only[Ab,Ag]);omega);have r8:t7.length<=184101068:=by rw[f7];(try simp only[Ab,Ag]);omega
 obtain⟨t8,f9,g1,g2⟩:=qh t7 [97,110,121] (by (try simp only[Ab,Ag]);omega);have r9:t8.length<=184101071:=by rw[g1];(try simp only[Ab,Ag]);omega
 obtain⟨t9,g3,g4,g5⟩:=qh t8 [32] (by (try simp only[Ab,Ag]);omega);have s0:t9.length<=184101072:=by rw[g4];(try simp only[Ab,Ag]);omega
 obtain⟨q,s,u,v⟩:=qh t9 u3 (by (try simp only[Ab,Ag]);omega);have j2:q.length<=184101092:=by rw[u];(try simp only[Ab,Ag]);omega
 obtain⟨y,a0,a4,d⟩:=qh q [10] (by (try simp only[Ab,Ag]);omega);have j3:y.length<=184101093:=by rw[a4];(try simp only[Ab,Ag]);omega
 have b:P (k+1)=y:=by rw[a,a0,s,g3,f9,f6,f3,e8,e5,e0,d7,d4];simp[zP]
 refine zA none RG mixed (zU d6 d9 e4 e7 f2 (zU f5 f8 g2 g5 v d)) ?_;refine ze [] d ?_;refine zb ?_;exact zr (k+1) [_] hc EA (by simp[zu k EA,b]) rfl EC;rw[if_neg d3]at a;refine zk (by simp[d3]) ?_;refine zh ?_;obtain⟨t1,d4,d5,d6⟩:=qh ss [116,97,110,107,32] (by (try simp only[Ab,Ag]);omega);have r2:t1.length<=184101005:=by rw[d5];(try simp only[Ab,Ag]);omega
 obtain⟨t2,d7,d8,d9⟩:=qh t1 u0 (by (try simp only[Ab,Ag]);omega);have r3:t2.length<=184101025:=by rw[d8];(try simp only[Ab,Ag]);omega
 obtain⟨t3,e0,e3,e4⟩:=qh t2 [32] (by (try simp only[Ab,Ag]);omega);have r4:t3.length<=184101026:=by rw[e3];(try simp only[Ab,Ag]);omega
 obtain⟨t4,e5,e6,e7⟩:=qh t3 u1 (by (try simp only[Ab,Ag]);omega);have r5:t4.length<=184101046:=by rw[e6];(try simp only[Ab,Ag]);omega
 obtain⟨t5,e8,e9,f2⟩:=qh t4 [32] (by (try simp only[Ab,Ag]);omega);have r6:t5.length<=184101047:=by rw[e9];(try simp only[Ab,Ag]);omega
 obtain⟨t6,f3,f4,f5⟩:=qh t5 u2 (by (try simp only[Ab,Ag]);omega);have r7:t6.length<=184101067:=by rw[f4];(try simp only[Ab,Ag]);omega
 obtain⟨t7,f6,f7,f8⟩:=qh t6 [32] (by (try simp only[Ab,Ag]);omega);have r8:t7.length<=184101068:=by rw[f7];(try simp only[Ab,Ag]);omega
 obtain⟨t8,f9,g1,g2⟩:=qh t7 [102,105,108,108] (by (try simp only[Ab,Ag]);omega);have r9:t8.length<=184101072:=by rw[g1];(try simp only[Ab,Ag]);omega
 obtain⟨t9,g3,g4,g5⟩:=qh t8 [32] (by (try simp only[Ab,Ag]);omega);have s0:t9.length<=184101073:=by rw[g4];(try simp only[Ab,Ag]);omega
 obtain⟨q,s,u,v⟩:=qh t9 u3 (by (try simp only[Ab,Ag]);omega);have j2:q.length<=184101093:=by rw[u];(try simp only[Ab,Ag]);omega
 obtain⟨y,a0,a4,d⟩:=qh q [10] (by (try simp only[Ab,Ag]);omega);have j3:y.length<=184101094:=by rw[a4];(try simp only[Ab,Ag]);omega
 have b:P (k+1)=y:=by rw[a,a0,s,g3,f9,f6,f3,e8,e5,e0,d7,d4];simp[zP]
 refine zA none RG mixed (zU d6 d9 e4 e7 f2 (zU f5 f8 g2 g5 v d)) ?_;refine ze [] d ?_;refine zb ?_;exact zr (k+1) [_] hc EA (by simp[zu k EA,b]) rfl EC;simp at hc;obtain rfl:k=x.y.length:=EA;refine zx ?_;have hpb:=g8 x.y.length;obtain⟨y1,i,d1,f⟩:=qh (P x.y.length) [100,105,115,116,97,110,99,101,115,10] (by simp only[Ab,Ag];omega);obtain rfl:D 0=y1:=by rw[k7,i]
 refine aF [] f ?_;repeat apply za
 refine zb ?_;refine zj (zC (λk:Nat=>k<=x.O.length) (λk=>[(1,.ptr nx v0 0),(4,T (bs (D k))),(10,I k)]) (λ_=>[.cells v0 25 (zB x)]) (λk=>x.O.length-k) 0 [] EB EB EB ?_);rintro k hk;repeat apply za
 refine zb ?_;refine zv rfl (λhc=>?_) (λhc=>?_);simp at hc;obtain⟨r,tl,a1,a2,a3,f0⟩:=zF rfl x.O k hc;have hr:=h.t.af r (Aa a1);have t0:=k8 k r a1;have hdb:=k9 k;have k0:∀ws:Ln,(∀w∈ws,w∈r.map zz)->ws.length<=1001->(zP ws).length<=61061:=λws hs hl=>by have:=Xh (ws:=ws) (m:=60) (λw hw=>by obtain⟨z,hz,rfl⟩:=Aj.1 (hs w hw);have:=Wg (hr.2 z hz);omega);have:61*ws.length<=61*1001:=Cp _ hl;omega
 have u4:r.length<=1001:=by have:=hr.1;omega
 have hwj:=k0 (r.map zz) (λw hw=>hw) (by simpa using u4);have u8:PP 28 [L r] (L ((r.map zz).map bs)):=by
  have e1:(r.map Int.toNat).map (λm:Nat=>(m:Int))=r:=by rw[B3];refine(AQ λz hz=>?_).trans (DA _);have:=(hr.2 z hz).1;simp;omega
  have:=ko (r.map Int.toNat) EF (λm hm=>by obtain⟨z,hz,rfl⟩:=Aj.1 hm;have:=(hr.2 z hz).2;omega);rw[e1]at this;have e2:Zw (r.map Int.toNat)=(r.map zz).map bs:=by simp[Zw,zz,Function.comp_def]
  rwa[e2]at this
 have v3:=Zv5 (r.map zz) EF EA (λj=>by have:=k0 ((r.map zz).take j) (λw hw=>Bu hw) EF;omega);generalize (r.map zz).map bs=wl at *;generalize v4:D (k+1)=dk1 at *;generalize zP (r.map zz)=jw at *;obtain⟨y2,d2,r1,o⟩:=qh (D k) (jw++[10]) (by simp only[Ak,Ab,Ag];omega);obtain rfl:dk1=y2:=by rw[t0,d2]
 generalize jw++[10]=jn at *;generalize D k=dk at *;refine zh (aA (ze [] (zn f0 hc) ?_));refine yP [] u8 (zD f0 hc o) ?_;refine yP [] v3 (zD f0 hc o) ?_;refine zb ?_;exact zr (k+1) [] hc EA (by simp[zu k EA,v4]) rfl EB;simp at hc;obtain rfl:k=x.O.length:=EA;refine zx (EK ?_);exact EL hd
def ZyB(h:InstQ x n):InstOk x:=by
 have hm:=ZY h.m;obtain⟨j,d,o,p⟩:=Vn hm.O;have u:=h.ad;have r:∀z:Int,0<=z->z<=2147483648->zL z:=λz a b=>by unfold zL;omega
 refine⟨by have:=hm.days;unfold zL;omega,r _ hm.X.1 hm.X.2,r _ hm.Q.1 hm.Q.2,r _ hm.len.1 hm.len.2,by omega,λc hc=>?_,by omega,λrow f=>⟨by have:=(d row f).1;omega,λz g=>r z ((d row f).2 z g).1 ((d row f).2 z g).2⟩⟩;have i:=(h.k.a.aa c hc).J;obtain⟨k,a,b,l,r1,r2,r3,r4,r5⟩|⟨k,q,s,t,v,ho,e,w⟩:=Wa (hm.ah c hc);exact⟨r _ EA EA,r _ EA EA,i,by omega,r _ EA EA,r _ EA EA,r _ EA EA,r _ EA EA,r _ EA EA⟩;exact⟨r _ EA EA,r _ EA EA,i,by rw[e];simp,r _ EA EA,r _ EA EA,r _ EA EA,r _ EA EA,r _ EA EA⟩
def ZyC{p:zy}(h:PlanG x n p):PlanSz p:=⟨h.serves.sz,λd a=>by have:=(h.s.ok d a).2.1;omega⟩
def Jn(x:Inst)(n:Nat)(l:List Int):Int:=Xd x n (xJ l) (yp l 3).toNat
def xX(x:Inst)(n:Nat)(l:List Int):zy × Int:=Jg x n (xJ l) (yp l 1).toNat (yp l 2)
def lq(h:InstQ x n):(zN (jU x)).length<=1048576:=by
 have hm:=ZY h.m;have f:=h.ad;have hl:=We (ls:=jU x) (FR (K:=66) (FO h) EA EA λc hc=>by obtain⟨k,a,b,l,-⟩|⟨k,q,s,t,g,ho,e,-⟩:=Wa (hm.ah c hc);omega;rw[e];simp);have d:(jU x).length<=18:=by simp[jU];have:=h.t.rows;omega
 have:4027*(jU x).length<=4027*18:=Cp _ d;omega
def FT:yD []=(zI,2):=by unfold yD;rw[Vi];rfl
abbrev eH:Wd:=[111,117,116,99,111,109,101,32,109,97,108,102,111,114,109,101,100,10]
def ZyD:PP 9 [.agg [I 1,I 0,I 0,I 0,L ([]:List Int),L ([]:zy)]] (T (bs eH)):=by
 have hl:PP 37 [.lst 2 [T (bs jV),T (bs eE)]] (T (bs eH)):=X1 [jV,eE] EB EH;refine zt func9 ntmps9 results9 λS nx a=>?_;refine EK ?_;intro v0;repeat apply za
 refine zb ?_;refine zj (EK ?_);refine aD ?_;refine EK ?_;refine zq hl ?_;exact EL a
def ZyE:PP 18 [T (bs []),L ([]:List Int)] (T (bs eH)):=by have h1:=Zyv [] EB [] (by rw[FT];decide);rw[FT]at h1;have h2:=ZyD;have h3:PP 7 [T (bs []),L ([]:List Int)] (.agg [I 1,I 0,I 0,I 0,L ([]:List Int),L ([]:zy)]):=h1;refine zt func18 ntmps18 results18 λS nx a=>?_;refine EK ?_;refine EK ?_;refine zq h3 ?_;refine zq h2 ?_;exact EL a
def ZyF:PP 11 [] (B true):=by have a:PP 18 [T (bs []),.sc (.slice none 0 0)] (T (bs eH)):=λS=>KA (.cons Wk.rfl (.cons Wk.nil .nil)) (ZyE S);refine zt func11 ntmps11 results11 λS nx b=>?_;refine EK ?_;refine EK ?_;refine zq a ?_;exact EL b
def Xi(l:List Int):List Int:=[xJ l,yp l 1%9,yp l 2%21,yp l 3%13]
def ZyG(l:List Int):PP 8 [L l] (L (Xi l)):=by have hs:=Zys l;unfold Xi;generalize xJ l=s at *;generalize yp l 1%9=a at *;generalize yp l 2%21=b at *;generalize yp l 3%13=c at *;refine zt func8 ntmps8 results8 λS nx d=>?_;refine EK ?_;refine EK ?_;refine zq hs ?_;intro v0;refine EK ?_;exact EL d
variable {P:Program}{F:Nat->PV}{e:Nat}
def ZyH{S:Store}{o:Oper}{t len:Nat}{parts:Array (Nat × Operand)}{cs:List PV}{K:PV->Store->Prop}(id:Nat)(hid:S id=.dead)(ho:o.op=.buildSlice t len parts)(y:P.underlying t=some (.slice e))(z:P.cellsOf e=1)(h0:0<len)(a0:len<=64)
  (h:Ys P e len (parts.toList.map λx=>(x.1,ev F x.2))=some cs) (a3:cs.length=len) (hK:∀v,K (.sl id v 1 0 len) (S.set id (.cells v e cs))):PO P jI n o F S K:=by
 intro G hG C w a N st next Q' d;have k:∀c,o.op≠.defer c:=by intro c hc;rw[ho]at hc;cases hc
 have l:(parts.toList.map λx=>(x.1,ev G x.2))=parts.toList.map λx=>(x.1,ev F x.2):=by refine AQ λx hx=>?_;rw[hG x.2 (by simp only[ho,Op.operands];simp;exact⟨x.1,by simpa using hx⟩)]
 rw[<-l]at h;obtain⟨vs,g,b,m⟩:=fg (C:=C) (S:=S) (w:=w) y (λx=>ev G x) a.eval (λx=>st.ev x) h;have s:vs.size=len:=by rw[m,z,BU]
 obtain⟨a1,a2⟩:=st.sim.object' (o:=id) (ver:=C.clock) (.clock C hid) e vs cs EA (λi u _ q=>b.2.1 i u q) (λi p u hp q=>b.2.2 i p u hp q);have f:(execOp a.eval o).run P w=.ok (.value (.slice (some ⟨w.heap.size,0,none⟩) len len)) (w.alloc (.cells vs e)):=by unfold execOp;simp only[ho,Sem.run_bind];have e1:(parts.map λx=>(x.1,a.eval x.2))=(parts.toList.map λx=>(x.1,a.eval x.2)).toArray:=Array.ext' EB;rw[e1,g];rfl
 refine qx k f (d _ _ _ _ _ (hK C.clock) ?_ a1 a2);have r:id<(C.put id C.clock (some (w.heap.size,vs.size))).next/\C.clock<(C.put id C.clock (some (w.heap.size,vs.size))).clock:=by simp only[Ctx.put];omega
 refine .sl ⟨_,_,rfl,Af _,by unfold xx;omega,by unfold maxLen;omega,λh=>⟨_,_,rfl⟩⟩ r λv0 j=>?_;rw[q11]at j;cases j;exact⟨Af _,λ_=>.inr ⟨w.heap.size,vs.size,_,_,by simp[Ctx.put],rfl,λ_=>⟨rfl,by omega⟩,λ_=>rfl⟩⟩
variable {nx:Nat}{ops:Array Oper}{K:KT}{S:Store}{obs:List Ob}{o:Oper}{os:List Oper}
def ZyI{p:PV}(h:jC P F (ext S nx obs) o=some (p,ext S nx obs))(a:XS P jI n nx ops K os (yg F o.dst p) S obs)(b:o.guard=none:=by rfl):XS P jI n nx ops K (o::os) F S obs:=by unfold XS;simp only[gd,b];exact Wr h ⟨S,obs,rfl,a⟩
def lr{p:PV}(h:uk P F o=some p)(a:XS P jI n nx ops K os (yg F o.dst p) S obs)(b:o.guard=none:=by rfl):XS P jI n nx ops K (o::os) F S obs:=by unfold XS;simp only[gd,b];exact bT h ⟨S,obs,rfl,a⟩
def FU(h:PO P jI n o F (ext S nx obs) (λp S'=>∃S1 a,S'=ext S1 nx a/\XS P jI n nx ops K os (yg F o.dst p) S1 a))(b:o.guard=none:=by rfl):XS P jI n nx ops K (o::os) F S obs:=by unfold XS;simp only[gd,b];exact h
theorem FV(h:InstQ x n)(b:Int)(h0:(xE x b).2=0):PlanG x n (xE x b).1:=by have c:=h.k.a;obtain⟨v,pr,hv,m,e,i,hc⟩:=Zw1 c h0;have f:=iH x v b n;refine⟨c,h.ad,by rw[e,f],?_⟩;rw[e];intro d g;obtain⟨r,j,rfl⟩:=Aj.1 g;obtain⟨k,l,rfl⟩:=Aj.1 j;exact(SS (sq c.h hv k) c.h.diag b (i k (AN.1 l))).2.1
def eI(h:InstQ x n)(a:Int)(r:Nat)(b:Int)(h0:(Jg x n a r b).2=0):PlanG x n (Jg x n a r b).1:=by grind[Jg,kP,FV]
def ZyJ(h:InstQ x n)(l:List Int):Below21 x l (Jn x n l) (xX x n l).1 (xX x n l).2 (wu x (xX x n l).1):=by
 have r:=Vy l 1;have u:=Vy l 2;have t3:=Vy l 3;have i:=h.t.n1;have f:=h.k.a;obtain⟨-,-,j,-⟩:=Vn (ZY h.m).O;have o:((yp l 1).toNat:Int)=yp l 1:=EA;have p:((yp l 3).toNat:Int)=yp l 3:=EA;have hc:=ZxL (ZxG h) j (xJ l) (yp l 3).toNat EA;rw[p]at hc;have g:=Zxc f EA (λb h0=>FV h b h0) (xJ l) (yp l 1).toNat EA (yp l 2) EA (yp l 3);rw[o]at g;have hm:=eI h (xJ l) (yp l 1).toNat (yp l 2);have hf:∀e c:Int,Zf e c=0->e=0:=λe c v=>by grind[Zf]
 have w:=h.ad;refine⟨hc,g,λh0=>?_,λh0=>?_,λh0=>?_,λh0=>?_⟩;exact sj x (xX x n l).1 (ZyB h) (ZyC (hm h0));exact(hm (hf _ _ h0)).cost;exact iQ x _ (hm (hf _ _ h0)).serves EA λc hc=>(f.aa c hc).Z;have g1:=hm (hf _ _ h0);exact iR x _ g1.serves.sz.n λd q=>(g1.s.ok d q).1
def ud(x:Inst)(n:Nat)(l:List Int):Rep:=Wf x (Jn x n l) (xX x n l).1 (xX x n l).2 (wu x (xX x n l).1)
def ZyK(h:InstQ x n)(l:List Int):PP 7 [T (bs (zN (jU x))),L l] (.agg (Xg (ud x n l))):=by have a:=EW h.t h.m;have:=Zyw (zN (jU x)) (lq h) l (bd:=Jn x n l) (p:=(xX x n l).1) (e:=(xX x n l).2) (c:=wu x (xX x n l).1) (by rw[a]) (by simp_all[ZyJ]);rw[a]at this;exact this
def Jo:Int->List Visit->Prop
 |_,[]=>True
 |a,s::v=>a<=s.d/\Jo (s.d+1) v
theorem lu:∀{v:List Visit} {a:Int},Jo a v->∀s∈v,a<=s.d
 |s::v,a,h,t,b=>by obtain rfl|b:=Al.1 b;exact h.1;have:=lu h.2 t b;have:=h.1;omega
variable {b:Int}
def ZyL{v:List Visit}{a:Int}(h:Jo b v)(c:a<=b):Jo a v:=by
 cases v with
 |nil=>trivial
 |cons s v=>exact⟨El c h.1,h.2⟩
theorem FW(c:Int):∀(p:zy) (i:Nat),(∀d∈p,(d.flatten.map (·.c)).Nodup)->Jo i (zW c (told i p))/\∀s∈zW c (told i p),s.d<(i:Int)+p.length
 |[],i,_=>by simp[told,zW,Jo]
 |d::p,i,h=>by
  obtain⟨h1,h2⟩:=FW c p (i+1) λe g=>h e (by simp[g]);have j:=h d EB;have key:∀l:List Stop,(l.map (·.c)).Nodup->zW c (l.map (·,i))=[]\/∃s∈l,zW c (l.map (·,i))=[⟨i,s.q⟩]:=by
   intro l;induction l with
   |nil=>intro _;exact .inl rfl
   |cons s l k =>
   intro hn;rw[Ap,Cr]at hn;have hs:zW c ((s::l).map (·,i))=zW c [(s,i)]++zW c (l.map (·,i)):=by rw[<-JR];rfl
   rw[hs,XT];by_cases e:s.c=c;have f:zW c (l.map (·,i))=[]:=by unfold zW;rw[CU,BA];intro x hx;obtain⟨t,a,rfl⟩:=Aj.1 hx;simp only[decide_eq_true_eq];intro e2;exact hn.1 (Aj.2 ⟨t,a,by rw[e2,e]⟩)
   rw[f];exact .inr ⟨s,by simp,by simp[e]⟩;obtain q|⟨t,a,q⟩:=k hn.2;exact .inl (by simp[e,q]);exact .inr ⟨t,by simp[a],by simp[e,q]⟩
  have hs:zW c (told i (d::p))=zW c (d.flatten.map (·,i))++zW c (told (i+1) p):=JR c _ _;rw[hs];obtain q|⟨s,-,q⟩:=key _ j;rw[q,AI];refine⟨ZyL h1 EA,λs hs=>?_⟩;have:=h2 s hs;simp only[Ab];omega;rw[q];refine⟨⟨Cc _,by simpa using h1⟩,λt a=>?_⟩;simp only[Ab];obtain b|b:=AB.1 a;simp at b;subst b;show (i:Int)<_;omega;have:=h2 t b;omega
def Yp(v:List Visit)(d:Int):Int:=((v.filter λs=>decide (s.d=d)).map (·.q)).sum
def ZyM(v:List Visit)(n:Nat)(hn:n<=64):z8 v (n:Int)=(List.range n).map λ(d:Nat)=>Yp v d:=by unfold z8;have:(min (max (n:Int) 0) 64).toNat=n:=EA;rw[this];rfl
variable {size:Int}{Q ns:List Int}
def eJ{q:Int}(h:yk size d b (q::Q)=some ns):∃a,ns=(b+q-d)::a/\yk size d (b+q-d) Q=some a/\b+q<=size/\d<=b+q:=by unfold yk at h;split at h;cases h;rename_i hc;obtain⟨a,h1,rfl⟩:=An.1 h;exact⟨a,rfl,h1,by omega,by omega⟩
def ZyN{z n:Int}{l:List Int}(h:xC d size (z::Q) (n::l)=false):(0<z->n+d=size)/\xC d size Q l=false:=by have h':(decide (0<z/\n+d≠size)||xC d size Q l)=false:=h;rw[Bool.or_eq_false_iff,decide_eq_false_iff_not]at h';exact⟨λa=>by obtain q|q|q:=Int.lt_trichotomy (n+d) size;exact absurd ⟨a,by omega⟩ h'.1;exact q;exact absurd ⟨a,by omega⟩ h'.1,h'.2⟩
structure SrvV (c:Cust) (n:Nat) (v:List Visit):Prop where
 ac:n<=60
 len:v.length<=1000
 rise:Jo 0 v
 days:∀s∈v,s.d<n
 qs:∀s∈v,0<=s.q/\s.q<=2147483648
 Z:CustFits c
theorem eK:∀{v:List Visit} {a b:Int},Jo a v->(∀s∈v,s.d<b)->a<=b->a+v.length<=b
 |[],a,b,_,_,h=>by simpa using h
 |s::v,a,b,h,hb,_=>by have h1:=hb s EB;have h2:=eK h.2 (λt c=>hb t (by simp[c])) EA;have:=h.1;simp only[Ab];omega
variable {i:Nat}
def ZyO{p:zy}(j:InstQ x n)(b:PlanG x n p){c:Cust}(hc:x.y[i]?=some c):SrvV c n (zW i (told 0 p)):=by have hm:=b.ab;have e:=FW i p 0 λd g=>((wG x d).1 (hm d g)).2.1;have f:=b.serves;refine⟨b.a.ac,?_,e.1,λs hs=>?_,λs hs=>?_,(b.a.aa c (Aa hc)).Z⟩;have h1:=eK e.1 e.2 EB;have:=b.len;have:=b.a.ac;simp at h1;omega;have:=e.2 s hs;have:=b.len;omega;unfold zW at hs;obtain⟨y,h,rfl⟩:=Aj.1 hs;exact f.q y (AX.1 h).1
def Wh(x:Inst)(o i:Nat->Int):Prop:=∀a b:Nat,a<=x.y.length->b<=x.y.length->a≠b->o a+i b<=arc x a b
def wC(o i:Nat->Int)(c:Int):Int:=i (c+1).toNat+o (c+1).toNat
theorem FX{o i:Nat->Int}(h:Wh x o i):∀(l:List Int) (a:Nat),a<=x.y.length->(∀c∈l,0<=c/\c<x.y.length)->l.Nodup->(∀c∈l,c+1≠a)->(l=[]->a≠0)->o a+(l.map (wC o i)).sum+i 0<=jQ x a l
 |[],a,f,_,_,_,h0=>by have:=h a 0 f (BO _) (h0 rfl);simpa[jQ] using this
 |c::l,a,f,hc,hn,g,_=>by
  obtain⟨c1,c2⟩:=hc c EB;obtain⟨k,m⟩:∃k:Nat,c+1=k:=⟨(c+1).toNat,by omega⟩;have h1:=h a k f EA (λe=>g c EB EA);rw[Cr]at hn;have j:∀d∈l,d+1≠(k:Int):=λd b e=>by have q:d=c:=EA;rw[q]at b;exact hn.1 b
  have h2:=FX h l k EA (λd b=>hc d (by simp[b])) hn.2 j (λ_=>by omega);have h3:wC o i c=i k+o k:=by unfold wC;rw[m];simp
  simp only[Ap,AL,jQ,h3,m];omega
def ZyP{o i:Nat->Int}(h:Wh x o i){t:zM}(b:zX x t=0):o 0+i 0+(t.map λs=>wC o i s.c).sum<=yJ x (t.map (·.c)):=by
 obtain⟨h1,h2,-,-⟩:=(QZ x t).1 b;have a:=am h1;have d:∀c:Int,c∈t.map (·.c)->0<=c/\c<x.y.length:=λc hc=>by obtain⟨s,hs,rfl⟩:=Aj.1 hc;have:=(dx b).1 s hs;simp[qn]at this;omega
 have:=FX h (t.map (·.c)) 0 (BO _) d h2 (λc hc=>by have:=d c hc;omega) (λe=>absurd (CU.1 e) a);unfold yJ;rw[if_neg (λe=>a (CU.1 e))];rw[B3]at this;have e:(t.map (wC o i ∘ λs=>s.c))=t.map λs=>wC o i s.c:=rfl;rw[e]at this;simp only[Int.natCast_zero]at this ⊢;omega
theorem FY{o i:Nat->Int}(h:Wh x o i):∀{d:zo},(∀t∈d,zX x t=0)->(d.length:Int)*(o 0+i 0)+(d.flatten.map λs=>wC o i s.c).sum<=yf x d
 |[],_=>by simp[yf]
 |t::d,a=>by
  have h1:=ZyP h (a t EB);have h2:=FY h (d:=d) λu b=>a u (by simp[b]);simp only[yf,Ap,AL,Ab,Bh,List.map_append,Bb]at h2 ⊢;have e:((d.length+1:Nat):Int)*(o 0+i 0)=(d.length:Int)*(o 0+i 0)+(o 0+i 0):=by rw[CM,Int.add_mul];simp
  rw[e];omega
theorem FZ{o i:Nat->Int}(h:Wh x o i):∀{p:zy},(∀d∈p,yu x d=0)->((p.map List.length).sum:Nat)*(o 0+i 0)+(p.flatten.flatten.map λs=>wC o i s.c).sum<=(p.map (yf x)).sum
 |[],_=>by simp
 |d::p,a=>by
  have h1:=FY h (d:=d) ((wG x d).1 (a d EB)).1;have h2:=FZ h (p:=p) λe b=>a e (by simp[b]);simp only[Ap,AL,Bh,List.flatten_append,List.map_append,Bb];have e:((d.length+(p.map List.length).sum:Nat):Int)*(o 0+i 0)=(d.length:Int)*(o 0+i 0)+((p.map List.length).sum:Nat)*(o 0+i 0):=by rw[CM,Int.add_mul]
  rw[e];omega
def xK(c:Nat)(l:List Stop):Nat:=(l.filter λs=>decide (s.c=(c:Int))).length
theorem Ga(f:Int->Int)(m:Nat):∀(l:List Stop),(∀s∈l,0<=s.c/\s.c<m)->(l.map λs=>f s.c).sum=((List.range m).map λc:Nat=>f (c:Int)*((xK c l:Nat):Int)).sum
 |[],_=>by
  have:∀k:Nat,((List.range k).map λc:Nat=>f (c:Int)*((xK c []:Nat):Int)).sum=0:=λk=>by
   induction k with
   |zero=>rfl
   |succ k a=>rw[AC,List.map_append,Bb,a];simp[xK]
  rw[this];rfl
 |s::l,h=>by
  obtain⟨h1,h2⟩:=h s EB;have h3:=Ga f m l λt d=>h t (by simp[d]);have key:∀k:Nat,((List.range k).map λc:Nat=>f (c:Int)*((xK c (s::l):Nat):Int)).sum=(if s.c<k then f s.c else 0)+((List.range k).map λc:Nat=>f (c:Int)*((xK c l:Nat):Int)).sum:=λk=>by
   induction k with
   |zero=>rw[if_neg EA];rfl
   |succ k a =>
   rw[AC,List.map_append,Bb,List.map_append,Bb,a];simp only[Ap,A8,AL,Dl];by_cases e:s.c=k;have b:xK k (s::l)=xK k l+1:=by simp[xK,e]
   rw[b,if_neg EA,if_pos EA,e,CM,B6];simp;omega;have b:xK k (s::l)=xK k l:=by simp[xK,e]
   rw[b];by_cases q:s.c<k;rw[if_pos q,if_pos EA];omega;rw[if_neg q,if_neg EA];omega
  rw[key,if_pos h2,Ap,AL,h3]
theorem Gb{f:Nat->Int}(a:k≠p):∀n,k<n->∃b,wU f p n=some b/\b<=f k
 |0,h=>absurd h EA
 |n+1,h=>by
  by_cases e:k=n
  .subst e;cases q:wU f p k with
   |none=>exact⟨_,kD a q,Cc _⟩
   |some b=>exact⟨_,ec a q,by split<;>omega⟩
  obtain⟨b,h1,h2⟩:=Gb a n EA;by_cases q:n=p;exact⟨b,by rw[q]at h1 ⊢;rw[eb];exact h1,h2⟩;exact⟨_,ec q h1,by split<;>omega⟩
def Gd{f:Nat->Int}(a:k≠p)(h:k<n):wO f p n<=f k:=by obtain⟨b,h1,h2⟩:=Gb (f:=f) a n h;unfold wO;rw[h1];exact h2
def ZyQ(d:qG x){i:List Int}(hi:Vr x i):Wh x (λa=>(qV x i).getD a 0) (λb=>i.getD b 0):=by
 intro a b h1 h2 c;have e:(qV x i).getD a 0=wO (λb=>W (arc x a b-i.getD b 0)) a (x.y.length+1):=by unfold qV;rw[List.getD_eq_getElem?_getD,Ai,A4 EA];rfl
 have h3:=Gd (f:=λb:Nat=>W (arc x a b-i.getD b 0)) (p:=a) (k:=b) (n:=x.y.length+1) (λq=>c q.symm) EA;have h:=d a b;have j:0<=i.getD b 0/\i.getD b 0<=2147483648:=by rw[List.getD_eq_getElem?_getD,Ac (show b<i.length by rw[hi.1];omega)];exact hi.2 _ (AZ _)
 have g:W (arc x a b-i.getD b 0)=arc x a b-i.getD b 0:=wr _ EA EA;simp only at h3 ⊢;rw[e];rw[g]at h3;omega
theorem lw(c:Nat):∀(p:zy) (k:Nat),(zW c (told k p)).length=xK c p.flatten.flatten
 |[],k=>by simp[zW,told,xK]
 |d::p,k=>by have h:=lw c p (k+1);unfold zW xK at h ⊢;simp only[told,BM,List.map_append,Ak,List.length_map,Bh,List.flatten_append]at h ⊢;rw[h,Ec,List.length_map];rfl
theorem Ge(x:Inst)(c:Nat):∀(k a:Nat),a<k->a≠c->uB x c k<=arc x a c
 |0,a,h,_=>absurd h EA
 |k+1,a,h,hc=>by unfold uB qj;by_cases e:a=k;subst e;rw[if_pos hc];split<;>omega;have:=Ge x c k a EA hc;split;split<;>omega;omega
def Wi(x:Inst)(b:Nat):Int:=if b=0 then 0 else (jA x).getD (b-1) 0
def Gf(h:i<x.y.length):(jA x).getD i 0=uB x (i+1) (x.y.length+1):=by unfold jA;rw[List.getD_eq_getElem?_getD,Ai,A4 h];rfl
def ZyR(c:qG x):Wh x (λ_=>0) (Wi x):=by intro a b h1 h2 d;show 0+Wi x b<=_;unfold Wi;by_cases hb:b=0;rw[if_pos hb];have:=c a b;omega;rw[if_neg hb,Gf EA];have:=Ge x (b-1+1) (x.y.length+1) a EA EA;rw[show b-1+1=b by omega]at this ⊢;omega
def Gg{p:zy}{o i:Nat->Int}(hf:Wh x o i)(f:qG x)(a:∀c∈x.y,CustSm c)(hx:x.y.length<=900)(hl:p.length<=1000)(hm:∀d∈p,yu x d=0):
  yG x p x.y.length+(((p.map List.length).sum:Nat):Int)*(o 0+i 0)+((List.range x.y.length).map λc:Nat=>wC o i c*(((zW c (told 0 p)).length:Nat):Int)).sum<=yN x p:=by
 rw[kv f a hx hl hm];have h1:=FZ hf hm;have h2:=Ga (wC o i) x.y.length p.flatten.flatten (λs hs=>by obtain⟨t,g,b⟩:=Bd.1 hs;obtain⟨d,h,e⟩:=Bd.1 g;have:=JY (hm d h) s (Bd.2 ⟨t,e,b⟩);simp[qn]at this;omega);have h3:((List.range x.y.length).map λc:Nat=>wC o i c*(((zW c (told 0 p)).length:Nat):Int))=(List.range x.y.length).map λc:Nat=>wC o i (c:Int)*((xK c p.flatten.flatten:Nat):Int):=by apply AQ;intro c _;rw[lw c p 0]
 rw[h3,<-h2];omega
theorem Gi:∀{q:List Int} {there:Int} {ns:List Int},yk size d there q=some ns->0<=there->0<=there+q.sum-d*q.length/\ns.length=q.length
 |[],there,ns,h,h0=>by simp only[yk,Option.some.injEq]at h;subst h;simp;omega
 |z::q,there,ns,h,h0=>by
  unfold yk at h;split at h;cases h;rename_i hc;obtain⟨m,hm,rfl⟩:=An.1 h;obtain⟨h1,h2⟩:=Gi hm EA;have e:d*((q.length+1:Nat):Int)=d*q.length+d:=by rw[CM,B6];simp
  simp only[AL,Ab,e];omega
theorem Gj(m:Nat):∀(v:List Visit),(∀s∈v,0<=s.d/\s.d<m)->((List.range m).map λd:Nat=>Yp v d).sum=(v.map (·.q)).sum
 |[],_=>by
  have:∀k:Nat,((List.range k).map λd:Nat=>Yp [] d).sum=0:=λk=>by
   induction k with
   |zero=>rfl
   |succ k a=>rw[AC,List.map_append,Bb,a];simp[Yp]
  rw[this];rfl
 |s::v,h=>by
  obtain⟨h1,h2⟩:=h s EB;have h3:=Gj m v λt c=>h t (by simp[c]);have key:∀k:Nat,((List.range k).map λd:Nat=>Yp (s::v) d).sum=(if s.d<k then s.q else 0)+((List.range k).map λd:Nat=>Yp v d).sum:=λk=>by
   induction k with
   |zero=>rw[if_neg EA];rfl
   |succ k a =>
   rw[AC,List.map_append,Bb,List.map_append,Bb,a];simp only[Ap,A8,AL,Dl];by_cases e:s.d=k;have b:Yp (s::v) k=s.q+Yp v k:=by simp[Yp,e]
   rw[b,if_neg EA,if_pos EA];omega;have b:Yp (s::v) k=Yp v k:=by simp[Yp,e]
   rw[b];by_cases q:s.d<k;rw[if_pos q,if_pos EA];omega;rw[if_neg q,if_neg EA];omega
  rw[key,if_pos h2,Ap,AL,h3]
def Gk{l:List Int}{m:Int}(h:∀z∈l,z<=m):l.sum<=m*l.length:=by
 induction l with
 |nil=>simp
 |cons a l b =>
 have h1:=h a EB;have h2:=b λz c=>h z (by simp[c]);have e:m*((l.length+1:Nat):Int)=m*l.length+m:=by rw[CM,B6];simp
 simp only[AL,Ab,e];omega
def Gl{w m k:Int}(a:0<=w/\w<=1000000000000)(hm:1<=m)(h:w<=m*k):vp w m<=k:=by have c:w.tdiv m=w/m:=Bx a.1;have e2:w.tmod m=w%m:=AY a.1;have b:0<=w/m/\w/m<=w:=⟨Ee a.1 EA,Dq _ a.1⟩;have d:W (w/m)=w/m:=wr _ EA EA;have w2:W (w/m+1)=w/m+1:=wr _ EA EA;unfold vp;rw[c,e2,d,w2];have h1:w/m<=k:=Int.ediv_le_of_le_mul EA (by rw[CW];exact h);split;rename_i q;have f:w≠m*k:=λe=>q.1 (by rw[e];exact Int.mul_emod_right m k);have h2:w/m<k:=Int.ediv_lt_of_lt_mul EA (by rw[CW];omega);omega;exact h1
variable {cap:Int}
def ZyS{c:Cust}{v:List Visit}(j:c.kind=2)(hf:CustFits c)(hn:n<=60)(hv:v.length<=n)(e:∀s∈v,1<=s.q/\s.q<=cap/\s.q<=c.size)(hs:0<=c.H+(v.map (·.q)).sum-c.D*n):je c n cap<=v.length:=by
 have h1:=hf.D;have h2:=hf.H;have l:0<=c.D*n/\c.D*n<=2147483648*60:=⟨Bc EA EA,Bm EA EA EA EA⟩;have g:W (c.D*n)=c.D*n:=wr _ EA EA;have w2:W (c.D*n-c.H)=c.D*n-c.H:=wr _ EA EA;have h:vq c n=qk (c.D*n-c.H) 0:=by unfold vq;rw[g,w2]
 unfold je;rw[if_neg EA,h];generalize c.D*(n:Int)=R at *;have hm:∀z∈v.map (·.q),z<=qj cap c.size:=λz i=>by obtain⟨s,hs,rfl⟩:=Aj.1 i;have:=e s hs;unfold qj;split<;>omega
 have a:=Gk hm;rw[List.length_map]at a;split;omega;rename_i h0;have f:0<R-c.H:=by unfold qk at h0;split at h0<;>omega
 have d:qk (R-c.H) 0=R-c.H:=by unfold qk;rw[if_neg EA]
 rw[d];split;rename_i b;exfalso;obtain _|⟨s,v⟩:=v;simp at hs;omega;have:=e s EB;unfold qj at b;split at b<;>omega;have:=Gl (w:=R-c.H) (m:=qj cap c.size) (k:=v.length) EA EA EA;have h3:qj (vp (R-c.H) (qj cap c.size)) n<=vp (R-c.H) (qj cap c.size):=by unfold qj;split<;>omega
 omega
def wW(x:Int)(h1:-9223372036854775808<=x)(h2:x<=9223372036854775807):W x=x:=wr x h1 h2
def xu(c:Cust)(last d:Int):Int:=((List.range (if last<0 then d else d-last).toNat).map λ(i:Nat)=>(if last<0 then c.H else c.size)-c.D*((i:Int)+1)).sum
theorem ZyT(c:Cust)(a d:Int):(yO c a d).2=W (c.U*W (xu c a d)):=rfl
def ZyU(c:Cust)(m:Nat):xu c m m=0:=by unfold xu;rw[if_neg EA,if_neg EA,Int.sub_self];rfl
def Gm(c:Cust){a:Int}{m:Nat}(h:a<=m)(h1:-1<=a):xu c a ((m+1:Nat):Int)=xu c a m+(yO c a ((m+1:Nat):Int)).1:=by rw[J8];unfold xu;by_cases h0:a<0;simp only[if_pos h0,AJ,AC,List.map_append,Bb];simp;have e:(((m+1:Nat):Int)-a).toNat=((m:Int)-a).toNat+1:=EA;simp only[if_neg h0,e,AC,List.map_append,Bb];simp
theorem Gn{r:Int}(a:0<=r):∀k:Nat,0<=b-r*k->0<=((List.range k).map λ(i:Nat)=>b-r*((i:Int)+1)).sum/\((List.range k).map λ(i:Nat)=>b-r*((i:Int)+1)).sum<=b*k
 |0,_=>by simp
 |k+1,h=>by
  have e:r*((k+1:Nat):Int)=r*k+r:=ww r k;have e2:b*((k+1:Nat):Int)=b*k+b:=ww b k;have h0:0<=r*(k:Int):=Bc a EA;obtain⟨h1,h2⟩:=Gn a k EA;have c:r*((k:Int)+1)=r*k+r:=by rw[B6];simp
  rw[AC,List.map_append,Bb,e2];simp only[Ap,A8,AL,Dl,c];omega
def ZyV{c:Cust}(hc:CustFits c){a:Int}{d:Nat}(e:d<=7)(h1:-1<=a)(h0:0<=(yO c a d).1):0<=xu c a d/\xu c a d<=2147483648*7:=by
 rw[J8]at h0;unfold xu;have hb:0<=(if a<0 then c.H else c.size)/\(if a<0 then c.H else c.size)<=2147483648:=by have:=hc.size;have:=hc.H;split<;>omega
 generalize (if a<0 then c.H else c.size)=b at *;have f:(if a<0 then (d:Int) else d-a).toNat<=7:=by split<;>omega
 generalize (if a<0 then (d:Int) else d-a).toNat=k at *;obtain⟨g1,g⟩:=Gn hc.D.1 k h0;have:b*(k:Int)<=2147483648*7:=Bm hb.2 EA EA EA;omega
def uH(c:Cust)(ds:List Int):Int × Int:=ds.foldl (λst d=>(st.1+xu c st.2 d,d)) (0,-1)
def eL(c:Cust)(ds:List Int)(d:Int):uH c (ds++[d])=((uH c ds).1+xu c (uH c ds).2 d,d):=by simp[uH]
def lA{α:Type}(l:List α):l=[]\/∃m a,l=m++[a]:=by obtain h|⟨m,a,h⟩:=Ed l;exact .inl h;exact .inr ⟨m,a,by simpa using h⟩
def lB(c:Cust)(ds:List Int):(uH c ds).2=js ds:=by obtain rfl|⟨m,a,rfl⟩:=lA ds;rfl;rw[eL,YS]
inductive FRc (c:Cust) (cap:Int):List Int->Int->Int->Prop where
 |nil:FRc c cap [] c.H 0
 |zero {q:List Int} {t s:Int} (h:FRc c cap q t s):FRc c cap (q++[0]) (t-c.D) (s+(t-c.D))
 |fill {q:List Int} {t s:Int} (h:FRc c cap q t s) (h1:1<=c.size-t) (h2:c.size-t<=cap):FRc c cap (q++[c.size-t]) (c.size-c.D) (s+(c.size-c.D))
theorem FRc.sum{c:Cust}{t s:Int}(h:FRc c cap z t s):t=c.H+z.sum-c.D*z.length:=by
 induction h with
 |nil=>simp
 |zero h a=>rw[Bb,Ak,AS,ww];simp;omega
 |fill h h1 h2 a=>rw[Bb,Ak,AS,ww];simp;omega
theorem lC{c:Cust}:∀(a:List Int) {b:List Int} {t s:Int} {l2:List Int},FRc c cap b t s->yk c.size c.D t a=some l2->xC c.D c.size a l2=false->(∀z∈a,0<=z/\z<=cap)->∃t',FRc c cap (b++a) t' (s+l2.sum)
 |[],b,t,s,l2,h,f,_,_=>by simp only[yk,Option.some.injEq]at f;subst f;exact⟨t,by simpa using h⟩
 |z::a,b,t,s,l2,h,f,hf,j=>by
  obtain⟨d,rfl,g,h1,h2⟩:=eJ f;obtain⟨k,l⟩:=ZyN hf;have q:=j z EB;have i:FRc c cap (b++[z]) (t+z-c.D) (s+(t+z-c.D)):=by by_cases z0:z=0;subst z0;have:=h.zero;simpa using this;have e:=k EA;have m:z=c.size-t:=EA;have:=h.fill EA EA;rw[m];have e2:t+(c.size-t)-c.D=c.size-c.D:=EA;rw[e2];exact this
  obtain⟨t',n⟩:=lC a i g l λw o=>j w (by simp[o]);refine⟨t',?_⟩;have p:s+((t+z-c.D)::d).sum=s+(t+z-c.D)+d.sum:=by rw[AL];omega
  rw[p];simpa using n
theorem FRc.fil{c:Cust}{t s:Int}(h:FRc c cap z t s)(h0:0<=c.H):∀l,yk c.size c.D c.H z=some l->z.length<=n->∃ds,FilS c cap n ds/\js ds<z.length/\t=(yO c (js ds) z.length).1/\0<=t/\s=(uH c ds).1+xu c (js ds) z.length/\(yQ 0 z).map (·.d)=ds:=by
 induction h with
 |nil =>
 intro l _ _;refine⟨[],.nil,by simp[js],?_,h0,?_,rfl⟩;rw[J8];simp[js];rfl
 |@zero z t s h g =>
 intro l hl hn;obtain⟨⟨l',a⟩,i⟩:=Ey hl;rw[<-h.sum]at i;rw[Ak,AS]at hn ⊢;obtain⟨ds,b,j,f,o,k,m⟩:=g l' a EA;have e:=Zw4 c j b.lo.1;refine⟨ds,b,by omega,by rw[e,<-f],by omega,?_,?_⟩;rw[Gm c EA b.lo.1,e,<-f,k];omega;rw[dN,List.map_append,m];simp[yQ]
 |@fill z t s h h1 h2 g =>
 intro l hl hn;obtain⟨⟨l',a⟩,i⟩:=Ey hl;rw[<-h.sum]at i;rw[Ak,AS]at hn ⊢;obtain⟨ds,b,j,f,o,k,m⟩:=g l' a EA;have p:(yO c (z.length:Int) ((z.length+1:Nat):Int)).1=c.size-c.D:=by rw[J8,if_neg EA,if_neg EA];have e:(((z.length+1:Nat):Int)-(z.length:Int)).toNat=0+1:=EA;rw[e,ww];simp
 refine⟨ds++[(z.length:Int)],.snoc b j EA ⟨by rw[<-f];exact o,?_⟩,by rw[YS];omega,?_,by omega,?_,?_⟩;rw[<-f];unfold vU;rw[if_neg EA,if_pos h2];omega;rw[YS,p];rw[YS,eL,lB,Gm c (Cc _) EA,ZyU,p,k];simp;rw[dN,List.map_append,m];simp only[yQ,if_pos (show (0:Int)<c.size-t by omega)];simp
def jk(c:Cust)(n:Nat)(cap:Int)(price:List Int)(d:Nat):Stp:=jS c n cap price (y8 c n cap price d) d (d+1)
theorem Gq(c:Cust)(n:Nat)(cap:Int)(price:List Int)(a:List Stp)(d:Nat):∀j,jS c n cap price a d j≠zs->(jS c n cap price a d j).k=Yg c n cap price a d (jS c n cap price a d j).l
 |0,h=>absurd rfl h
 |j+1,h=>by rw[aL]at h ⊢;have b:=Gq c n cap price a d j;unfold Jb at h ⊢;split;split;rfl;rename_i h1 h2;rw[if_pos h1,if_neg h2]at h;exact b h;rename_i h1;rw[if_neg h1]at h;exact b h
theorem Gr{c:Cust}(price:List Int){a:List Stp}{d:Nat}(b:YP c n cap a d ((i:Int)-1)):∀j:Nat,i<j->(jS c n cap price a d j).k<=Yg c n cap price a d ((i:Int)-1)
 |0,h=>by omega
 |j+1,h=>by rw[aL];by_cases e:i=j;subst e;unfold Jb;rw[if_pos b];split;exact Cc _;rename_i h2;exact DQ.1 λq=>h2 (.inr q);have f:=Gr price b j EA;have g:=kN price b j EA;unfold Jb;split;split;rename_i h1 h2;obtain h2|h2:=h2;exact absurd h2 g;exact El (Eo h2) f;exact f;exact f
structure FilK (c:Cust) (n:Nat) (pr:Int):Prop where
 Z:CustFits c
 n7:n<=7
 pr:0<=pr/\pr<=4294967296
 U:0<=c.U/\c.U<=1024
def eM{d:Nat}(h:d<n):ZU (List.replicate n b) d=b:=by unfold ZU;rw[if_neg EF,List.getD_eq_getElem?_getD,AJ,C8,if_pos h];rfl
def Xj(c:Cust)(n:Nat)(cap:Int)(price:List Int){d m:Nat}(h:d<m):(y8 c n cap price m).getD d zs=jk c n cap price d:=Ex c n cap price m d h
def ahead(c:Cust)(n:Nat)(cap:Int)(price:List Int)(l:Int):Int:=if 0<=l then (jk c n cap price l.toNat).k else 0
def Gs{c:Cust}(K:FilK c n size){l:Int}{d:Nat}(e:d<=n)(h1:-1<=l)(h0:0<=(yO c l d).1):(yO c l d).2=c.U*xu c l d/\0<=c.U*xu c l d/\c.U*xu c l d<=1024*(2147483648*7):=by have hs:=ZyV K.Z (d:=d) (by have:=K.n7;omega) h1 h0;have a:=K.U;have b:0<=c.U*xu c l d/\c.U*xu c l d<=1024*(2147483648*7):=⟨Bc a.1 hs.1,Bm a.2 hs.2 hs.1 EA⟩;rw[ZyT,wW (xu c l d) EA EA,wW _ EA EA];exact⟨rfl,b⟩
def Gt{c:Cust}(K:FilK c n size){d:Nat}(b:d<=n){l:Int}(h1:-1<=l)(h2:l<d)(h0:0<=(yO c l d).1)(hb:0<=ahead c n cap (List.replicate n size) l/\ahead c n cap (List.replicate n size) l<=1125899906842624*d):
  Yg c n cap (List.replicate n size) (y8 c n cap (List.replicate n size) d) d l=c.U*xu c l d+ahead c n cap (List.replicate n size) l+(if d<n then size else 0):=by
 obtain⟨a,e2,g⟩:=Gs K b h1 h0;have h:=K.pr;have i:=K.n7;have e:(1125899906842624:Int)*d<=1125899906842624*7:=EA;have f:(if 0<=l then W ((yO c l d).2+((y8 c n cap (List.replicate n size) d).getD l.toNat zs).k) else (yO c l d).2)=c.U*xu c l d+ahead c n cap (List.replicate n size) l:=by unfold ahead at hb ⊢;by_cases h3:0<=l;rw[if_pos h3]at hb;rw[if_pos h3,if_pos h3,Xj _ _ _ _ (show l.toNat<d by omega),a];exact wW _ EA EA;rw[if_neg h3,if_neg h3,a];omega
 unfold Yg;simp only[f];by_cases h3:d<n;rw[if_pos h3,if_pos h3,eM h3];exact wW _ EA EA;rw[if_neg h3,if_neg h3];omega
def lD{c:Cust}(K:FilK c n size):∀d:Nat,d<=n->jk c n cap (List.replicate n size) d≠zs ->
  -1<=(jk c n cap (List.replicate n size) d).l/\(jk c n cap (List.replicate n size) d).l<d/\(0<=(jk c n cap (List.replicate n size) d).l->jk c n cap (List.replicate n size) (jk c n cap (List.replicate n size) d).l.toNat≠zs)/\0<=(yO c (jk c n cap (List.replicate n size) d).l d).1 /\
  (jk c n cap (List.replicate n size) d).k=c.U*xu c (jk c n cap (List.replicate n size) d).l d+ahead c n cap (List.replicate n size) (jk c n cap (List.replicate n size) d).l+(if d<n then size else 0) /\
  0<=(jk c n cap (List.replicate n size) d).k/\(jk c n cap (List.replicate n size) d).k<=1125899906842624*((d:Int)+1):=by
 intro d;induction d using Nat.strongRecOn with
 |ind d j =>
 intro g a;have h1:(y8 c n cap (List.replicate n size) (d+1))[d]?=some (jk c n cap (List.replicate n size) d):=by
  have:=Xj c n cap (List.replicate n size) (show d<d+1 by omega);rw[List.getD_eq_getElem?_getD]at this;cases h:(y8 c n cap (List.replicate n size) (d+1))[d]? with
  |none=>rw[List.getElem?_eq_none_iff,XZ]at h;omega
  |some e=>rw[h]at this;exact congrArg some this
 obtain⟨g1,i,g3,g4,-⟩:=aN c n cap (List.replicate n size) (d+1) d _ h1 a;have b:=Gq c n cap (List.replicate n size) (y8 c n cap (List.replicate n size) d) d (d+1) a;change (jk c n cap (List.replicate n size) d).k=Yg c n cap (List.replicate n size) (y8 c n cap (List.replicate n size) d) d (jk c n cap (List.replicate n size) d).l at b;generalize jk c n cap (List.replicate n size) d=e at *;have f:0<=e.l->jk c n cap (List.replicate n size) e.l.toNat≠zs:=λq=>by have:=g3 q;rwa[Xj _ _ _ _ (show e.l.toNat<d+1 by omega)]at this
 have hb:0<=ahead c n cap (List.replicate n size) e.l/\ahead c n cap (List.replicate n size) e.l<=1125899906842624*d:=by unfold ahead;split;rename_i q;obtain⟨-,-,-,-,-,m,o⟩:=j e.l.toNat EA EA (f q);omega;omega
 rw[Gt K g g1 i g4 hb]at b;obtain⟨-,e2,p⟩:=Gs K g g1 g4;have r:=K.pr;refine⟨g1,i,f,g4,b,?_,?_⟩;rw[b];split<;>omega;rw[b];split<;>omega
def ZyW{c:Cust}(K:FilK c n size){d:Nat}(a:d<=n){l:Int}(h2:l<d)(h3:0<=l->jk c n cap (List.replicate n size) l.toNat≠zs):0<=ahead c n cap (List.replicate n size) l/\ahead c n cap (List.replicate n size) l<=1125899906842624*d:=by unfold ahead;split;rename_i q;obtain⟨-,-,-,-,-,b,e⟩:=lD K l.toNat EA (h3 q);omega;omega
def Gu{c:Cust}(K:FilK c n size){d:Nat}(b:d<=n){l:Int}(h1:-1<=l)(h2:l<d)(h3:0<=l->jk c n cap (List.replicate n size) l.toNat≠zs)(f:0<=(yO c l d).1)(g:d<n->vU c (yO c l d).1 cap≠0):
  jk c n cap (List.replicate n size) d≠zs/\(jk c n cap (List.replicate n size) d).k<=c.U*xu c l d+ahead c n cap (List.replicate n size) l+(if d<n then size else 0):=by
 have e:(((l+1).toNat:Nat):Int)-1=l:=EA;have a:YP c n cap (y8 c n cap (List.replicate n size) d) d (((l+1).toNat:Nat)-1):=by rw[e];refine⟨λq=>h3 q.1 ?_,λq=>?_⟩;rw[<-Xj _ _ _ _ (show l.toNat<d by omega)];exact q.2;obtain q|⟨h,i⟩:=q;omega;exact g h i
 have hm:=Gr (List.replicate n size) a (d+1) EA;rw[e,Gt K b h1 h2 f (ZyW K b h2 h3)]at hm;exact⟨kN (List.replicate n size) a (d+1) EA,hm⟩
variable {ds:List Int}
def Gv{c:Cust}(K:FilK c n size)(h:FilS c cap n ds):0<=js ds->jk c n cap (List.replicate n size) (js ds).toNat≠zs/\(jk c n cap (List.replicate n size) (js ds).toNat).k<=c.U*(uH c ds).1+size*ds.length:=by
 induction h with
 |nil=>intro h0;simp[js]at h0
 |@snoc ds d h h1 h2 h3 e =>
 have b:=h.lo.1;intro h0;rw[YS]at h0 ⊢;obtain⟨k,rfl⟩:=Au h0;obtain⟨f,g⟩:=Gu K (cap:=cap) (d:=k) (l:=js ds) EA b h1 (λq=>(e q).1) h3.1 (λ_=>h3.2);rw[AJ];refine⟨f,?_⟩;rw[if_pos EA]at g;rw[eL,lB,Ak,AS,ww,B6];have:ahead c n cap (List.replicate n size) (js ds)<=c.U*(uH c ds).1+size*ds.length:=by unfold ahead;split;rename_i q;exact(e q).2;rename_i q;obtain rfl|⟨m,a,rfl⟩:=lA ds;simp[uH];exfalso;rw[YS]at q;have:=h.lo.2 a EB;omega
 omega
theorem Gw{c:Cust}(K:FilK c n size):∀(f:Nat) (d:Int),-1<=d->d<f->d<n->(0<=d->jk c n cap (List.replicate n size) d.toNat≠zs) ->
  ahead c n cap (List.replicate n size) d=c.U*(uH c (u5 (y8 c n cap (List.replicate n size) (n+1)) f d).reverse).1+size*((u5 (y8 c n cap (List.replicate n size) (n+1)) f d).length:Nat)
 |0,d,h1,h2,_,_=>by obtain rfl:d=-1:=EA;simp[ahead,u5,uH]
 |f+1,d,h1,h2,h3,b=>by
  unfold u5;by_cases h0:d<0;rw[if_pos h0];unfold ahead;rw[if_neg EA];simp[uH];rw[if_neg h0,Xj _ _ _ _ (show d.toNat<n+1 by omega)];obtain⟨k,rfl⟩:=Au (show 0<=d by omega);rw[AJ]at *;obtain⟨g1,i,g3,-,g,-⟩:=lD K (cap:=cap) k EA (b EA);have h:=Gw K f _ g1 EA EA g3;have a:=aN c n cap (List.replicate n size) (n+1);have hl:=(aO a f (jk c n cap (List.replicate n size) k).l g1 EA EA (λq=>by rw[Xj _ _ _ _ EA];exact g3 q)).2;rw[CC,eL,lB,hl,Ab,ww,B6];have e:ahead c n cap (List.replicate n size) (k:Int)=(jk c n cap (List.replicate n size) k).k:=by unfold ahead;rw[if_pos EA,AJ]
  rw[e,g,h,if_pos EA];omega
theorem lE:∀{v:List Visit} {a:Int},Jo a v->vY v
 |[],_,_=>.nil
 |s::v,a,h=>by unfold vY;rw[Ap,Bl];refine⟨λd b=>?_,lE h.2⟩;obtain⟨t,c,rfl⟩:=Aj.1 b;have:=lu h.2 t c;omega
def ZyX{c:Cust}{v:List Visit}(h:SrvV c n v)(a:∀s∈v,1<=s.q):GoodV n v:=by have hl:=eK h.rise h.days EA;have:=h.ac;refine⟨by omega,λs hs=>⟨⟨lu h.rise s hs,h.days s hs⟩,a s hs,(h.qs s hs).2⟩,(lE h.rise).imp λh=>Dk h⟩
def Gx{c:Cust}(h:uz c z=0):∃l,yk c.size c.D c.H z=some l/\(yS c z).1=l/\(c.Y=1->xC c.D c.size z l=false):=by
 have h2:(yS c z).2=0:=by unfold uz at h;split at h;rename_i h1;exact absurd h h1;rename_i h1;simpa using h1
 obtain⟨l,b,e2⟩:∃l,yk c.size c.D c.H z=some l/\(yS c z).1=l:=by unfold yS at h2 ⊢;split at h2;cases h2;rename_i hb;rw[if_neg hb];split at h2;cases h2;rename_i l a;exact⟨l,a,rfl⟩
 refine⟨l,b,e2,λa=>?_⟩;unfold uz at h;rw[h2,if_neg EB,if_neg (by simp[a]),e2]at h;split at h;cases h;rename_i hf;simpa using hf
theorem Gy(a:0<=d):∀{q:List Int} {there:Int} {l:List Int},yk size d there q=some l->0<=l.sum/\l.sum<=size*l.length
 |[],there,l,h=>by simp only[yk,Option.some.injEq]at h;subst h;simp
 |z::q,there,l,h=>by obtain⟨ns,rfl,h',h1,h2⟩:=eJ h;obtain⟨i1,i2⟩:=Gy a h';have e:size*((ns.length+1:Nat):Int)=size*ns.length+size:=ww size ns.length;rw[AL,Ab,e];omega
def lF{c:Cust}(K:FilK c n cap){l:List Int}(h:yk c.size c.D c.H z=some l)(hl:z.length=n):xQ c l=c.U*l.sum/\0<=c.U*l.sum/\c.U*l.sum<=1024*(2147483648*7):=by obtain⟨h1,h2⟩:=Gy K.Z.D.1 h;have d:=kL _ _ _ h;have a:=K.Z.size;have f:=K.n7;have b:=K.U;have g:c.size*(l.length:Int)<=2147483648*7:=Bm a.2 EA EA EA;have e:0<=c.U*l.sum/\c.U*l.sum<=1024*(2147483648*7):=⟨Bc b.1 h1,Bm b.2 EA h1 EA⟩;unfold xQ;rw[wW l.sum EA EA,wW _ EA EA];exact⟨rfl,e⟩
def Gz(h:0<=size/\size<=4294967296)(v:List Visit)(a:∀s∈v,0<=s.d/\s.d<n)(hl:v.length<=64):YO (List.replicate n size) v=size*v.length:=by
 have key:∀(v:List Visit) (s:Int),(∀w∈v,0<=w.d/\w.d<n)->0<=s->s<=4294967296*(64-v.length)->v.foldl (λs w=>W (s+ZU (List.replicate n size) w.d)) s=s+size*v.length:=by
  intro v;induction v with
  |nil=>intro s _ _ _;simp
  |cons w v c =>
  intro s a h0 h1;obtain⟨k,f⟩:=Au (a w EB).1;have b:k<n:=by have:=(a w EB).2;omega
  rw[Ab]at h1;have e:W (s+ZU (List.replicate n size) w.d)=s+size:=by rw[f,eM b];exact wW _ EA EA
  rw[A6,e,c _ (λu g=>a u (by simp[g])) EA EA,Ab,ww];omega
 unfold YO;rw[key v 0 a EA EA];omega
def ZyY{c:Cust}(K:FilK c n d)(h:FilS c cap n ds):ahead c n cap (List.replicate n d) (js ds)<=c.U*(uH c ds).1+d*ds.length:=by unfold ahead;split;rename_i q;exact(Gv K h q).2;rename_i q;obtain rfl|⟨m,a,rfl⟩:=lA ds;simp[uH];exfalso;rw[YS]at q;have:=h.lo.2 a EB;omega
variable {pr:Int}
def ZyZ{c:Cust}(K:FilK c n pr)(o:c.H<=c.size)(hr:c.Y=1)(z:c.kind≠1)(d:jk c n cap (List.replicate n pr) n≠zs):
  (uZ c n cap (List.replicate n pr)).2=true/\Zu c n (List.replicate n pr) (uZ c n cap (List.replicate n pr)).1=(jk c n cap (List.replicate n pr) n).k:=by
 have hn:=K.n7;have p:=K.pr;obtain⟨g1,r,g3,g4,g5,-,-⟩:=lD K (cap:=cap) n (Af n) d;have a:=aN c n cap (List.replicate n pr) (n+1);have ht:=Xj c n cap (List.replicate n pr) (show n<n+1 by omega);unfold uZ;rw[ht,if_neg d];refine⟨rfl,?_⟩;generalize a0:(jk c n cap (List.replicate n pr) n).l=el at *;have e:0<=el->(y8 c n cap (List.replicate n pr) (n+1)).getD el.toNat zs≠zs:=λq=>by rw[Xj _ _ _ _ EA];exact g3 q
 have f:=Gw K 65 el g1 EA r g3;dsimp only;rw[ti a EA g1 r e];obtain⟨t,w⟩:=aO a 65 el g1 EA r e;have g:(u5 (y8 c n cap (List.replicate n pr) (n+1)) 65 el).length=(u5 (y8 c n cap (List.replicate n pr) (n+1)) 65 el).reverse.length:=EB;rw[g]at f;generalize (u5 (y8 c n cap (List.replicate n pr) (n+1)) 65 el).reverse=ds at *;have h:=sZ K.Z EA t;have i:=ZwZ t;have j:=kM h i;obtain⟨l,m,e2,-⟩:=ZwY K.Z o EA t n EA (Af n) (by rw[w];exact g4);have b:=Yk (qc c ds).1 (show n<=60 by omega);obtain⟨t',x⟩:=lC (cap:=2147483648) _ (FRc.nil (c:=c)) m e2 j;rw[AI]at x;obtain⟨ds',d1,d2,d3,d4,d5,y⟩:=x.fil K.Z.H.1 l m (Cw b);rw[kH h EA i,dR]at y;subst y;rw[b,w]at d5;obtain⟨f1,f2,f3⟩:=lF K m b;have u:(qc c ds).1.length=ds.length:=kf c ds;have v:=Gz p (qc c ds).1 (λs hs=>(h.ok s hs).1) h.len;unfold Zu;rw[if_neg z,Zw0 j m,v,u];have a1:=h.len;have e9:0<=pr*(ds.length:Int)/\pr*(ds.length:Int)<=4294967296*64:=⟨Bc p.1 EA,Bm p.2 EA EA EA⟩;show W (pr*(ds.length:Int)+xQ c l)=_;rw[f1,wW _ EA EA,g5,f,if_neg EA,show l.sum=(uH c ds).1+xu c el n by omega,B6];omega
def Zy0{c:Cust}{v:List Visit}(K:FilK c n pr)(o:c.H<=c.size)(x:c.Y=1)(hk:c.kind≠1)(y:GoodV n v)(g:vY v)(j:∀s∈v,s.q<=cap)(a0:0<=cap)(h0:uz c (z8 v n)=0):
  (uZ c n cap (List.replicate n pr)).2=true/\Zu c n (List.replicate n pr) (uZ c n cap (List.replicate n pr)).1<=pr*v.length+xQ c (yS c (z8 v n)).1:=by
 have hn:=K.n7;obtain⟨l,p,e2,e3⟩:=Gx h0;have r:=kM y g;have f:=Yk v (show n<=60 by omega);have k:=kH y EA g;have hq:∀z∈z8 v n,0<=z/\z<=cap:=λz hz=>by
  have h1:=r z hz;refine⟨h1.1,?_⟩;have key:∀(l:List Int) (i:Nat),z∈l->0<z->∃w∈yQ i l,w.q=z:=by
   intro l;induction l with
   |nil=>intro i h;cases h
   |cons a l ih =>
   intro i h b;simp only[yQ];obtain rfl|h:=Al.1 h;rw[if_pos b];exact⟨_,Ck,rfl⟩;obtain⟨w,m,e⟩:=ih (i+1) h b;split;exact⟨w,BT _ m,e⟩;exact⟨w,m,e⟩
  by_cases b:0<z;obtain⟨w,m,e⟩:=key _ 0 hz b;rw[k]at m;rw[<-e];exact j w m;omega
 obtain⟨t',hC⟩:=lC _ (FRc.nil (c:=c)) p (e3 x) hq;rw[AI]at hC;obtain⟨ds,t,d2,d3,d4,d5,d6⟩:=hC.fil K.Z.H.1 l p (Cw f);have hl:ds.length=v.length:=by rw[<-d6,k,List.length_map]
 rw[f]at d2 d3 d5;have u:=t.lo.1;obtain⟨m1,m2⟩:=Gu K (cap:=cap) (d:=n) (Af n) u d2 (λq=>(Gv K t q).1) (by rw[<-d3];exact d4) (λq=>absurd q EA);have m3:=ZyY K t;obtain⟨c1,c2⟩:=ZyZ K o x hk m1;obtain⟨f1,-,-⟩:=lF K p f;refine⟨c1,?_⟩;rw[c2,e2,f1,show l.sum=(uH c ds).1+xu c (js ds) n by omega,B6];rw[if_neg EA]at m2;rw[hl]at m3;omega
def Zy1(f:0<=pr/\pr<=4294967296)(ds:List Int)(a:∀d∈ds,0<=d/\d<n)(hl:ds.length<=64):vT (List.replicate n pr) ds=pr*ds.length:=by
 have key:∀(ds:List Int) (s:Int),(∀d∈ds,0<=d/\d<n)->0<=s->s<=4294967296*(64-ds.length)->ds.foldl (λ(s d:Int)=>if d<(List.replicate n pr).length then xR s ((List.replicate n pr).getD d.toNat 0) else s) s=s+pr*ds.length:=by
  intro ds;induction ds with
  |nil=>intro s _ _ _;simp
  |cons d ds b =>
  intro s a h0 h1;have h2:=a d EB;rw[Ab]at h1;have e:(if d<(List.replicate n pr).length then xR s ((List.replicate n pr).getD d.toNat 0) else s)=s+pr:=by rw[if_pos EF,List.getD_eq_getElem?_getD,C8,if_pos EA];unfold xR;rw[Option.getD_some,if_neg EA,if_neg EA]
  rw[A6,e,b _ (λu c=>a u (by simp[c])) EA EA,Ab,ww];omega
 unfold vT;rw[key ds 0 a EA EA];omega
theorem GA(price:List Int)(l:List Nat):∀k:Nat,k<=l.length->0<k->(jH price l k).2=YM price (l.getD (jH price l k).1.toNat 0)/\∀i,i<k->(jH price l k).2<=YM price (l.getD i 0)
 |0,_,h=>by omega
 |k+1,hl,_=>by
  have c:=aJ price l k;by_cases d:k=0;subst d;have e:jH price l (0+1)=(((0:Nat):Int),YM price (l.getD 0 0)):=if_pos (Or.inl (by decide:(-1:Int)<0));rw[e];refine⟨rfl,λi hi=>?_⟩;obtain rfl:i=0:=EA;exact Cc _;obtain⟨h1,h2⟩:=GA price l k EA EA;simp only[jH];split;rename_i b;refine⟨by simp,λi hi=>?_⟩;have f:YM price (l.getD k 0)<(jH price l k).2:=by obtain b|b:=b;have:=c.2.2 EA;omega;exact b
  by_cases a:i=k;subst a;exact Cc _;have:=h2 i EA;dsimp only;omega;rename_i b;refine⟨h1,λi hi=>?_⟩;by_cases a:i=k;subst a;exact DQ.1 λq=>b (.inr q);exact h2 i EA
def Zy2(c:Cust)(p:Nat):(Qq c p).length=(yC p 0 64).length:=by simp[Qq]
def lG{c:Cust}{v:List Visit}(f:vY v)(g:∀s∈v,0<=s.d/\s.d<64)(h0:JX c v=0):(∀s∈v,s.q=c.R)/\∃p∈c.J,v.map (·.d)=yC p 0 64:=by
 unfold JX at h0;split at h0;cases h0;rename_i j;split at h0;rename_i hm;refine⟨λs hs=>?_,_,hm,?_⟩;rcases Decidable.em (s.q=c.R) with e|e
 exact e;exact absurd (BZ.2 ⟨s,hs,by simpa using e⟩) j;refine te f (tg _ _ _) λz=>?_;have hb:∀i:Nat,yU (ZQ (v.map (·.d))) i=1<->(i:Int)∈v.map (·.d):=λi=>by
  have:=kO i (v.map (·.d)) 0 λd h=>by obtain⟨s,hs,rfl⟩:=Aj.1 h;exact g s hs
  rw[W8]at this;simpa[ZQ] using this
 constructor;intro b;obtain⟨s,hs,rfl⟩:=Aj.1 b;obtain⟨i,hi⟩:=Au (g s hs).1;have k:=(g s hs).2;unfold yC;refine Aj.2 ⟨i,AX.2 ⟨AN.2 EA,?_⟩,hi.symm⟩;have:=(hb i).2 (by rw[<-hi];exact b);simp[this];intro b;obtain⟨i,rfl,hi,a⟩:=Qv b;exact(hb i).1 a;cases h0
def Zy3{c:Cust}{v:List Visit}(hm:CustMade c n)(z:c.kind=1)(hn:n<=7)(hp:0<=pr/\pr<=4294967296)(hg:GoodV n v)(w:vY v)(f:∀s∈v,s.q<=cap)(h0:JX c v=0):
  (uY c cap (List.replicate n pr)).2=true/\YO (List.replicate n pr) (uY c cap (List.replicate n pr)).1<=pr*v.length:=by
 obtain⟨g,p,e,h⟩:=lG w (λs hs=>by have:=(hg.ok s hs).1;omega) h0;have x:v.length=(yC p 0 64).length:=by rw[<-h,List.length_map]
 have k:p∈j8 c cap:=by
  unfold j8;refine AX.2 ⟨e,?_⟩;obtain _|⟨s,v⟩:=v;have m:ZQ (yC p 0 64)=0:=by rw[<-h];rfl
  rw[Zw5 p (hm.J p e)]at m;simp[m];have h1:=g s EB;have h2:=f s EB;simp;omega
 obtain⟨i,hi,y⟩:=CR k;have a:∀q∈c.J,YM (List.replicate n pr) q=pr*((yC q 0 64).length:Nat):=λq hq=>by unfold YM;exact Zy1 hp _ (λd hd=>by have:=(hm.per z).1 q hq d hd;obtain⟨j,rfl,-⟩:=Qv hd;omega) (XV _ _ _)
 obtain⟨m1,m2⟩:=GA (List.replicate n pr) (j8 c cap) (j8 c cap).length (Af _) EA;have o:=aJ (List.replicate n pr) (j8 c cap) (j8 c cap).length;have r:=m2 i hi;unfold uY;rw[if_neg (by have:=o.2.2 EA;omega)];refine⟨rfl,?_⟩;generalize (jH (List.replicate n pr) (j8 c cap) (j8 c cap).length)=b at *;have hb:=o.2.2 EA;have t:(j8 c cap).getD b.1.toNat 0∈c.J:=by rw[List.getD_eq_getElem?_getD,Ac EA];exact(AX.1 (AZ (l:=j8 c cap) (by omega:b.1.toNat<(j8 c cap).length))).1
 have e1:(j8 c cap).getD i 0=p:=by rw[List.getD_eq_getElem?_getD,Ac hi,Option.getD_some,y]
 rw[m1,a _ t,e1,a p e,<-x]at r;dsimp only;have u:=tj hm z t;rw[Gz hp _ (λs hs=>(u.ok s hs).1) u.len,Zy2];exact r
theorem GB(ps:List Nat):∀(k i:Nat),i<k->vV ps k<=Qz ((ps.getD i 0:Nat):Int)
 |0,_,h=>by omega
 |k+1,i,h=>by simp only[vV,Vf];by_cases e:i=k;subst e;split<;>omega;have:=GB ps k i EA;split<;>omega
def GD:∀p:Fin 128,Qz ((p.val:Nat):Int)=(((yC p.val 0 64).length:Nat):Int):=by decide +kernel
theorem GE{ps:List Nat}(h:∀p∈ps,p<128):∀k:Nat,k<=ps.length->0<=vV ps k
 |0,_=>Cc _
 |k+1,b=>by
  have c:=GE h k EA;have a:ps.getD k 0<128:=by rw[List.getD_eq_getElem?_getD,Ac EA];exact h _ (AZ _)
  have:=GD ⟨ps.getD k 0,a⟩;simp only at this;simp only[vV,Vf];split<;>omega
def Zy4{c:Cust}(hm:CustMade c n)(b:c.kind=1)(hn:n<=7):∀p∈c.J,p<128:=λp a=>by have h1:=Fa (hm.J p a) ((hm.per b).1 p a);have h2:2^n<=2^7:=BL EH hn;omega
def uI(r:Int):Int->Nat->Int
 |_,0=>0
 |t,k+1=>qk (t-r) 0+uI r (t-r) k
theorem GF(r:Int):∀(k:Nat) (t:Int),uI r t (k+1)=uI r t k+qk (t-r*k-r) 0
 |0,t=>by simp[uI]
 |k+1,t=>by
  rw[uI,GF r k (t-r)];have e:t-r-r*(k:Int)-r=t-r*((k+1:Nat):Int)-r:=by rw[ww];omega
  rw[e];simp only[uI];omega
def Wj(a b:Int):a<=qk a b/\b<=qk a b/\(qk a b=a\/qk a b=b):=by unfold qk;split<;>omega
theorem GG{c:Cust}(hc:CustFits c):∀k:Nat,k<=7->Qy c k=(uI c.D c.H k,c.H-c.D*k)/\0<=uI c.D c.H k/\uI c.D c.H k<=2147483648*k
 |0,_=>by simp[Qy,uI]
 |k+1,b=>by obtain⟨h1,h2,h3⟩:=GG hc k EA;have a:=hc.D;have hs:=hc.H;have d:0<=c.D*(k:Int)/\c.D*(k:Int)<=2147483648*7:=⟨Bc a.1 EA,Bm a.2 EA EA EA⟩;have hm:=Wj (c.H-c.D*k-c.D) 0;rw[GF];simp only[Qy,h1];rw[wW (c.H-c.D*k-c.D) EA EA,wW _ EA EA];refine⟨?_,by omega,by omega⟩;rw[ww];congr 1;omega
theorem GI:∀{q:List Int} {there t0:Int} {l:List Int},yk size cap there q=some l->(∀z∈q,0<=z)->t0<=there->uI cap t0 q.length<=l.sum
 |[],there,t0,l,h,_,_=>by simp only[yk,Option.some.injEq]at h;subst h;simp[uI]
 |z::q,there,t0,l,h,a,c=>by obtain⟨ns,rfl,h',h1,h2⟩:=eJ h;have d:=a z EB;have e:=GI (t0:=t0-cap) h' (λw b=>a w (by simp[b])) EA;have hm:=Wj (t0-cap) 0;simp only[Ab,uI,AL];omega
def Zy5{c:Cust}(K:FilK c n pr){l:List Int}(h:yk c.size c.D c.H Q=some l)(hl:Q.length=n)(e:∀z∈Q,0<=z):J1 c n<=xQ c l/\0<=J1 c n/\J1 c n<=1024*(2147483648*7):=by obtain⟨f,g,i⟩:=lF K h hl;obtain⟨k1,b,j⟩:=GG K.Z n K.n7;have k:=K.n7;have d:=GI h e (Cc _);rw[hl]at d;have a:=K.U;have m:0<=c.U*uI c.D c.H n/\c.U*uI c.D c.H n<=1024*(2147483648*7):=⟨Bc a.1 b,Bm a.2 EA b EA⟩;have e2:c.U*uI c.D c.H n<=c.U*l.sum:=B0 d a.1;unfold J1;rw[k1];dsimp only;rw[wW _ EA EA,f];omega
theorem GJ(h1:1<=n):∀k:Nat,k<=n->Jc (List.replicate n pr) k=pr
 |0,_=>eM (n:=n) (d:=0) h1
 |k+1,a=>by rw[Jc,GJ h1 k EA,eM EA];unfold qj;split<;>rfl
theorem GK:∀{q:List Int} {there:Int} {l:List Int},yk size d there q=some l->0<=there->∀z∈q,z<=size
 |[],_,_,_,_=>by simp
 |z::q,there,l,h,h0=>by obtain⟨ns,rfl,h',h1,h2⟩:=eJ h;have b:=GK h' EA;intro w a;obtain rfl|a:=Al.1 a;omega;exact b w a
structure CuV (c:Cust) (n:Nat) (cap:Int) (v:List Visit):Prop where
 aa:CustMade c n
 n1:1<=n
 n7:n<=7
 kind:(∃d,EX c d)\/EY c
 ai:GoodV n v
 ak:vY v
 len:v.length<=n
 capq:∀s∈v,s.q<=cap
 cap0:0<=cap
 ab:if c.kind=2 then uz c (z8 v n)=0 else JX c v=0
theorem CuV.filK{c:Cust}{v:List Visit}(h:CuV c n cap v)(a:0<=pr/\pr<=4294967296):FilK c n pr:=by refine⟨h.aa.Z,h.n7,a,?_⟩;obtain⟨d,-,-,-,-,-,-,-,-,k⟩|⟨-,-,-,-,-,k,-⟩:=h.kind;omega;exact k
theorem CuV.tank{c:Cust}{v:List Visit}(h:CuV c n cap v)(g:c.kind=2):∃l,yk c.size c.D c.H (z8 v n)=some l/\(yS c (z8 v n)).1=l/\Qs (z8 v n)/\(z8 v n).length=n/\0<=c.H+(v.map (·.q)).sum-c.D*n/\∀s∈v,s.q<=c.size:=by
 have hm:=h.ab;rw[if_pos g]at hm;obtain⟨l,e,e2,-⟩:=Gx hm;have j:=h.n7;have b:=Yk v (show n<=60 by omega);have d:=h.aa.Z.H.1;have a:=Gi e d;have i:(z8 v n).sum=(v.map (·.q)).sum:=by rw[ZyM v n EA];exact Gj n v λs hs=>(h.ai.ok s hs).1
 rw[i,b]at a;refine⟨l,e,e2,kM h.ai h.ak,b,a.1,λs hs=>?_⟩;have f:=kH h.ai (show n<=60 by omega) h.ak;rw[<-f]at hs;exact GK e d _ (Ev _ _ s hs).2
theorem CuV.forced{c:Cust}{v:List Visit}(h:CuV c n cap v):0<=je c n cap/\je c n cap<=v.length:=by
 have q:=h.n7;obtain⟨d,k,-⟩|⟨k,-⟩:=h.kind;have hm:=h.ab;rw[if_neg EA]at hm;have a:=Zy4 h.aa k q;obtain⟨-,p,j,r⟩:=lG h.ak (λs hs=>by have:=(h.ai.ok s hs).1;omega) hm;unfold je;rw[if_pos k];refine⟨GE a _ (Af _),?_⟩;obtain⟨i,hi,e⟩:=CR j;have h1:=GB c.J c.J.length i hi;rw[List.getD_eq_getElem?_getD,Ac hi,Option.getD_some,e]at h1;have h2:=GD ⟨p,a p j⟩;simp only at h2;rw[<-r,List.length_map]at h2;omega;obtain⟨l,-,-,-,-,hs,f⟩:=h.tank k;have hl:=h.len;refine⟨?_,ZyS k h.aa.Z EA hl (λs hs=>⟨(h.ai.ok s hs).2.1,h.capq s hs,f s hs⟩) hs⟩;unfold je;rw[if_neg EA];have y:=h.aa.Z.D;have t:=h.aa.Z.H;have o:0<=c.D*n/\c.D*n<=2147483648*7:=⟨Bc EA EA,Bm EA EA EA EA⟩;have u:W (c.D*n)=c.D*n:=wW _ EA EA;have w2:W (c.D*n-c.H)=c.D*n-c.H:=wW _ EA EA;have g:0<=vq c n/\vq c n<=2147483648*7:=by unfold vq;rw[u,w2];have:=Wj (c.D*n-c.H) 0;omega
 generalize vq c n=w at *;split;omega;split;omega;rename_i z q2;have x:1<=qj cap c.size:=EA;generalize qj cap c.size=m at *;have hc:0<=vp w m:=by have b:0<=w/m/\w/m<=w:=⟨Ee g.1 EA,Dq _ g.1⟩;have o:w.tdiv m=w/m:=Bx g.1;unfold vp;rw[o,wW (w/m) EA EA,wW (w/m+1) EA EA];split<;>omega
 unfold qj;split<;>omega
theorem CuV.must{c:Cust}{v:List Visit}(h:CuV c n cap v):uA c n cap<=(v.map (·.q)).sum:=by
 have j:=h.n7;have hf:=h.forced;have hl:=h.len;obtain⟨d,k,⟨m,f⟩,-⟩|⟨k,-⟩:=h.kind;have hm:=h.ab;rw[if_neg EA]at hm;obtain⟨e,-⟩:=lG h.ak (λs hs=>by have:=(h.ai.ok s hs).1;omega) hm;have key:∀v:List Visit,(∀s∈v,s.q=c.R)->(v.map (·.q)).sum=c.R*v.length:=by
  intro v;induction v with
  |nil=>intro _;simp
  |cons s v a =>
  intro hs;rw[Ap,AL,a λt b=>hs t (by simp[b]),Ab,ww,hs s EB];omega
 have g:0<=je c n cap*c.R/\je c n cap*c.R<=7*2147483648:=⟨Bc hf.1 EA,Bm EA f EA EA⟩;unfold uA;rw[if_pos k,wW _ EA EA,key v e,CW];exact B0 hf.2 EA;obtain⟨l,-,-,-,-,hs,-⟩:=h.tank k;have o:=h.aa.Z.D;have i:=h.aa.Z.H;have g:0<=c.D*n/\c.D*n<=2147483648*7:=⟨Bc EA EA,Bm EA EA EA EA⟩;have e:0<=(v.map (·.q)).sum:=by
  have key:∀v:List Visit,(∀s∈v,1<=s.q)->0<=(v.map (·.q)).sum:=by
   intro v;induction v with
   |nil=>intro _;simp
   |cons s v a =>
   intro hs;have h1:=hs s EB;have h2:=a λt b=>hs t (by simp[b]);rw[Ap,AL];omega
  exact key v λs hs=>(h.ai.ok s hs).2.1
 unfold uA vq;rw[if_neg EA,wW (c.D*n) EA EA,wW (c.D*n-c.H) EA EA];have:=Wj (c.D*n-c.H) 0;omega
theorem CuV.bound{c:Cust}{v:List Visit}(h:CuV c n cap v)(b:0<=pr/\pr<=4294967296):
  Yi n cap c (List.replicate n pr)<=pr*v.length+(if c.kind=2 then xQ c (yS c (z8 v n)).1 else 0):=by
 have o:=h.n7;have K:=h.filK b;have hm:=h.ab;obtain⟨d,k,-⟩|⟨k,-,-,⟨-,e⟩,s,-⟩:=h.kind;rw[if_neg EA]at hm ⊢;obtain⟨f,m⟩:=Zy3 h.aa k o b h.ai h.ak h.capq hm;have g:qJ n cap c (List.replicate n pr)=uY c cap (List.replicate n pr):=by unfold qJ;rw[if_pos k]
 unfold Yi Zu;rw[g,if_pos ⟨.inl k,f⟩,if_pos k];omega;rw[if_pos k]at hm ⊢;by_cases a:c.Y=1;obtain⟨f,m⟩:=Zy0 K e a EA h.ai h.ak h.capq h.cap0 hm;have g:qJ n cap c (List.replicate n pr)=uZ c n cap (List.replicate n pr):=by unfold qJ;rw[if_neg EA,if_pos a]
 unfold Yi;rw[g,if_pos ⟨.inr a,f⟩];exact m;obtain⟨l,p,e2,i,j,-,-⟩:=h.tank k;obtain⟨k1,t,u⟩:=Zy5 K p j λz r=>(i z r).1;have hf:=h.forced;have hl:=h.len;have w:0<=je c n cap*pr/\je c n cap*pr<=7*4294967296:=⟨Bc hf.1 b.1,Bm EA b.2 b.1 EA⟩;have x:je c n cap*pr<=pr*v.length:=by rw[CW];exact B0 hf.2 b.1
 unfold Yi aT;rw[if_neg (λq=>by obtain q|q:=q.1<;>omega),if_pos k,GJ h.n1 n (Af n),wW (je c n cap*pr) EA EA,wW _ EA EA,e2];omega
def Zy6(k:Nat)(u:UInt8)(l:List UInt8):yl (List.replicate (k+1) (U8 0)++l.map U8) k [U8 u]=List.replicate k (U8 0)++(u::l).map U8:=by
 have e:List.replicate (k+1) (U8 0)++l.map U8=List.replicate k (U8 0)++(U8 0::l.map U8):=by rw[Dt];simp
 unfold yl;rw[e,D7 EB,CG,AT EB];simp
def Wl(m:Nat)(hm:m<9223372036854775808):PP 40 [I m] (T (bs (zH m))):=by
 have a:=aQ m 18 EA;have c1:IntKind.u64.wrap (m:Int)=m:=by rw[IntWalk.u64_in _ EA]
 have c2:¬(m:Int)<0:=EA;refine zt func40 ntmps40 results40 λS nx hd=>?_;refine EK ?_;refine EK ?_;intro v0;refine aF [] c1 ?_;repeat apply za
 refine zb ?_;refine aC ?_;have t:qw 20 (.int .u8 0)=List.replicate 20 (U8 0)++([]:List UInt8).map U8:=rfl;refine za (qT (nx:=nx) (σ:=List UInt8) (λl=>zH m=l) (λl=>[(0,I m),(3,.ptr nx v0 0),(5,I ((20-l.length:Nat):Int))]) (λ_=>S) (λl=>[.cells v0 119 (List.replicate (20-l.length) (U8 0)++l.map U8)]) ?_ ?_);refine zj (zC (λs:Nat × List UInt8=>zH m=zH s.1++s.2/\s.1<=m) (λ(r,l)=>[(0,I m),(3,.ptr nx v0 0),(4,U r),(5,I ((20-l.length:Nat):Int))]) (λ(r,l)=>[.cells v0 119 (List.replicate (20-l.length) (U8 0)++l.map U8)]) (λs=>s.1) (m,[]) [] EB EB (by simp[t]) ?_);rintro⟨r,l⟩ ⟨v,w⟩;simp only at v w ⊢;have a0:(zH r).length+l.length<=19:=by rw[v,Ak]at a;exact a
 have a1:1<=(zH r).length:=BD.2 (aP r);obtain⟨s1,s2⟩:=Zyk v;have hu:=QA (k:=r%10) EA;obtain⟨k,x⟩:∃k,20-l.length=k+1:=⟨19-l.length,by omega⟩;have n:=Zy6 k (UInt8.ofNat (48+r%10)) l;generalize UInt8.ofNat (48+r%10)=u at *;have e1:((r:Int)).tmod 10=((r%10:Nat):Int):=by rw[AY EA];omega
 have e2:((r:Int)).tdiv 10=((r/10:Nat):Int):=by rw[Bx EA];omega
 have f:r/10<=r/\(r/10=0<->r<10)/\(¬r<10->r/10<r):=EA;have y:r%10<10:=EA;generalize r%10=d at *;generalize r/10=q at *;have w0:IntKind.i64.wrap (((k+1:Nat):Int)-1)=(k:Int):=by rw[AD];omega
 have w1:IntKind.u64.wrap (48+(d:Int))=(u.toNat:Int):=by rw[IntWalk.u64_in _ EA,hu];rfl
 have w2:=km u.toNat EA;have w3:IntKind.u64.wrap (q:Int)=q:=by rw[IntWalk.u64_in _ EA]
 have o:k<20:=EA;have z:IntKind.i64.wrap (k:Int)=k:=wr _ EA EA;have w5:(k:Int)<20:=EA;rw[x];refine zj (aF [] (zn w0 z) ?_);refine aF [] (zU e1 w1 w2 o z (zn w5 n)) ?_;refine aF [] (zn e2 w3) ?_;refine EK ?_;have p:20-(u::l).length=k:=EF;have g:19-l.length=k:=EA;by_cases c:r<10;have j:q=0:=f.2.1.2 c;refine zm (by simp[j]) ?_;exact zx (yb (u::l) [] (s1 c) (by simp[g]) rfl (by simp only[p,AA,Ap]));have j:¬q=0:=λh=>c (f.2.1.1 h);refine zk (by simp[j]) ?_;exact zh (zr (q,u::l) [] ⟨s2 c,by omega⟩ EA (by simp[g]) rfl (by simp only[p,AA,Ap]));rintro l hl;rw[hl]at a ⊢;have a2:1<=l.length:=by rw[<-hl];exact BD.2 (aP m)
 clear hl;obtain⟨k,x⟩:∃k,20-l.length=k:=⟨_,rfl⟩;rw[x];repeat apply za
 refine zb ?_;refine aC (EK ?_);refine λb=>ZvZ (k:=k) (m:=20) (id:=nx) (ver:=v0) rfl underlying119 EB rfl rfl EA EA (by rw[Zg];rfl) EA ?_;refine⟨_,_,rfl,zO b ?_⟩;refine λb=>tJ (e:=5) (l:=l) (off:=k) (id:=nx) (ver:=v0) rfl EB EB EB EF (by rw[Zg];rfl) (λi u h=>by rw[Am EB,Cf,AM,Ai,h];rfl) EA ?_;refine⟨_,_,rfl,zO b ?_⟩;exact EL hd
def Zy7(w:Wd)(c:w.length<=20)(m:Nat)(hm:m<9223372036854775808):PP 38 [T (bs w),I m] (T (bs (zP [w,zH m]++[10]))):=by have a:=Wl m hm;have d:=xI (n:=m) EA;have hl:PP 37 [.lst 2 [T (bs w),T (bs (zH m))]] (T (bs (zP [w,zH m]++[10]))):=X1 [w,zH m] EB (by simp[zP];omega);generalize zP [w,zH m]++[10]=r at *;generalize zH m=dm at *;refine zt func38 ntmps38 results38 λS nx b=>?_;refine EK ?_;refine EK ?_;refine zq a ?_;refine zq hl ?_;exact EL b
def GL(z:Int)(h1:0<=z)(h2:z<=1000000000000000000):PP 67 [I z] (B true):=by refine zt func67 ntmps67 results67 λS nx a=>?_;refine EK ?_;refine aF [(2,5)] (zn h1 h2) ?_;exact EL a
def GM(z:Int)(h0:0<=z)(h:z<=1000000000000000000):PP 40 [I z] (T (bs (zz z))):=by have:=Wl z.toNat EA;rwa[CF h0]at this
theorem GN{x:Stop × Nat}:∀{p:zy} {i:Nat},x∈told i p->∃d∈p,∃t∈d,x.1∈t
 |[],_,h=>by simp[told]at h
 |d::p,i,h=>by simp only[told,AB,Aj,Bd]at h;obtain⟨s,⟨t,a,hs⟩,rfl⟩|h:=h;exact⟨d,by simp,t,a,hs⟩;obtain⟨b,c,q⟩:=GN h;exact⟨b,by simp[c],q⟩
def eN{a b c d e A B:Ob}:((ext S nx (a::b::c::d::e::obs)).set (nx+4) B).set (nx+3) A=ext S nx (a::b::c::A::B::obs):=by rw[yi _ EA EB,yi _ EA EB];simp
def GO(w:Wd)(a:w.length<=20)(n:Nat)(hn:n<=1000):PP 37 [.lst 2 [T (bs w),T (bs (zH n))]] (T (bs (zP [w,zH n]++[10]))):=by have b:=xI (n:=n) EA;exact X1 [w,zH n] EB (by simp[zP];omega)
def Zy8(p:zy)(o:PlanTold p):PP 41 [.agg [L p]] (.tup [T (bs (zN (yR p))),I 0]):=by
 have f3:=eG o;have z:zN (yR p)=(zP [ji,zH p.length]++[10])++zN (p.flatMap xW):=by unfold yR;rw[vW];simp
 generalize zN (yR p)=Z at *;have a8:∀x∈told 0 p,(0<=x.1.c/\x.1.c<=1000000000000000000)/\0<=x.1.q/\x.1.q<=1000000000000000000:=λx hx=>by obtain⟨d,hd,t,ht,hs⟩:=GN hx;exact o.s d hd t ht _ hs
 have hn:=o.n;have a0:∀(S:Store) (nx b wx:Nat) (pp:PV) (l m:List UInt8),l.length+m.length<=Z.length->S (nx+3)=.cells b 79 [pp,.sl (nx+4) wx 1 0 l.length]->(pp=.sc (.pointer none)\/pp=.ptr (nx+3) b 0)->S (nx+4)=.cells wx 5 (l.map U8)->_:=λS nx b wx pp l m hl h1 o h2=>dX (S:=S) (id:=nx+3) (v:=b) (ib:=nx+4) (w0:=wx) (p:=pp) l m h1 o h2 EA;have d0:=Wl p.length EA;have d1:=GO ji EH p.length hn;have a9:zP [ji,zH p.length]++[10]≠[]:=EB;generalize zP [ji,zH p.length]++[10]=l0 at *;generalize zH p.length=dp at *;refine zt func41 ntmps41 results41 λS nx hd=>?_;refine EK ?_;intro v0 v1 r;repeat apply za
 refine zb ?_;refine zq (rL p) ?_;refine zj (Xw (xs:=(told 0 p).map XP) (σ:=Unit) (λi s=>i<=(told 0 p).length) [(1,.ptr nx v0 0),(2,.ptr (nx+1) v1 0),(3,.ptr (nx+2) r 0)] (λ_=>S)
  (λ_=>[.cells v0 31 [L p],.cells v1 9 [T (bs [])],.cells r 49 [I 0]]) ()
  (rM p EA (λd hd=>by have:=o.d d hd;omega) (λd hd t ht=>by have:=o.t d hd t ht;omega)) rfl (by intro x hx;obtain⟨y,_,rfl⟩:=Aj.1 hx;rfl) EH EB EB rfl EB EB ?_ ?_)
 rintro l i ⟨⟩ more x hi hx;rw[Ai]at hx;obtain⟨y,hy,rfl⟩:=An.1 hx;obtain⟨s,d⟩:=y;obtain⟨⟨c1,c2⟩,q1,q2⟩:=a8 _ (Aa hy);have d2:i<(told 0 p).length:=(Ad.1 hy).1;have hc:=GL s.c c1 c2;have hq:=GL s.q q1 q2;refine xZ [] EG EG λK Gc Gh hK d3 d4 X b7 hX=>?_;simp -implicitDefEqProofs [b7,hX,XP];try clear b7 hX X
 intro v4;refine hK _ _ _ ?_;clear hK d3 d4;clear K Gc Gh;refine zj (aF [(5,21)] trivial ?_);refine yP [(5,21)] hc trivial ?_;refine yP [(5,21)] hq trivial ?_;refine aC ?_;simp only[xh];exact vK () [_] d2 rfl EC;rintro⟨⟩ -;refine EK ?_;intro b;refine qy 3 1 5 1 rfl rfl λwb=>?_;refine EK ?_;refine zq d0 ?_;refine zq d1 ?_;refine λa=>((a0 _ nx b wb _ [] l0 (by rw[z];simp) (by rw[zS];rfl) (.inl rfl) (by rw[zS];rfl)).mono ?_).v;rintro _ _ ⟨rfl,rfl⟩;refine⟨_,_,eN,zO a ?_⟩;repeat apply za
 refine zb ?_;refine zj (zC (λs:Nat × Nat × List UInt8=>s.1<=p.length/\Z=s.2.2++zN ((p.drop s.1).flatMap xW)) (λ(k,w,c)=>[(1,.ptr nx v0 0),(2,.ptr (nx+1) v1 0),(3,.ptr (nx+2) r 0),(5,.ptr (nx+3) b 0),(36,L p),(37,I p.length),(38,I k)]) (λ(k,w,c)=>[.cells v0 31 [L p],.cells v1 9 [T (bs [])],.cells r 49 [I 0],.cells b 79 (QD (nx+3) b (nx+4) w c.length),.cells w 5 (c.map U8)]) (λs=>p.length-s.1) (0,wb+1,l0) [] (by simp[z]) EB EB ?_);rintro⟨k,w,c⟩ ⟨hk,hZ⟩;simp only at hk hZ ⊢;refine EK ?_;refine za (zv rfl (λhc=>?_) (λhc=>?_));simp at hc;obtain⟨d,tl,a1,a2,a3,f0⟩:=zF rfl p k hc;have a4:=Aa a1;have d5:=o.d d a4;have d6:=Wl d.length EA;have d7:=GO qv EH d.length d5;have g:Z=(c++(zP [qv,zH d.length]++[10]))++(zN (d.map ju)++zN ((p.drop (k+1)).flatMap xW)):=by rw[hZ,a2,Ax,Vx];unfold xW;rw[vW];simp
 generalize zP [qv,zH d.length]++[10]=l1 at *;generalize zH d.length=dd at *;obtain⟨R,hR⟩:∃R,R=zN ((p.drop (k+1)).flatMap xW):=⟨_,rfl⟩;rw[<-hR]at g;clear hZ;refine zh (aA (aF [] (zn f0 hc) ?_));intro v7;refine EK ?_;refine zq d6 ?_;refine zq d7 ?_;refine λa=>((a0 _ nx b w _ c l1 (by rw[g];simp) (by rw[zS];rfl) (.inr rfl) (by rw[zS];rfl)).mono ?_).v;rintro _ _ ⟨rfl,rfl⟩;obtain⟨c1,b8⟩:∃c1,c1=c++l1:=⟨_,rfl⟩;rw[<-b8]at g ⊢;refine⟨_,_,eN,zO a ?_⟩;refine EK ?_;refine zj (zC (λs:Nat × Nat × List UInt8=>s.1<=d.length/\Z=s.2.2++(zN ((d.drop s.1).map ju)++R)) (λ(j,w,c)=>[(1,.ptr nx v0 0),(2,.ptr (nx+1) v1 0),(3,.ptr (nx+2) r 0),(5,.ptr (nx+3) b 0),(36,L p),(37,I p.length),(38,I k),(50,L d),(51,I d.length),(52,I j)]) (λ(j,w,c)=>[.cells v0 31 [L p],.cells v1 9 [T (bs [])],.cells r 49 [I 0],.cells b 79 (QD (nx+3) b (nx+4) w c.length),.cells w 5 (c.map U8),.cells v7 96 [L d]]) (λs=>d.length-s.1) (0,w+1,c1) [] (by simp[g]) EB EB ?_);clear g b8;rintro⟨j,w,c⟩ ⟨hj,a5⟩;simp only at hj a5 ⊢;refine EK ?_;refine za (zv rfl (λe=>?_) (λe=>?_));simp at e;obtain⟨t,f4,b1,b2,b3,e2⟩:=zF rfl d j e;have c6:=Aa b1;have d8:=o.t d a4 t c6;have c7:=o.s d a4 t c6;have c8:=Wl t.length EA;have d9:PP 37 [L ((ju t).map bs)] (T (bs (zP (ju t)++[10]))):=X1 (ju t) (by rw[eF];omega) (by have:=FJ d8 c7;omega);have a6:Z=(c++(zP (ju t)++[10]))++(zN ((d.drop (j+1)).map ju)++R):=by rw[a5,b2,Ap,vW];simp
 refine zh (aA (aF [] (zn e2 e) ?_));intro v9;refine za (cC EG ?_);simp only[];refine lr EC ?_;refine ZyI (p:=L t) (by simp[Zg,zS]) ?_;refine lr EC ?_;refine FU (Jv (k:=40) (fs:=[]) (cs:=[]) rfl rfl EB (c8 S).1 (by exact(c8 _).2) ?_);rintro _ _ ⟨rfl,rfl⟩;refine⟨_,_,rfl,?_⟩;refine FU (ZyH (nx+7) (by rw[zS];rfl) rfl underlying52 EB EA EA (cs:=[T (bs wB),T (bs (zH t.length))]) (by simp[Ys,Y2]) rfl λv=>⟨S,_,jE _,?_⟩);refine lr EC ?_;simp only[];repeat apply za
 refine zb ?_;refine zj (zC (λs:Nat × Nat × Ln=>s.1<=t.length/\s.2.2.length=2+2*s.1/\ju t=s.2.2++(t.drop s.1).flatMap λs=>[zz s.c,zz s.q]) (λ(i,w7,ls)=>[(1,.ptr nx v0 0),(2,.ptr (nx+1) v1 0),(3,.ptr (nx+2) r 0),(5,.ptr (nx+3) b 0),(36,L p),(37,I p.length),(38,I k),(50,L d),(51,I d.length),(52,I j),(10,.sl (nx+7) w7 1 0 ls.length),(62,L t),(63,I t.length),(64,I i)]) (λ(i,w7,ls)=>[.cells v0 31 [L p],.cells v1 9 [T (bs [])],.cells r 49 [I 0],.cells b 79 (QD (nx+3) b (nx+4) w c.length),.cells w 5 (c.map U8),.cells v7 96 [L d],.cells v9 99 [L t],.cells w7 9 ((ls.map bs).flatMap Enc.enc)]) (λs=>t.length-s.1) (0,v,[wB,zH t.length]) [] (by simp[ju]) EB EB ?_);rintro⟨i,w7,ls⟩ ⟨hi,e0,hT⟩;simp only at hi e0 hT ⊢;refine EK ?_;refine za (zv rfl (λf=>?_) (λf=>?_));simp at f;obtain⟨s,f5,s1,s2,s3,-,e3⟩:=el 2 rfl t i f;obtain⟨⟨p1,p2⟩,p3,p4⟩:=c7 s (Aa s1);have e1:=GM s.c p1 p2;have e4:=GM s.q p3 p4;have e5:((ls.map bs).flatMap Enc.enc:List PV).length=ls.length:=by rw[xz];simp[Enc.sz]
 have a7:List.take ls.length ((ls.map bs).flatMap Enc.enc:List PV)=(ls.map bs).flatMap Enc.enc:=Ae (by rw[e5];exact Af _);have e6:((ls++[zz s.c,zz s.q]).map bs).flatMap Enc.enc=(ls.map bs).flatMap Enc.enc++[T (bs (zz s.c)),T (bs (zz s.q))]:=by rw[List.map_append,Ar];rfl
 have u:(ls++[zz s.c,zz s.q]).length=ls.length+2:=EB;have e7:ju t=(ls++[zz s.c,zz s.q])++(t.drop (i+1)).flatMap λs=>[zz s.c,zz s.q]:=by rw[hT,s2];simp
 refine zh (aA (aF [] (zn e3 f) ?_));intro f6;refine zA (some [nx+8]) RM mixed a7 ?_;refine zJ (e1) a7 ?_;refine zJ (e4) a7 ?_;refine⟨by omega,?_⟩;refine zb ?_;exact zr (i+1,w7+1,ls++[zz s.c,zz s.q]) [_] ⟨f,by simp only[u];omega,e7⟩ EA (by simp[zu i EA,u]) rfl (by simp only[e6];rfl);simp at f;obtain rfl:i=t.length:=EA;have e8:ls=ju t:=by rw[hT];simp
 clear hT;subst e8;refine zx (zY 7 rfl ?_);obtain⟨c2,h⟩:∃c2,c2=c++(zP (ju t)++[10]):=⟨_,rfl⟩;rw[<-h]at a6;generalize ju t=ls at *;have e9:PV.lst ls.length ((ls.map bs).flatMap Enc.enc)=L (ls.map bs):=by unfold L;rw[List.length_map]
 generalize zP ls++[10]=l2 at *;refine ze [] e9 ?_;refine zq d9 ?_;refine λa=>((a0 _ nx b w _ c l2 (by rw[a6,h];simp) (by rw[zS];rfl) (.inr rfl) (by rw[zS];rfl)).mono ?_).v;rintro _ _ ⟨rfl,rfl⟩;rw[<-h];refine⟨_,_,eN,zO a ?_⟩;refine zb ?_;exact zr (j+1,w+1,c2) [_,_] ⟨e,a6⟩ EA (by simp[zu j EA]) rfl rfl;simp at e;obtain rfl:j=d.length:=EA;refine zx (zb ?_);exact zr (k+1,w,c) [_] ⟨hc,by rw[a5,hR];simp[zN]⟩ EA (by simp[zu k EA]) rfl rfl;simp at hc;obtain rfl:k=p.length:=EA;refine zx ?_;have f1:c=Z:=by rw[hZ];simp[zN]
 subst f1;have f2:c≠[]:=by rw[z];simp[a9]
 refine EK ?_;refine λa=>((aR (id:=nx+3) (v:=b) (ib:=nx+4) (w0:=w) (p:=.ptr (nx+3) b 0) c (by rw[zS];rfl) (by rw[zS];rfl) f2 EA).mono ?_).v;rintro _ _ ⟨rfl,rfl⟩;rw[yi _ EA EB];refine⟨_,_,rfl,zO a ?_⟩;exact EL hd
structure RepTold (r:Rep):Prop where
 b:0<=r.bound/\r.bound<=9223372036854775807
 c:0<=r.cost/\r.cost<=9223372036854775807
 h:0<=r.U/\r.U<=9223372036854775807
 n:r.days.length<=1000
 d:∀z∈r.days,0<=z/\z<=9223372036854775807
 p:PlanTold r.ae
def Zy9(z:Int)(h0:0<=z/\z<=9223372036854775807):PP 40 [I z] (T (bs (zz z))):=by have:=Wl z.toNat EA;rwa[CF h0.1]at this
def eO(w:Wd)(a:w.length<=20)(z:Int)(h0:0<=z/\z<=9223372036854775807):PP 38 [T (bs w),I z] (T (bs (zP [w,zz z]++[10]))):=by have:=Zy7 w a z.toNat EA;rwa[CF h0.1]at this
def GQ(w v:Wd)(a:w.length<=20)(hv:v.length<=20):PP 37 [.lst 2 [T (bs w),T (bs v)]] (T (bs (zP [w,v]++[10]))) :=
 X1 [w,v] EB (by simp[zP];omega)
def Vz{a d e A B:Ob}:((ext S nx (a::d::e::obs)).set (nx+2) B).set (nx+1) A=ext S nx (a::A::B::obs):=by rw[yi _ EA EB,yi _ EA EB];simp
def Zza(a b c:Int)(ds:List Int)(p:zy)(e:0<=a/\a<=9223372036854775807):PP 9 [.agg [I 3,I a,I b,I c,L ds,L p]] (T (bs (zN [[jV,Z0],[xV,zz a]]))):=by
 have hl:=GQ jV Z0 EH EH;have hn:=eO xV EH a e;have d:=wX (z:=a) (by unfold zL;omega);have f:zN [[jV,Z0],[xV,zz a]]=(zP [jV,Z0]++[10])++(zP [xV,zz a]++[10]):=by simp[zN]
 have hs:=QB (zP [jV,Z0]++[10]) (zP [xV,zz a]++[10]) (by simp[zP];omega);rw[f];generalize zP [jV,Z0]++[10]=z at *;generalize zP [xV,zz a]++[10]=y at *;refine zt func9 ntmps9 results9 λS nx g=>?_;refine EK ?_;intro v0;repeat apply za
 refine zb ?_;refine zj (EK ?_);refine aE ?_;refine EK ?_;refine aE ?_;refine EK ?_;refine aD ?_;refine aG (some [nx]) RL mixed hs ?_;refine zJ (hl) hs ?_;refine zJ (hn) hs ?_;exact EL g
def GR(r:Rep)(h4:r.out=4)(h:RepTold r):PP 9 [.agg (Xg r)] (T (bs (zN (qg r)))):=by
 obtain⟨o,bd,co,ho,ds,p⟩:=r;obtain rfl:o=4:=h4;obtain⟨hb,hc,hh,hn,g,t⟩:=h;simp only at hb hc hh hn g t;have f:zN (qg ⟨4,bd,co,ho,ds,p⟩)=(zP [jV,ji]++[10])++((zP [xV,zz bd]++[10])++((zP [QK,zz co]++[10])++((zP [QL,zz ho]++[10])++(zN (jN ds)++zN (yR p))))):=by unfold qg;simp[vW,Vx]
 have d1:(zN (qg ⟨4,bd,co,ho,ds,p⟩)).length<=100000100500:=by
  have e1:=eG t;have e2:=We (ls:=jN ds) (m:=64) λl hl=>by
   obtain⟨i,hi,rfl⟩:=Aj.1 hl;have q1:=xI (n:=i) (by have:=AN.1 hi;omega);have q2:=wX (z:=ds.getD i 0) (by
    rw[List.getD_eq_getElem?_getD];cases e:ds[i]? with
    |none=>simp;unfold zL;omega
    |some z=>have:=g z (Aa e);simp;unfold zL;omega)
   generalize zz (ds.getD i 0)=u at *;generalize zH i=v at *;simp[zP];omega
  have e3:(jN ds).length=ds.length:=by simp[jN]
  have b1:=wX (z:=bd) (by unfold zL;omega);have b2:=wX (z:=co) (by unfold zL;omega);have b3:=wX (z:=ho) (by unfold zL;omega);rw[f];simp[zP];omega
 generalize zN (qg ⟨4,bd,co,ho,ds,p⟩)=Z at *;have a5:=GQ jV ji EH EH;have a6:=eO xV EH bd hb;have a7:=eO QK EH co hc;have a8:=eO QL EH ho hh;have a9:=Zy8 p t;have x:zP [jV,ji]++[10]≠[]:=EB;generalize zP [jV,ji]++[10]=l0 at *;generalize zP [xV,zz bd]++[10]=l1 at *;generalize zP [QK,zz co]++[10]=l2 at *;generalize zP [QL,zz ho]++[10]=l3 at *;generalize zN (yR p)=R at *;obtain⟨c1,e1⟩:∃c,c=l0++l1:=⟨_,rfl⟩;obtain⟨c2,e2⟩:∃c,c=c1++l2:=⟨_,rfl⟩;obtain⟨c3,e3⟩:∃c,c=c2++l3:=⟨_,rfl⟩;have j:Z=c1++(l2++(l3++(zN (jN ds)++R))):=by rw[f,e1];simp
 have q:Z=c2++(l3++(zN (jN ds)++R)):=by rw[j,e2];simp
 have y:Z=c3++(zN (jN ds)++R):=by rw[q,e3];simp
 have d:∀(S:Store) (nx b wx:Nat) (pp:PV) (l m:List UInt8),l.length+m.length<=Z.length->S (nx+1)=.cells b 79 [pp,.sl (nx+2) wx 1 0 l.length]->(pp=.sc (.pointer none)\/pp=.ptr (nx+1) b 0)->S (nx+2)=.cells wx 5 (l.map U8)->_:=λS nx b wx pp l m hl h1 t h2=>dX (S:=S) (id:=nx+1) (v:=b) (ib:=nx+2) (w0:=wx) (p:=pp) l m h1 t h2 EA;show Pure _ _ [.agg [I 4,I bd,I co,I ho,L ds,L p]] _;refine zt func9 ntmps9 results9 λS nx hd=>?_;refine EK ?_;intro v0;repeat apply za
 refine zb ?_;refine zj (EK ?_);refine aE ?_;refine EK ?_;refine aE ?_;refine EK ?_;refine aE ?_;refine EK ?_;refine aD ?_;refine EK ?_;intro b;refine qy 1 1 5 1 rfl rfl λwb=>?_;refine EK ?_;refine zq a5 ?_;refine λa=>((d _ nx b wb _ [] l0 (by rw[f];simp) (by rw[zS];rfl) (.inl rfl) (by rw[zS];rfl)).mono ?_).v;rintro _ _ ⟨rfl,rfl⟩;refine⟨_,_,Vz,zO a ?_⟩;refine EK ?_;refine zq a6 ?_;refine λa=>((d _ nx b (wb+1) _ l0 l1 (by rw[f];simp) (by rw[zS];rfl) (.inr rfl) (by rw[zS];rfl)).mono ?_).v;rintro _ _ ⟨rfl,rfl⟩;rw[<-e1];refine⟨_,_,Vz,zO a ?_⟩;refine EK ?_;refine zq a7 ?_;refine λa=>((d _ nx b (wb+1+1) _ c1 l2 (by rw[j];simp) (by rw[zS];rfl) (.inr rfl) (by rw[zS];rfl)).mono ?_).v;rintro _ _ ⟨rfl,rfl⟩;rw[<-e2];refine⟨_,_,Vz,zO a ?_⟩;refine EK ?_;refine zq a8 ?_;refine λa=>((d _ nx b (wb+1+1+1) _ c2 l3 (by rw[q];simp) (by rw[zS];rfl) (.inr rfl) (by rw[zS];rfl)).mono ?_).v;rintro _ _ ⟨rfl,rfl⟩;rw[<-e3];refine⟨_,_,Vz,zO a ?_⟩;repeat apply za
 refine zb ?_;have b7:∀k,k<ds.length->((List.range ds.length).drop k).map (λi=>[qv,zH i,zz (ds.getD i 0)])=[qv,zH k,zz (ds.getD k 0)]::((List.range ds.length).drop (k+1)).map (λi=>[qv,zH i,zz (ds.getD i 0)]):=λk hk=>by rw[AG (by simpa using hk)];simp
 refine zj (zC (λs:Nat × Nat × List UInt8=>s.1<=ds.length/\Z=s.2.2++(zN (((List.range ds.length).drop s.1).map (λi=>[qv,zH i,zz (ds.getD i 0)]))++R)) (λ(k,w,c)=>[(1,.ptr nx v0 0),(3,.ptr (nx+1) b 0),(44,L ds),(45,I ds.length),(46,I k)]) (λ(k,w,c)=>[.cells v0 33 [I 4,I bd,I co,I ho,L ds,L p],.cells b 79 (QD (nx+1) b (nx+2) w c.length),.cells w 5 (c.map U8)]) (λs=>ds.length-s.1) (0,wb+1+1+1+1,c3) [] (by simp[y,jN]) EB EB ?_);clear j q y e1 e2 e3;rintro⟨k,w,c⟩ ⟨hk,hZ⟩;simp only at hk hZ ⊢;refine EK ?_;refine za (zv rfl (λhc=>?_) (λhc=>?_));simp at hc;obtain⟨z,tl,a1,a2,a3,f0⟩:=zF rfl ds k hc;have hz:=g z (Aa a1);have b8:=Wl k EA;have c6:=Zy9 z hz;have c7:ds.getD k 0=z:=by rw[List.getD_eq_getElem?_getD,a1];rfl
 rw[b7 k hc,c7,vW]at hZ;have q1:=xI (n:=k) EA;have q2:=wX (z:=z) (by unfold zL;omega);have c8:PP 37 [.lst 3 [T (bs qv),T (bs (zH k)),T (bs (zz z))]] (T (bs (zP [qv,zH k,zz z]++[10]))):=X1 [qv,zH k,zz z] EB (by simp[zP];omega);obtain⟨c',e'⟩:∃c',c'=c++(zP [qv,zH k,zz z]++[10]):=⟨_,rfl⟩;have a0:Z=c'++(zN (((List.range ds.length).drop (k+1)).map (λi=>[qv,zH i,zz (ds.getD i 0)]))++R):=by rw[hZ,e'];simp
 generalize zP [qv,zH k,zz z]++[10]=ln at *;generalize zH k=dk at *;generalize zz z=dz at *;refine zh (aA (aF [] (zn f0 hc) ?_));refine zb ?_;refine zq b8 ?_;refine zq c6 ?_;refine zq c8 ?_;refine λa=>((d _ nx b w _ c ln (by rw[a0,e'];simp) (by rw[zS];rfl) (.inr rfl) (by rw[zS];rfl)).mono ?_).v;rintro _ _ ⟨rfl,rfl⟩;rw[<-e'];refine⟨_,_,Vz,zO a ?_⟩;refine zb ?_;exact zr (k+1,w+1,c') [] ⟨hc,a0⟩ EA (by simp[zu k EA]) rfl rfl;simp at hc;obtain rfl:k=ds.length:=EA;refine zx ?_;have a4:Z=c++R:=by rw[hZ,AT EB];simp[zN]
 clear hZ;have d0:Z≠[]:=by rw[f];simp[x]
 refine EK ?_;refine zq a9 ?_;refine EK ?_;refine λa=>((d _ nx b w _ c R (by rw[a4];simp) (by rw[zS];rfl) (.inr rfl) (by rw[zS];rfl)).mono ?_).v;rintro _ _ ⟨rfl,rfl⟩;rw[<-a4];refine⟨_,_,Vz,zO a ?_⟩;refine EK ?_;refine λa=>((aR (id:=nx+1) (v:=b) (ib:=nx+2) (w0:=w+1) (p:=.ptr (nx+1) b 0) Z (by rw[zS];rfl) (by rw[zS];rfl) d0 EA).mono ?_).v;rintro _ _ ⟨rfl,rfl⟩;rw[yi _ EA EB];refine⟨_,_,rfl,zO a ?_⟩;exact EL hd
def Zzb(x:Int):0<=Qz x/\Qz x<=127:=by
 have key:∀z:Int,0<=bits BinOp.and IntKind.i64 z 127/\bits BinOp.and IntKind.i64 z 127<=127:=λz=>by
  show 0<=IntKind.i64.wrap ((BitVec.ofInt 64 z &&& BitVec.ofInt 64 127).toNat:Int)/\IntKind.i64.wrap ((BitVec.ofInt 64 z &&& BitVec.ofInt 64 127).toNat:Int)<=127;have:(BitVec.ofInt 64 z &&& BitVec.ofInt 64 127).toNat<=127:=by rw[BitVec.toNat_and];exact Nat.and_le_right
  rw[AD];omega
 exact key _
theorem GS(ps:List Nat):∀k,0<=vV ps k/\vV ps k<=127
 |0=>by simp[vV]
 |k+1=>by have:=GS ps k;have:=Zzb (ps.getD k 0);unfold vV Vf;split<;>omega
def Zzc{c:Cust}(h:CustFits c){n:Int}(h1:1<=n)(hn:n<=60):0<=je c n cap/\je c n cap<=127:=by
 unfold je;split;exact GS _ _;split;omega;split;omega;rename_i hm;have e:=h.D;have hs:=h.H;have a:0<=vq c n/\vq c n<=1000000000000:=by have d:0<=c.D*n/\c.D*n<=2147483648*60:=⟨Bc EA EA,Bm EA hn EA EA⟩;have e2:W (c.D*n)=c.D*n:=wr _ EA EA;have b:W (c.D*n-c.H)=c.D*n-c.H:=wr _ EA EA;unfold vq qk;rw[e2,b];split<;>omega
 generalize vq c n=w at *;have hc:0<=vp w (qj cap c.size):=by
  generalize qj cap c.size=m at *;have d:0<=w.tdiv m/\w.tdiv m<=w:=by rw[Bx a.1];exact⟨Ee a.1 EA,Dq _ a.1⟩
  have e2:W (w.tdiv m)=w.tdiv m:=wr _ EA EA;have b:W (w.tdiv m+1)=w.tdiv m+1:=wr _ EA EA;unfold vp;rw[e2,b];split<;>omega
 generalize vp w (qj cap c.size)=z at *;unfold qj;split<;>omega
theorem lH(h:qG x)(c:Nat):∀k,0<=uB x c k/\uB x c k<=2147483648
 |0=>h _ _
 |k+1=>by have:=lH h c k;have:=h (k:Int) (c:Int);unfold uB qj;split;split<;>omega;omega
variable {f:Nat->Int}
theorem GT:∀k,(∀i,i<k->0<=f i)->0<=wM f k
 |0,_=>by simp[wM]
 |k+1,h=>by have:=GT k λi hi=>h i EA;have:=h k EA;unfold wM xR;split;omega;split<;>omega
def lI(h:InstQ x n)(l:List Int):0<=Jn x n l/\Jn x n l<=9223372036854775807:=by
 have c:=h.k.a;obtain⟨-,-,e,-⟩:=Vn (ZY h.m).O;have hb:0<=YY x:=GT _ λi hi=>by
  have hc:x.y.getD i default∈x.y:=by rw[List.getD_eq_getElem?_getD,Ac hi];exact AZ hi
  have h1:=h.t.n1;have h2:=c.ac;have p:=c.days;have q:=Zzc (c.aa _ hc).Z (n:=x.days) (cap:=x.Q) EA EA;have e2:0<=(jA x).getD i 0/\(jA x).getD i 0<=2147483648:=by
   have:(jA x).getD i 0=uB x (i+1) (x.y.length+1):=by unfold jA;simp[List.getD_eq_getElem?_getD,hi]
   rw[this];exact lH e _ _
  generalize je (x.y.getD i default) x.days x.Q=f at *;generalize (jA x).getD i 0=g at *;have j:0<=g*f/\g*f<=2147483648*127:=⟨Bc EA EA,Bm EA EA EA EA⟩;have o:W (g*f)=g*f:=wr _ EA EA;rw[o];exact j.1
 have d:zL (YY x):=by
  unfold YY;cases x.y.length with
  |zero=>exact bf
  |succ k=>exact kp _ _
 have hv:∀a b,zL (Y0 x n a b):=λa b=>kp _ _;unfold Jn Xd Xc;generalize qV x _=a;generalize (wA x n _ _).i=b;have:=hv a b;unfold zL at this d;unfold qk;split<;>omega
def bn{p:zy}(h:PlanG x n p):PlanTold p:=by have f:=h.ad;have e:=h.a.ac;have b:=λd b=>QE (x:=x) EA (h.ab d b);refine⟨by rw[h.len];omega,λd q=>by have:=b d q;omega,λd q t c=>?_,λd q t c s hs=>?_⟩;have:=(Ct c).length_le;have:=b d q;omega;have:=JY (h.ab d q) s (Bd.2 ⟨t,c,hs⟩);simp[qn]at this;omega
def GU(h:InstQ x n):∀c∈x.y,CustSm c:=λc hc=>by obtain⟨k,a,b,l,r1,r2,r3,r4,r5⟩|⟨k,q,s,t,d,ho,e,f⟩:=Wa ((ZY h.m).ah c hc);exact⟨by omega,by omega,by omega⟩;exact⟨by omega,by omega,by omega⟩
def GV(h:InstQ x n)(l:List Int):RepTold (ud x n l):=by
 have hb:=lI h l;have o:=h.k.a;have w:=h.ad;unfold ud Wf;split;rename_i hf;have r:(xX x n l).2=0:=by unfold Zf at hf;split at hf;assumption;rename_i q;exact absurd hf q
 have g:=eI h (xJ l) (yp l 1).toNat (yp l 2) r;obtain⟨-,-,e,-⟩:=Vn (ZY h.m).O;have b:=GU h;have j:=g.len;have s:=o.ac;have y:=aU b (xX x n l).1 x.y.length;have t:=kv e b EA (p:=(xX x n l).1) (by show (Jg x n _ _ _).1.length<=1000;omega) g.ab;have u:=dZ e (xX x n l).1 λd c=>by have:=QE (x:=x) EA (g.ab d c);omega
 have f:zL (yN x (xX x n l).1):=Ji _;have i:∀d∈(xX x n l).1,0<=W (yf x d)/\W (yf x d)<=9223372036854775807:=λd c=>by have:=QE (x:=x) EA (g.ab d c);have h3:=da e d;have:W (yf x d)=yf x d:=wr _ EA EA;omega
 refine⟨hb,?_,?_,?_,?_,bn g⟩;unfold zL at f;show 0<=yN x (xX x n l).1/\yN x (xX x n l).1<=9223372036854775807;omega;have:W (yG x (xX x n l).1 x.y.length)=yG x (xX x n l).1 x.y.length:=wr _ EA EA;show 0<=W _/\W _<=_;omega;show (qa x _).length<=1000;unfold qa;rw[List.length_map];show (Jg x n _ _ _).1.length<=1000;omega;intro z v;obtain⟨d,c,rfl⟩:=Aj.1 v;exact i d c;exact⟨hb,by simp,by simp,by simp,by simp,⟨by simp,by simp,by simp,by simp⟩⟩
def Zzd(h:InstQ x n)(l:List Int):PP 9 [.agg (Xg (ud x n l))] (T (bs (zN (qg (ud x n l))))):=by have a:=GV h l;have hb:=lI h l;unfold ud Wf at a ⊢;split at a;rename_i hf;rw[if_pos hf];exact GR _ rfl a;rename_i hf;rw[if_neg hf];exact Zza _ _ _ _ _ hb
def GW{a c:Int}(h:a+b<=c)(hc:0<=c):xR a b<=c:=by unfold xR;split<;>(try split)<;>omega
theorem eP{g:Nat->Int}:∀{m:Nat},(∀k,k<m->f k<=g k/\0<=g k)->wM f m<=((List.range m).map g).sum/\0<=((List.range m).map g).sum
 |0,_=>by simp[wM]
 |m+1,h=>by
  obtain⟨h1,h2⟩:=eP (m:=m) λk a=>h k EA;have h3:=h m EA;have e:((List.range (m+1)).map g).sum=((List.range m).map g).sum+g m:=by simp[AC]
  rw[e];exact⟨GW EA EA,by omega⟩
def Zze(f g:Nat->Int)(m:Nat):((List.range m).map λk=>f k+g k).sum=((List.range m).map f).sum+((List.range m).map g).sum:=by
 induction m with
 |zero=>rfl
 |succ m a=>simp only[AC,List.map_append,Bb,a,Ap,A8,AL,Dl];omega
theorem GX(m:Nat):∀l:List Stop,(∀s∈l,0<=s.c/\s.c<m)->((List.range m).map λc:Nat=>((l.filter λs=>decide (s.c=(c:Int))).map (·.q)).sum).sum=(l.map (·.q)).sum
 |[],_=>by
  have:∀k:Nat,((List.range k).map λc:Nat=>((([]:List Stop).filter λs=>decide (s.c=(c:Int))).map (·.q)).sum).sum=0:=λk=>by
   induction k with
   |zero=>rfl
   |succ k a=>rw[AC,List.map_append,Bb,a];simp
  rw[this];rfl
 |s::l,h=>by
  obtain⟨h1,h2⟩:=h s EB;have h3:=GX m l λt b=>h t (by simp[b]);have key:∀k:Nat,((List.range k).map λc:Nat=>(((s::l).filter λs=>decide (s.c=(c:Int))).map (·.q)).sum).sum=(if s.c<k then s.q else 0)+((List.range k).map λc:Nat=>((l.filter λs=>decide (s.c=(c:Int))).map (·.q)).sum).sum:=λk=>by
   induction k with
   |zero=>rw[if_neg EA];rfl
   |succ k a =>
   rw[AC,List.map_append,Bb,List.map_append,Bb,a];simp only[Ap,A8,AL,Dl];by_cases e:s.c=k;rw[B7 (by simpa using e),Ap,AL,if_neg EA,if_pos EA];omega;rw[BE (by simpa using e)];by_cases q:s.c<k;rw[if_pos q,if_pos EA];omega;rw[if_neg q,if_neg EA];omega
  rw[key,if_pos h2,Ap,AL,h3]
theorem eQ(c:Nat):∀(p:zy) (k:Nat),(zW c (told k p)).map (·.q)=(p.flatten.flatten.filter λs=>decide (s.c=(c:Int))).map (·.q)
 |[],k=>by simp[zW,told]
 |d::p,k=>by have h:=eQ c p (k+1);unfold zW at h ⊢;simp only[told,BM,List.map_append,Bh,List.flatten_append]at h ⊢;rw[h,Ec];simp[Function.comp_def]
theorem lJ:∀{ts:List zM},(∀t∈ts,zX x t=0/\t.length<=6)->(ts.flatten.map (·.q)).sum<=x.Q*ts.length
 |[],_=>by simp
 |t::ts,h=>by
  have b:=lJ (ts:=ts) λu c=>h u (by simp[c]);obtain⟨h0,e⟩:=h t EB;obtain⟨h1,-,h3,-⟩:=(QZ x t).1 h0;have hb:∀l:List Stop,l.all (qn x)=true->0<=(l.map (·.q)).sum/\(l.map (·.q)).sum<=2147483648*l.length:=by
   intro l;induction l with
   |nil=>intro _;simp
   |cons s l b =>
   intro hl;simp only[CZ,Aw]at hl;have h2:=b hl.2;have d:=hl.1;simp only[qn,decide_eq_true_eq]at d;rw[Ap,AL,Ab,ww];omega
  have a:t.all (qn x)=true:=by unfold jF at h1;simp only[Aw]at h1;exact h1.1
  have hl:=hb t a;unfold yc at h3;rw[wW _ EA EA]at h3;rw[Bh,List.map_append,Bb,Ab,ww];omega
theorem GY{c:Nat}:∀{p:zy},(∀d∈p,yu x d=0)->xK c p.flatten.flatten<=(p.map List.length).sum
 |[],_=>by simp[xK]
 |d::p,h=>by
  have b:=GY (c:=c) (p:=p) λe a=>h e (by simp[a]);obtain⟨-,h2,-⟩:=(wG x d).1 (h d EB);have h1:=EN (c:=(c:Int)) h2;have h0:xK c d.flatten<=d.length:=by unfold xK;obtain _|⟨t,d⟩:=d;simp;simp only[Ab];omega
  have e:xK c (d::p).flatten.flatten=xK c d.flatten+xK c p.flatten.flatten:=by simp[xK]
  rw[e,Ap,AL];omega
section
variable {x:Inst} {n:Nat} {p:zy}
def bo(hm:∀d∈p,yu x d=0){s:Stop}(hs:s∈p.flatten.flatten):qn x s=true/\∃t,zX x t=0/\s∈t/\∃d∈p,t∈d:=by obtain⟨t,e,b⟩:=Bd.1 hs;obtain⟨d,c,a⟩:=Bd.1 e;exact⟨JY (hm d c) s (Bd.2 ⟨t,a,b⟩),t,((wG x d).1 (hm d c)).1 t a,b,d,c,a⟩
def GZ(c:PlanG x n p){d:zo}(f:d∈p){t:zM}(g:t∈d):t.length<=6:=by
 have h1:=(c.s.ok d f).2;have h2:t.length<=d.flatten.length:=by obtain⟨a,b,e⟩:=List.append_of_mem g;rw[e];simp;omega
 omega
def Zzf(g:PlanG x n p){s:Stop}(hs:s∈p.flatten.flatten):s.q<=x.Q:=by
 obtain⟨-,t,h0,e,d,h,f⟩:=bo g.ab hs;have i:=GZ g h f;have h1:=lJ (x:=x) (ts:=[t]) (λu b=>by rw[A5.1 b];exact⟨h0,i⟩);obtain⟨hb,-⟩:=(QZ x t).1 h0;have c:∀u∈t,1<=u.q:=λu b=>by unfold jF at hb;simp only[Aw]at hb;have:=Ay.1 hb.1 u b;simp only[qn,decide_eq_true_eq]at this;omega
 have key:∀l:List Stop,(∀u∈l,1<=u.q)->0<=(l.map (·.q)).sum/\∀u∈l,u.q<=(l.map (·.q)).sum:=by
  intro l;induction l with
  |nil=>intro _;simp
  |cons a l j =>
  intro hl;obtain⟨i1,i2⟩:=j λu b=>hl u (by simp[b]);have k:=hl a EB;rw[Ap,AL];refine⟨by omega,λu b=>?_⟩;obtain rfl|b:=Al.1 b;omega;have:=i2 u b;omega
 have:=(key t c).2 s e;simp at h1;omega
def Ha(f:InstQ x n)(o:PlanG x n p)(h0:wu x p=0){c:Cust}(hc:x.y[i]?=some c)(g:0<=x.Q):CuV c n x.Q (zW i (told 0 p)):=by
 have hi:i<x.y.length:=(Ad.1 hc).1;have j:=Aa hc;have r:=ZyO f o hc;have d:=(ku h0).2.2.2 i hi;have b:∀s∈zW i (told 0 p),∃u∈p.flatten.flatten,s.q=u.q:=λs hs=>by have:s.q∈(zW i (told 0 p)).map (·.q):=Cs hs;rw[eQ]at this;obtain⟨u,l,e⟩:=Aj.1 this;exact⟨u,(AX.1 l).1,e.symm⟩
 have v:=ZyX r λs hs=>by obtain⟨u,l,e⟩:=b s hs;have:=(bo o.ab l).1;simp only[qn,decide_eq_true_eq]at this;omega
 have hl:=eK r.rise r.days EA;refine⟨o.a.aa c j,f.t.n1,f.n7,?_,v,lE r.rise,by omega,λs hs=>?_,g,?_⟩;exact(Wa ((ZY f.m).ah c j)).imp (λh=>⟨_,h⟩) id;obtain⟨u,l,e⟩:=b s hs;rw[e];exact Zzf o l;unfold YL at d;rw[hc,f.k.a.days]at d;simp only at d;split at d;rename_i k;rw[if_pos k];exact d;rename_i k;rw[if_neg k];exact d
def uJ(p:zy):Nat:=(p.map List.length).sum
theorem Hb(h:∀k,k<x.y.length->je (x.y.getD k default) x.days x.Q<=uJ p):∀k,k<=x.y.length->0<=Zd x k/\Zd x k<=uJ p
 |0,_=>by simp[Zd]
 |k+1,a=>by have b:=Hb h k EA;have:=h k EA;have hm:=Wj (Zd x k) (je (x.y.getD k default) x.days x.Q);simp only[Zd];omega
end
def Hc{lo hi:Int}(h0:lo<=0)(h1:0<=hi)(h:∀k,k<n->k≠p->lo<=f k/\f k<=hi):lo<=wO f p n/\wO f p n<=hi:=by
 have:∀m,m<=n->∀b,wU f p m=some b->lo<=b/\b<=hi:=by
  intro m;induction m with
  |zero=>intro _ b hb;cases hb
  |succ m c =>
  intro hm b hb;by_cases a:m=p;subst a;rw[eb]at hb;exact c EA b hb;cases q:wU f p m with
  |none =>
  rw[kD a q]at hb;obtain rfl:=Option.some.inj hb;exact h m EA a
  |some d =>
  rw[ec a q]at hb;obtain rfl:=Option.some.inj hb;have i1:=c EA d q;have i2:=h m EA a;split<;>omega
 unfold wO;cases q:wU f p n with
 |none=>exact⟨h0,h1⟩
 |some b=>exact this n (Af n) b q
def Zzg(d:qG x)(l:List Int):∀k,k<=x.y.length->0<=(qV x (qN x l)).getD k 0/\(qV x (qN x l)).getD k 0<=2147483648:=by
 intro a g;have e:(qV x (qN x l)).getD a 0=wO (λb=>W (arc x a b-(qN x l).getD b 0)) a (x.y.length+1):=by unfold qV;rw[List.getD_eq_getElem?_getD,Ai,A4 EA];rfl
 rw[e];refine Hc EA EA λb hb c=>?_;have e2:(qN x l).getD b 0=min (max (l.getD b 0) 0) (wO (λa=>arc x a b) b (x.y.length+1)):=by unfold qN;rw[List.getD_eq_getElem?_getD,Ai,A4 EA];rfl
 have h1:=d a b;have h2:=Gd (f:=λa=>arc x a b) (p:=b) (k:=a) (n:=x.y.length+1) (λq=>c q.symm) EA;have h3:=Hc (f:=λa=>arc x a b) (p:=b) (lo:=0) (hi:=2147483648) (n:=x.y.length+1) EA EA λk _ _=>d k b;rw[e2,wW _ EA EA];omega
def Zzh{i:List Int}(hi:Vr x i):∀k,0<=i.getD k 0/\i.getD k 0<=2147483648:=λk=>by
 rw[List.getD_eq_getElem?_getD];cases h:i[k]? with
 |none=>simp
 |some z=>exact hi.2 z (Aa h)
theorem Hd(x:Inst)(n:Nat)(s:Int):∀k,∃l,(wA x n s k).i=qN x l
 |0=>⟨_,rfl⟩
 |k+1=>by obtain⟨l,hl⟩:=Hd x n s k;simp only[wA,Vp];split;exact⟨_,rfl⟩;exact⟨l,hl⟩
section
variable {x:Inst} {n:Nat} {p:zy}
def He(a:PlanG x n p)(b:InstQ x n):uJ p<=42:=by
 have key:∀q:zy,(∀d∈q,d.length<=6)->(q.map List.length).sum<=6*q.length:=by
  intro q;induction q with
  |nil=>intro _;simp
  |cons d q c =>
  intro h;have h1:=c λe f=>h e (by simp[f]);have h2:=h d EB;rw[Ap,AL,Ab];omega
 have:=key p λd g=>(a.s.ok d g).2.2;have:=a.len;have:=b.n7;unfold uJ;omega
def eR(x:Inst)(a:k<x.y.length):x.y[k]?=some (x.y.getD k default):=by rw[List.getD_eq_getElem?_getD,Ac a];rfl
def Zzi(a:PlanG x n p)(k:Nat):(zW k (told 0 p)).length<=uJ p:=by rw[lw];exact GY a.ab
def Zzj(b:PlanG x n p):(p.flatten.flatten.map (·.q)).sum<=x.Q*uJ p:=by
 have e:uJ p=p.flatten.length:=by unfold uJ;rw[List.length_flatten]
 rw[e];refine lJ λt f=>?_;obtain⟨d,c,a⟩:=Bd.1 f;exact⟨((wG x d).1 (b.ab d c)).1 t a,GZ b c a⟩
def Zzk(a:PlanG x n p):∀s∈p.flatten.flatten,0<=s.c/\s.c<x.y.length:=λs hs=>by have:=(bo a.ab hs).1;simp only[qn,decide_eq_true_eq]at this;omega
def Zzl(j:InstQ x n)(i:PlanG x n p)(h0:wu x p=0):0<=ZZ x/\ZZ x<=uJ p:=by
 have u:=j.k.a.days;have o:0<=x.Q:=j.t.al.2.1.1;have y:∀k,k<x.y.length->CuV (x.y.getD k default) n x.Q (zW k (told 0 p)):=λk r=>Ha j i h0 (eR x r) o;have hm:=Hb (x:=x) (p:=p) (λk r=>by have h1:=(y k r).forced;have h2:=Zzi i k;rw[u];omega) x.y.length (Af _);have h6:=He i j;have a0:jM x<=(p.flatten.flatten.map (·.q)).sum:=by
  have v:∀k:Nat,0<=((zW k (told 0 p)).map (·.q)).sum:=λk=>by
   rw[eQ];have key:∀l:List Stop,(∀s∈l,1<=s.q)->0<=(l.map (·.q)).sum:=by
    intro l;induction l with
    |nil=>intro _;simp
    |cons s l w =>
    intro h;have:=w λt ht=>h t (by simp[ht]);have:=h s EB;rw[Ap,AL];omega
   refine key _ λs hs=>?_;have:=(bo i.ab (AX.1 hs).1).1;simp only[qn,decide_eq_true_eq]at this;omega
  have h1:=(eP (f:=λk=>uA (x.y.getD k default) x.days x.Q) (g:=λk=>((zW (k:Nat) (told 0 p)).map (·.q)).sum) (m:=x.y.length) λk r=>by have:=(y k r).must;rw[u];exact⟨this,v k⟩).1;have h2:=GX x.y.length p.flatten.flatten (Zzk i);have e:(λk:Nat=>((zW (k:Int) (told 0 p)).map (·.q)).sum)=λc:Nat=>((p.flatten.flatten.filter λs=>decide (s.c=(c:Int))).map (·.q)).sum:=by funext k;rw[eQ]
  unfold jM;rw[e,h2]at h1;exact h1
 have hl:=Zzj i;unfold ZZ;split;rename_i hc;have a1:=Wj (Zd x x.y.length) (vp (jM x) x.Q);have a2:vp (jM x) x.Q<=uJ p:=by
  by_cases hn:0<=jM x;have hb:x.Q*(uJ p:Int)<=100000000000000000*42:=Bm (by have:=j.t.al.2.1.2;omega) EA EA EA;have hs:(p.flatten.flatten.map (·.q)).sum<=1000000000000:=by
   have a3:p.flatten.flatten.length<=42:=by
    have key:∀q:zy,(∀d∈q,d.flatten.length<=6)->q.flatten.flatten.length<=6*q.length:=by
     intro q;induction q with
     |nil=>intro _;simp
     |cons d q w =>
     intro h;have h1:=w λe he=>h e (by simp[he]);have h2:=h d EB;rw[Bh,List.flatten_append,Ak,Ab];omega
    have:=key p λd u=>(i.s.ok d u).2.1;have:=i.len;have:=j.n7;omega
   have:=Gk (l:=p.flatten.flatten.map (·.q)) (m:=2147483648) λz hz=>by obtain⟨s,hs,rfl⟩:=Aj.1 hz;have:=(bo i.ab hs).1;simp only[qn,decide_eq_true_eq]at this;omega
   rw[List.length_map]at this;omega
  exact Gl ⟨hn,by omega⟩ EA EA;have h1:(jM x).tdiv x.Q<=0:=by rw[Int.tdiv_eq_ediv];have:jM x/x.Q<0:=DC EA hc;split<;>(try omega);have:=D3 hc;omega
  have h2:-9223372036854775808<=(jM x).tdiv x.Q:=by
   have:=kq (λk=>uA (x.y.getD k default) x.days x.Q) x.y.length;have h3:jM x<=(jM x).tdiv x.Q:=by
    rw[Int.tdiv_eq_ediv];have:jM x/x.Q<0:=DC EA hc;have h4:jM x<=jM x/x.Q:=by have:=Int.mul_ediv_add_emod (jM x) x.Q;have h5:=D6 (jM x) (show x.Q≠0 by omega);have h6:jM x/x.Q*1>=jM x/x.Q*x.Q:=Dr EA EA;have h7:=DD (jM x) hc;have h8:=Int.le_ediv_of_mul_le (a:=jM x) (b:=jM x) hc;exact h8 (by have:jM x*x.Q<=jM x*1:=Dr EA EA;omega)
    split<;>(try omega);have:=D3 hc;omega
   unfold jM at h3 ⊢;unfold zL at this;omega
  unfold vp;rw[if_neg (λq=>q.2 EA),wW _ h2 EA];omega
 omega;exact hm
def Zzm(d:InstQ x n)(u:PlanG x n p)(h0:wu x p=0)(l:List Int):Xc x n (qV x (qN x l)) (qN x l)<=yN x p:=by
 have o:=d.k.a.h.aj;have hd:=d.k.a.days;have j:=GU d;have v:0<=x.Q:=d.t.al.2.1.1;have h6:=d.ad;have hC:∀k,k<x.y.length->CuV (x.y.getD k default) n x.Q (zW k (told 0 p)):=λk c=>Ha d u h0 (eR x c) v;have hI:=kX o l;have hO:=Zzg o l;have hB:=Zzh hI;have w:p.length<=1000:=by have:=u.len;have:=d.n7;omega
 have hold:∀k,k<x.y.length->vS x p k=if (x.y.getD k default).kind=2 then xQ (x.y.getD k default) (yS (x.y.getD k default) (z8 (zW k (told 0 p)) n)).1 else 0:=λk c=>by unfold vS;rw[eR x c,hd]
 have r:∀k,k<x.y.length->0<=vS x p k:=λk c=>by rw[hold k c];split;exact(tS (j _ (Aa (eR x c))) _ (by rw[Yk _ (by have:=d.n7;omega)];have:=d.n7;omega)).1;omega
 have s:=Zzl d u h0;have a2:=He u d;have k1:=Gg (ZyQ o hI) o j EA w u.ab;have k2:=Gg (ZyR o) o j EA w u.ab;have v1:Y0 x n (qV x (qN x l)) (qN x l)<=yN x p:=by
  generalize qV x (qN x l)=a at *;generalize qN x l=i at *;have a0:∀k,k<x.y.length->W (a.getD (k+1) 0+i.getD (k+1) 0)=wC (λa'=>a.getD a' 0) (λb=>i.getD b 0) k/\0<=wC (λa'=>a.getD a' 0) (λb=>i.getD b 0) k/\wC (λa'=>a.getD a' 0) (λb=>i.getD b 0) k<=4294967296:=λk c=>by have g1:=hO (k+1) EA;have g2:=hB (k+1);have e:((k:Int)+1).toNat=k+1:=EA;unfold wC;rw[e];dsimp only;rw[wW _ EA EA];omega
  have hs:=eP (f:=Ym x n a i) (g:=λk=>wC (λa'=>a.getD a' 0) (λb=>i.getD b 0) k*(((zW k (told 0 p)).length:Nat):Int)+vS x p k) (m:=x.y.length) λk c=>by obtain⟨z,e2,y⟩:=a0 k c;have hb:=(hC k c).bound ⟨e2,y⟩;unfold Ym;rw[z,hold k c];refine⟨hb,?_⟩;have g1:=r k c;rw[hold k c]at g1;have g2:0<=wC (λa'=>a.getD a' 0) (λb=>i.getD b 0) k*(((zW k (told 0 p)).length:Nat):Int):=Bc e2 EA;omega
  rw[Zze]at hs;have hP:W (a.getD 0 0+i.getD 0 0)=a.getD 0 0+i.getD 0 0/\0<=a.getD 0 0+i.getD 0 0/\a.getD 0 0+i.getD 0 0<=4294967296:=by have g1:=hO 0 EA;have g2:=hB 0;rw[wW _ EA EA];omega
  have hT:0<=(uJ p:Int)*(a.getD 0 0+i.getD 0 0):=Bc EA hP.2.1;have a3:YZ x a i<=(uJ p:Int)*(a.getD 0 0+i.getD 0 0):=by
   unfold YZ;rw[hP.1];obtain⟨-,q1,q2⟩:=hP;generalize a.getD 0 0+i.getD 0 0=P at *;generalize ZZ x=L at *;have z:0<=P*L/\P*L<=4294967296*42:=⟨Bc q1 s.1,Bm q2 EA s.1 EA⟩;have e2:P*L<=(uJ p:Int)*P:=by rw[CW];exact Dj s.2 q1
   have y:W (P*L)=P*L:=wW _ EA EA;by_cases hz:P=0\/L=0;have hm:ZV P L=(0,true):=by unfold ZV;rw[if_pos hz]
   rw[hm,if_pos rfl];exact hT;have hm:ZV P L=(P*L,true):=by have e4:(P*L).tdiv L=P:=Int.mul_tdiv_cancel P (λq=>hz (.inr q));unfold ZV;rw[if_neg hz,y,e4,wW P EA EA,if_neg (λq=>q.elim (λq=>q rfl) (λq=>by omega))]
   rw[hm,if_pos rfl];exact e2
  unfold Y0;refine GW ?_ ?_;unfold yG uJ at *;omega;unfold yG uJ at *;omega
 have v2:YY x<=yN x p:=by
  have a1:∀k,k<x.y.length->wC (λ_=>0) (Wi x) k=(jA x).getD k 0/\0<=(jA x).getD k 0/\(jA x).getD k 0<=2147483648:=λk c=>by have e:((k:Int)+1).toNat=k+1:=EA;unfold wC Wi;rw[e,if_neg EA,B5,Gf c];have:=lH o (k+1) (x.y.length+1);dsimp only;omega
  have hs:=eP (f:=λk=>W ((jA x).getD k 0*je (x.y.getD k default) x.days x.Q)) (g:=λk=>wC (λ_=>0) (Wi x) k*(((zW k (told 0 p)).length:Nat):Int)) (m:=x.y.length) λk c=>by obtain⟨z,e2,y⟩:=a1 k c;have hf:=(hC k c).forced;have hl:=(hC k c).len;have h7:=d.n7;rw[z,hd];generalize je (x.y.getD k default) n x.Q=f at *;have b1:0<=(jA x).getD k 0*f/\(jA x).getD k 0*f<=2147483648*7:=⟨Bc e2 hf.1,Bm y EA hf.1 EA⟩;rw[wW _ EA EA];exact⟨B0 hf.2 e2,Bc e2 EA⟩
  have hh:0<=yG x p x.y.length:=(aU j p x.y.length).1;have e0:Wi x 0=0:=rfl;unfold YY;rw[e0]at k2;simp only[CY,Int.mul_zero]at k2;omega
 unfold Xc;have:=Wj (Y0 x n (qV x (qN x l)) (qN x l)) (YY x);omega
def Zzn(a:InstQ x n)(b:PlanG x n p)(h0:wu x p=0)(s:Int)(k:Nat):Xd x n s k<=yN x p:=by obtain⟨l,hl⟩:=Hd x n s k;unfold Xd;rw[hl];exact Zzm a b h0 l
end
def Z1(l:List UInt8):Prop:=∀c∈l,48<=c.toNat/\c.toNat<=57
def lK{l:List UInt8}{c:UInt8}(h:Z1 (l++[c])):Z1 l/\48<=c.toNat/\c.toNat<=57:=⟨λd a=>h d (by simp[a]),h c EB⟩
def Hf(l:List UInt8):Z1 l->xS l<10^l.length:=by refine aZ (p:=λl=>Z1 l->xS l<10^l.length) (λ_=>by decide) (λl c a h=>?_) l;obtain⟨h1,h2⟩:=lK h;have:=a h1;rw[Vg,Ak,AS,D5];omega
def Hg(l:List UInt8):Z1 l->l.length<=18->xG l=xS l:=by refine aZ (p:=λl=>Z1 l->l.length<=18->xG l=xS l) (λ_ _=>rfl) (λl c a h hl=>?_) l;obtain⟨h1,h2⟩:=lK h;rw[Ak,AS]at hl;have b:=Hf l h1;have e2:10^l.length<=10^17:=BL EH EA;rw[bb,a h1 EA,Vg,if_neg EA]
def Zzo{c0:UInt8}(h0:c0.toNat≠48)(l:List UInt8):Z1 (c0::l)->10^l.length<=xS (c0::l)/\(18<=l.length->xG (c0::l)=1000000000000000000):=by refine aZ (p:=λl=>Z1 (c0::l)->10^l.length<=xS (c0::l)/\(18<=l.length->xG (c0::l)=1000000000000000000)) (λh=>?_) (λl c b h=>?_) l;have:=h c0 EB;refine⟨?_,λh=>by simp at h⟩;show 1<=10*0+(c0.toNat-48);omega;rw[<-List.cons_append]at h ⊢;obtain⟨h1,h2⟩:=lK h;obtain⟨i1,i2⟩:=b h1;rw[Vg,bb,Ak,AS,D5];refine⟨by omega,λhl=>if_pos ?_⟩;by_cases a:18<=l.length;rw[i2 a];decide;have e:l.length=17:=EA;rw[Hg _ h1 EF];rw[e]at i1;exact i1
def Hh{w:List UInt8}(ho:¬Zb w=true)(b:Z1 w):xG w=if 18<w.length then 1000000000000000000 else xS w:=by
 split
 .rename_i h;cases w with
  |nil=>simp at h
  |cons c l =>
  simp only[Ab]at h;refine(Zzo ?_ l b).2 EA;intro a;apply ho;have:l≠[]:=by rintro rfl;simp at h
  simp[Zb,a,this]
 exact Hg w b EA
def Zzp(w:List UInt8)(hl:w.length<=1099511627776):PP 50 [T (bs w)] (Jl (yF w)):=by
 obtain _|⟨c0,wt⟩:=w;have he:bs []=ByteArray.empty:=rfl;refine zt func50 ntmps50 results50 λS nx h=>?_;refine EK ?_;repeat apply za
 refine ze [(3,10),(7,14)] (zn he zE) ?_;refine aD ?_;refine EK ?_;exact EL h;obtain⟨w,u⟩:∃w,w=c0::wt:=⟨_,rfl⟩;have v:w[0]?=some c0:=by rw[u];rfl
 have o:¬w.length=0:=by rw[u];simp
 have p:Zb w=(decide (c0.toNat=48)&&decide (1<w.length)):=by rw[u];cases wt<;>simp[Zb]
 rw[<-u]at hl ⊢;clear u wt;obtain⟨B,z⟩:∃B,B=bs w:=⟨_,rfl⟩;have g:B.size=w.length:=by rw[z,vr]
 have hg:∀k,B[k]?=w[k]?:=λk=>by rw[z];exact ey w k
 have j:=(hg 0).trans v;rw[<-z];by_cases a:Zb w=true;have hr:yF w=none:=by unfold yF;rw[if_pos a]
 rw[hr];rw[p]at a;simp only[Aw,decide_eq_true_eq]at a;obtain⟨q1,q2⟩:=a;have h3:(c0.toNat:Int)=48:=EA;refine zt func50 ntmps50 results50 λS nx h=>?_;refine EK ?_;repeat apply za
 refine ze [(3,10),(7,14)] (zU g j o h3 q1 (zn q2 zE)) ?_;refine zm EF ?_;refine EK ?_;exact EL h;have q:(c0.toNat=48/\¬1<w.length)\/¬c0.toNat=48:=by rw[p]at a;simp only[Aw,decide_eq_true_eq,not_and]at a;by_cases h1:c0.toNat=48;exact .inl ⟨h1,a h1⟩;exact .inr h1
 have n:yF w=if Zy w=true then some (xG w) else none:=by unfold yF;rw[if_neg a]
 have x:=Hh a;rw[n];clear n a p;refine zt func50 ntmps50 results50 λS nx h=>?_;refine EK ?_;obtain⟨h1,h2⟩|h1:=q;have h3:(c0.toNat:Int)=48:=EA;repeat apply za
 refine ze [(3,10),(7,14)] (zU g j o h3 h2 zE) ?_;refine zk EF ?_;rotate_left;have h3:¬(c0.toNat:Int)=48:=EA;repeat apply za
 refine ze [(3,10),(7,14)] (yx g j o h3 zE) ?_;refine zk (by simp[*]) ?_;all_goals
  clear h1 h3 j v;refine zh ?_;repeat apply za
  refine zb ?_;refine zj (zC (λk:Nat=>k<=w.length/\Z1 (w.take k)) (λk=>[(0,T B),(4,I k)]) (λ_=>[]) (λk=>w.length-k) 0 [] (by simp[Z1]) EB EB ?_);rintro k ⟨hk,t⟩;repeat apply za
  refine ze [] g ?_;refine zv rfl (λhc=>?_) (λhc=>?_);simp at hc;obtain⟨c,f⟩:∃c,w[k]?=some c:=⟨_,Ac hc⟩;have i:=(hg k).trans f;refine zh (aA ?_);by_cases h3:c.toNat<48;have l:(c.toNat:Int)<48:=EA;refine aF [(4,30)] (zR i h3 l zE) ?_;refine zm (by simp[*]) ?_;refine EK ?_;exact zg (zi h EC (by rw[en f EA];rfl));have l:¬(c.toNat:Int)<48:=EA;by_cases h4:57<c.toNat;have r:57<(c.toNat:Int):=EA;refine aF [(4,30)] (yx i h3 l h4 r) ?_;refine zm (by simp[*]) ?_;refine EK ?_;exact zg (zi h EC (by rw[en f EA];rfl));have r:¬57<(c.toNat:Int):=EA;refine aF [(4,30)] (yx i h3 l h4 r) ?_;refine zk (by simp[*]) ?_;refine zh ?_;have s:w.take (k+1)=w.take k++[c]:=by rw[AE,f];rfl
  have a0:Z1 (w.take (k+1)):=by rw[s];intro d h;rw[AB,A5]at h;exact h.elim (t d) (λe=>by subst e;omega)
  refine zb ?_;exact zr (k+1) [] ⟨hc,a0⟩ EA (by simp[zu k EA]) rfl EB;simp at hc;obtain rfl:k=w.length:=EA;refine zx ?_;rw[Ah]at t;have a1:Zy w=true:=by unfold Zy;rw[Ay];intro c hc;simpa using t c hc
  have b:=x t;rw[if_pos a1];by_cases m:18<w.length;rw[if_pos m]at b;repeat apply za
  refine ze [] (zn g m) ?_;refine zm (by simp[*];try omega) ?_;refine EK ?_;exact zg (zi h EC (by simp[zp,b,Jl]));rw[if_neg m]at b;repeat apply za
  refine ze [] (zn g m) ?_;refine zk (by simp[*];try omega) ?_;refine zh (EK ?_);repeat apply za
  refine zb ?_;refine zj (zC (λk:Nat=>k<=w.length) (λk=>[(0,T B),(5,I (xS (w.take k))),(6,I k)]) (λ_=>[]) (λk=>w.length-k) 0 [] EB (by simp[xS]) EB ?_);rintro k a2;repeat apply za
  refine ze [] g ?_;refine zv rfl (λhc=>?_) (λhc=>?_);simp at hc;obtain⟨c,f⟩:∃c,w[k]?=some c:=⟨_,Ac hc⟩;have i:=(hg k).trans f;have a3:=t c (Aa f);have a4:=Hf (w.take k) λd h=>t d (Bu h);have e2:10^(w.take k).length<=10^17:=BL EH (by rw[Az];omega);have s:xS (w.take (k+1))=10*xS (w.take k)+(c.toNat-48):=by rw[AE,f];exact Vg _ _
  obtain⟨d1,y⟩:∃d1,xS (w.take (k+1))=d1:=⟨_,rfl⟩;rw[y]at s;generalize xS (w.take k)=d0 at *;have w1:W (10*(d0:Int))=10*(d0:Int):=by simp only[W,AD];omega
  have w2:IntKind.u8.wrap ((c.toNat:Int)-48)=(c.toNat:Int)-48:=by
   have e:IntKind.u8.wrap ((c.toNat:Int)-48)=((c.toNat:Int)-48)%256:=by simp[IntKind.wrap,IntKind.bits,IntKind.signed]
   rw[e];omega
  have w3:W ((c.toNat:Int)-48)=(c.toNat:Int)-48:=by simp only[W,AD];omega
  have w4:W (10*(d0:Int)+((c.toNat:Int)-48))=d1:=by simp only[W,AD];omega
  refine zh (aA (ze [] (yx i w1 w2 w3 w4) ?_));refine zb ?_;exact zr (k+1) [] hc EA (by simp[zu k EA,y]) rfl EB;simp at hc;obtain rfl:k=w.length:=EA;refine zx ?_;rw[Ah];refine EK ?_;exact zg (zi h EC (by simp[zp,b,Jl]))
def wD(w:Wd):Ln->Option Nat
 |[a,b]=>if a=w then yF b else none
 |_=>none
def vG:List Int->zM
 |c::q::l=>⟨c,q⟩::vG l
 |_=>[]
def jB:Ln->Option zM
 |[]=>none
 |w::ws=>if w=wB then (match jg ws with
   |some (n::ns)=>if (ns.length:Int)=2*n then some (vG ns) else none
   |_=>none) else none
def qe:Nat->List Ln->Option (List Ln × zo)
 |0,r=>some (r,[])
 |_+1,[]=>none
 |n+1,l::r=>match jB l with
  |none=>none
  |some t=>(qe n r).map λp=>(p.1,t::p.2)
def xY:List Ln->Option (List Ln × zo)
 |[]=>none
 |l::r=>match wD qv l with
  |none=>none
  |some n=>qe n r
def qr:Nat->List Ln->Option (List Ln × zy)
 |0,r=>some (r,[])
 |n+1,r=>match xY r with
  |none=>none
  |some p=>(qr n p.1).map λq=>(q.1,p.2::q.2)
def xL:List Ln->Option zy
 |[]=>none
 |l::r=>match wD ji l with
  |none=>none
  |some n=>match qr n r with
   |some ([],p)=>some p
   |_=>none
def Hi(n:Nat):Zb (zH n)≠true:=by
 obtain h|h:=Bo 1 (zH n).length;obtain⟨c,l,e,hc⟩:=tE n h;rw[e];simp[Zb,hc];rcases a:zH n with _|⟨c,_|⟨d,l⟩⟩
 exact absurd a (aP n);simp[Zb];rw[a]at h;simp at h
def eT(h:n<=1000000000000000000):yF (zH n)=some n:=by
 have a:Z1 (zH n):=λc hc=>kj n c hc;have h2:Zy (zH n)=true:=by unfold Zy;rw[Ay];intro c hc;simpa using a c hc
 unfold yF;rw[if_neg (Hi n),if_pos h2,Hh (Hi n) a,tD];by_cases e:n=1000000000000000000;subst e;split<;>rfl;have:=aQ n 17 EA;rw[if_neg EA]
def lL{z:Int}(h0:0<=z)(h:z<=1000000000000000000):yF (zz z)=some z.toNat:=by
 have:zz z=zH z.toNat:=by unfold zz;first|rfl|(rw[if_neg EA])|simp[h0]
 rw[this];exact eT EA
def bp:∀{ls r:List Ln} {d:zo},qe n ls=some (r,d)->d.length=n/\ls.length=n+r.length:=by
 induction n with
 |zero=>intro ls r d h;simp only[qe,Option.some.injEq,Prod.mk.injEq]at h;obtain⟨rfl,rfl⟩:=h;simp
 |succ n a =>
 intro ls r d h;cases ls with
 |nil=>simp[qe]at h
 |cons l ls =>
 unfold qe at h;split at h;cases h;obtain⟨p,b,e⟩:=An.1 h;cases e;have:=a (r:=p.1) (d:=p.2) b;simp;omega
def Zzq:∀{ls r:List Ln} {p:zy},qr n ls=some (r,p)->p.length=n/\n+r.length<=ls.length:=by
 induction n with
 |zero=>intro ls r d h;simp only[qr,Option.some.injEq,Prod.mk.injEq]at h;obtain⟨rfl,rfl⟩:=h;simp
 |succ n b =>
 intro ls r d h;unfold qr at h;split at h;cases h;rename_i q a;obtain⟨p,c,e⟩:=An.1 h;cases e;have h1:=b (r:=p.1) (p:=p.2) c;have h2:q.1.length+1<=ls.length:=by unfold xY at a;split at a;cases a;split at a;cases a;have:=(bp (r:=q.1) (d:=q.2) a).2;simp;omega
 simp;omega
def Hj(s:Stop):Prop:=(0<=s.c/\s.c<1000000000000000000)/\0<=s.q/\s.q<1000000000000000000
def lM(w:Wd):0<=zT w:=by unfold zT;omega
def Zzr{r:List Ln}{d:zo}(h:qe n ls=some (r,d)):∀l∈r,l∈ls:=by
 induction n generalizing ls r d with
 |zero=>simp only[qe,Option.some.injEq,Prod.mk.injEq]at h;obtain⟨rfl,rfl⟩:=h;simp
 |succ n a =>
 cases ls with
 |nil=>simp[qe]at h
 |cons l ls =>
 unfold qe at h;split at h;cases h;obtain⟨p,b,e⟩:=An.1 h;cases e;intro l hl;exact BT _ (a (r:=p.1) (d:=p.2) b l hl)
def qi:List Ln->List Int × List Ln
 |[]=>([],[])
 |l::r=>if l.length=3/\l.getD 0 []=qv then (zT (l.getD 2 [])::(qi r).1,(qi r).2) else ([],l::r)
def vH(l:Ln):Int:=zT (l.getD (l.length-1) [])
def uK(ls:List Ln):Option Rep :=
 if ls.length<4 then none else match xL (qi (ls.drop 4)).2 with
  |none=>none
  |some p=>some ⟨4,vH (ls.getD 1 []),vH (ls.getD 2 []),vH (ls.getD 3 []),(qi (ls.drop 4)).1,p⟩
theorem lN:∀(M r:List Ln),(∀l∈M,l.length=3/\l.getD 0 []=qv)->qi (M++r)=(M.map (λl=>zT (l.getD 2 []))++(qi r).1,(qi r).2)
 |[],r,_=>by simp
 |l::M,r,h=>by have h1:=lN M r λl q=>h l (by simp[q]);rw[List.cons_append,qi,if_pos (h l EB),h1];rfl
def Hk{l:Ln}(r:List Ln)(h:l.length=2):qi (l::r)=([],l::r):=by rw[qi,if_neg EA]
structure BkOk (ls:List Ln):Prop where
 n:ls.length<=1048576
 l:∀l∈ls,l.length<=1048576/\∀w∈l,w.length<=1048576
 ne:∀l∈ls,l≠[]
theorem BkOk.tl{l:Ln}{r:List Ln}(h:BkOk (l::r)):BkOk r:=⟨by have:=h.n;simp at this;omega,λm hm=>h.l m (by simp[hm]),λm hm=>h.ne m (by simp[hm])⟩
def bq(b:Wd)(h:b.length<=1048576):PP 76 [T (bs b)] (.tup [I (zT b),B (yF b).isSome]):=by
 have:=ld b EA;unfold zT;cases a:yF b with
 |none=>rw[a]at this;exact this
 |some n=>rw[a]at this;exact this
def eU(r:List Ln):List.take r.length ((wl r).flatMap Enc.enc)=((wl r).flatMap Enc.enc:List PV):=by have:=Yw (wl r);rwa[List.length_map,show Enc.sz (List ByteArray)=1 from rfl,BU]at this
def Zzs(r:Ln):List.take r.length ((r.map bs).flatMap Enc.enc)=((r.map bs).flatMap Enc.enc:List PV):=by have:=Yw (r.map bs);rwa[List.length_map,show Enc.sz ByteArray=1 from rfl,BU]at this
def Wm{a b:Wd}(h:a≠b):bs a≠bs b:=λe=>h (by have:=congrArg ByteArray.toList e;simpa using this)
def Xk(w:Wd):List Ln->PV
 |[a,b]::r=>if a=w then .tup [L (wl r),I (zT b),B (yF b).isSome] else .tup [yE,I 0,B false]
 |_=>.tup [yE,I 0,B false]
def Hl(w:Wd)(ls:List Ln)(h:BkOk ls):PP 120 [L (wl ls),T (bs w)] (Xk w ls):=by
 refine zt func120 ntmps120 results120 λS nx f=>?_;refine EK ?_
 match ls,h with
 |[],_ =>
 repeat apply za
 refine ze [(3,12),(10,19)] zE ?_;refine aD ?_;refine EK ?_;exact EL f
 |l::r,h =>
 have c:(0:Int)<(r.length:Int)+1:=EA;have d:¬(r.length:Int)+1=0:=EA;have g:(0:Int)<=(r.length:Int)+1:=EA;have i:=eU r;by_cases h2:l.length=2
 .match l,h2,h with
  |[a,b],_,h =>
  have hb:=bq b ((h.l [a,b] EB).2 b EB);by_cases j:a=w;subst j;have k1:=Xe (bs a);rw[show Xk a ([a,b]::r)=.tup [L (wl r),I (zT b),B (yF b).isSome] from if_pos rfl];repeat apply za
  refine ze [(3,12),(10,19)] (zD d c k1) ?_;refine aC (aF [] c ?_);refine zq hb ?_;refine aF [] (zn g i) ?_;exact zg (zi f EC (by simp[zp]));have k1:=Xf (Wm j);rw[show Xk w ([a,b]::r)=.tup [yE,I 0,B false] from if_neg j];repeat apply za
  refine ze [(3,12),(10,19)] (zD d c k1) ?_;refine aD ?_;refine EK ?_;exact EL f
 have m:Xk w (l::r)=.tup [yE,I 0,B false]:=by unfold Xk;split;rename_i e;cases e;simp at h2;rfl
 have k:¬(l.length:Int)=2:=EA;rw[m];repeat apply za
 refine ze [(3,12),(10,19)] (yx d c k h2 zE) ?_;refine aD ?_;refine EK ?_;exact EL f
def Yq:List Ln->PV
 |[]=>.tup [yE,.agg [L ([]:zM)],B false]
 |l::r=>match jB l with
  |none=>.tup [yE,.agg [L ([]:zM)],B false]
  |some t=>.tup [L (wl r),.agg [L t],B true]
def Hm(m:Nat):∀{ns:List Int},ns.length=2*m->(vG ns).length=m:=by
 induction m with
 |zero=>intro ns h;obtain rfl:=Av EA;rfl
 |succ m c =>
 intro ns h
 match ns,h with
 |a::b::ns,h=>simp[vG,c (ns:=ns) (by simp at h;omega)]
def Hn(k:Nat):∀{ns:List Int} {m:Nat},ns.length=2*m->k<m->(vG ns)[k]?=some ⟨ns.getD (2*k) 0,ns.getD (2*k+1) 0⟩:=by
 induction k with
 |zero =>
  intro ns m h c
  match ns,h with
  |a::b::ns,h=>rfl
  |[],h=>simp at h;omega
  |[a],h=>simp at h;omega
 |succ k d =>
 intro ns m h c
 match ns,h with
 |a::b::ns,h =>
 have:=d (ns:=ns) (m:=m-1) (by simp at h;omega) EA;simp only[vG,Bk,this];rfl
 |[],h=>simp at h;omega
 |[a],h=>simp at h;omega
def Ho{l:Ln}(h:jg l=some ns):∀z∈ns,0<=z/\z<=1000000000000000000:=by
 unfold jg at h;split at h
 .cases h;intro z a;obtain⟨w,-,rfl⟩:=Aj.1 a;refine⟨lM w,?_⟩;unfold zT;cases e:yF w with
  |none=>simp
  |some n=>have:=J9 e;simp;omega
 cases h
def Zzt(ls:List Ln)(h:BkOk ls):PP 155 [L (wl ls)] (Yq ls):=by
 refine zt func155 ntmps155 results155 λS nx hd=>?_;refine EK ?_;intro v0
 match ls,h with
 |[],_ =>
 repeat apply za
 refine ze [(3,13)] zE ?_;refine aD ?_;refine EK ?_;refine yn 0 0 rfl rfl ?_;exact zg (zi hd EC (by simp[Yq]))
 |l::r,h =>
 obtain⟨w,ws,rfl⟩:∃w ws,l=w::ws:=by
  cases l with
  |nil=>exact absurd rfl (h.ne [] EB)
  |cons w ws=>exact⟨w,ws,rfl⟩
 have t:(0:Int)<(r.length:Int)+1:=EA;have a3:¬(r.length:Int)+1=0:=EA;have a4:(0:Int)<(ws.length:Int)+1:=EA;have b8:(0:Int)<=(r.length:Int)+1:=EA;have f:(0:Int)<=(ws.length:Int)+1:=EA;have c6:=eU r;have g:=Zzs ws;have u:=h.l (w::ws) EB;by_cases ha:w=wB
 .subst ha;have k1:qD .neq (bs wB) ⟨#[116,111,117,114]⟩=some (.bool false):=Xe _;have c:=ez ws (by have:=u.1;simp at this;omega) (λw hw=>by have:=u.2 w (by simp[hw]);omega);have c7:L (ws.map bs)=.lst ws.length ((ws.map bs).flatMap Enc.enc):=by show PV.lst _ _=_;rw[List.length_map]
  rw[c7]at c;have o:(∀n ns,jg ws=some (n::ns)->¬(ns.length:Int)=2*n)->Yq ((wB::ws)::r)=.tup [yE,.agg [L ([]:zM)],B false]:=λq=>by
   have:jB (wB::ws)=none:=by unfold jB;simp only[if_true];split;rename_i n ns e;rw[if_neg (q n ns e)];rfl
   simp[Yq,this]
  repeat apply za
  refine ze [(3,13)] (zR a3 t a4 k1) ?_;refine aC (aF [] t ?_);cases hz:jg ws with
  |none =>
  rw[o (by rw[hz];simp)];rw[hz]at c;simp only[vE]at c;refine aF [] (zn f g) ?_;refine zq c ?_;repeat apply za
  refine ze [(2,37),(7,42)] zE ?_;refine aD ?_;refine EK ?_;refine yn 0 0 rfl rfl ?_;exact EL hd
  |some ns =>
  rw[hz]at c o;simp only[vE]at c;cases ns with
  |nil =>
  rw[o EB];refine aF [] (zn f g) ?_;refine zq c ?_;repeat apply za
  refine ze [(2,37),(7,42)] zE ?_;refine aD ?_;refine EK ?_;refine yn 0 0 rfl rfl ?_;exact EL hd
  |cons p nl =>
  have hb:=Ho hz p EB;have w1:IntKind.i64.wrap (2*p)=2*p:=wr _ EA EA;have w2:IntKind.i64.wrap (2*p+1)=2*p+1:=wr _ EA EA;have a5:(0:Int)<(nl.length:Int)+1:=EA;have a6:¬(nl.length:Int)+1=0:=EA;by_cases d:(nl.length:Int)=2*p;have c8:Yq ((wB::ws)::r)=.tup [L (wl r),.agg [L (vG nl)],B true]:=by
   have:jB (wB::ws)=some (vG nl):=by unfold jB;simp only[if_true,hz];rw[if_pos d]
   simp[Yq,this]
  rw[c8];obtain⟨m,rfl⟩:∃m:Nat,p=m:=⟨p.toNat,by omega⟩;have v:nl.length=2*m:=EA;have a7:=Hm m v;have d0:=λk=>Hn k (m:=m) v;have x:=eq_true (show (nl.length:Int)+1=2*m+1 by omega);have y:=eq_true d;have z:=eq_true v;obtain⟨ns,a0⟩:∃ns,ns=(m:Int)::nl:=⟨_,rfl⟩;have e0:ns.length=2*m+1:=by rw[a0];simp;omega
  have a8:∀k,ns[k+1]?=nl[k]?:=λk=>by rw[a0];rfl
  have e1:m<=1048576:=by have:=eo hz;have:=u.1;simp at *;omega
  generalize vG nl=ps at *;obtain⟨ls,e2⟩:∃ls,ls=wl ((wB::ws)::r):=⟨_,rfl⟩;refine aF [] (zn f g) ?_;refine zq c ?_;repeat apply za
  refine ze [(2,37),(7,42)] (zU a6 a5 w1 w2 x (zn y z)) ?_;refine aC (EK ?_);intro v1;refine qy 1 0 101 2 rfl rfl λv2=>?_;repeat apply za
  refine zb ?_;refine zj (zC (λs:Nat × Nat × Nat=>s.1<=m/\s.2.1=1+2*s.1) (λ(j,i,w)=>[(0,L (wl ((wB::ws)::r))),(3,.ptr nx v0 0),(6,L ns),(8,.ptr (nx+1) v1 0),(9,I i)]) (λ(j,i,w)=>[.cells v0 99 [yE],.cells v1 99 [.sl (nx+2) w 2 0 j],.cells w 101 ((ps.take j).flatMap Enc.enc)]) (λs=>m-s.1) (0,1,v2) [] EB (by simp[a0]) EB ?_);rintro⟨j,i,w⟩ ⟨hj,d1⟩;simp only at hj d1 ⊢;repeat apply za
  refine zb ?_;refine zv rfl (λhc=>?_) (λhc=>?_);simp at hc;have a9:j<m:=EA;obtain⟨a,tl,a1,-,-,f0⟩:=zF rfl ns i EA;obtain⟨b,e3,b1,-,-,f1⟩:=zF rfl ns (i+1) EA;have hs:=d0 j a9;have d2:nl[2*j]?=some a:=by rw[<-a8,<-a1];congr 1;omega
  have d3:nl[2*j+1]?=some b:=by rw[<-a8,<-b1];congr 1;omega
  rw[List.getD_eq_getElem?_getD,List.getD_eq_getElem?_getD,d2,d3]at hs;simp only[Option.getD_some]at hs;have d4:(ps.take (j+1)).flatMap Enc.enc=(ps.take j).flatMap Enc.enc++[I a,I b]:=by rw[AE,hs,Ar];rfl
  have d5:((ps.take j).flatMap Enc.enc:List PV).length=j*2:=by rw[Qa,Az,a7];omega
  have b7:List.take (j*2) ((ps.take j).flatMap Enc.enc)=((ps.take j).flatMap Enc.enc:List PV):=Ae (by rw[d5];exact Af _);have w3:=zu i EA;have d6:(i:Int)<ns.length:=EA;have d7:i+1<ns.length:=EA;have d8:(i:Int)+1<ns.length:=EA;have d9:(0:Int)<=(i:Int)+1:=EA;refine zh (aA (zA (some []) (Row.pures [0,2,3,4,5,6,7,8,9,10,11,12] (.alt 1 (.alt 13 RP .stop) .stop)) mixed (zU f0 f1 w3 hc d6 (zR d7 d8 d9 b7)) ?_));refine⟨by omega,?_⟩;refine zb ?_;exact zr (j+1,i+2,w+1) [] ⟨a9,by simp only;omega⟩ EA (by simp;rw[wr _ EA EA]) rfl (by simp only[d4,AA]);simp at hc;obtain rfl:j=m:=EA;rw[show ps.take j=ps from Ae EA];refine zx (zY 2 rfl ?_);refine aG (some [nx+1]) RM mixed (zn b8 c6) ?_;exact zg (zi hd EC (by simp[zp,a7]));have a2:¬(nl.length:Int)+1=2*p+1:=EA;rw[o (λn ns e=>by cases e;exact d)];refine aF [] (zn f g) ?_;refine zq c ?_;repeat apply za
  refine ze [(2,37),(7,42)] (yx a6 a5 w1 w2 a2) ?_;refine aD ?_;refine EK ?_;refine yn 0 0 rfl rfl ?_;exact EL hd
 have k1:qD .neq (bs w) ⟨#[116,111,117,114]⟩=some (.bool true):=Xf (Wm ha);rw[show Yq ((w::ws)::r)=.tup [yE,.agg [L ([]:zM)],B false] by simp[Yq,jB,ha]];repeat apply za
 refine ze [(3,13)] (zR a3 t a4 k1) ?_;refine aD ?_;refine EK ?_;refine yn 0 0 rfl rfl ?_;exact EL hd
def Hq(w:Wd)(ls:List Ln):(∃P k,Xk w ls=.tup [P,I k,B false]/\(P=yE\/∃r,P=L (wl r))/\∀l r,ls=l::r->wD w l=none)\/∃b r n,ls=[w,b]::r/\yF b=some n/\Xk w ls=.tup [L (wl r),I (n:Nat),B true]:=by
 unfold Xk;split;rename_i a b r;split
 .rename_i e;subst e;cases c:yF b with
  |none=>exact .inl ⟨_,zT b,rfl,.inr ⟨r,rfl⟩,λl q e=>by cases e;simp[wD,c]⟩
  |some n =>
  refine .inr ⟨b,r,n,rfl,c,?_⟩;have:zT b=(n:Nat):=by unfold zT;rw[c];rfl
  rw[this];simp
 rename_i e;exact .inl ⟨_,_,rfl,.inl rfl,λl q d=>by cases d;simp[wD,e]⟩;rename_i hx;refine .inl ⟨_,_,rfl,.inl rfl,λl q e=>?_⟩;unfold wD;split;rename_i a b;exact absurd e (hx a b q);rfl
abbrev Zzu:PV:=.tup [yE,.agg [L ([]:zM)],B false]
def Zzv(q:List Ln):(Yq q=Zzu/\∀m,qe (m+1) q=none)\/∃l r t,q=l::r/\Yq q=.tup [L (wl r),.agg [L t],B true]/\∀m,qe (m+1) q=(qe m r).map λp=>(p.1,t::p.2):=by
 cases q with
 |nil=>exact .inl ⟨rfl,λm=>rfl⟩
 |cons l r =>
 cases h:jB l with
 |none=>exact .inl ⟨by simp[Yq,h],λm=>by simp[qe,h]⟩
 |some t=>exact .inr ⟨l,r,t,rfl,by simp[Yq,h],λm=>by simp[qe,h]⟩
def Jp(ls:List Ln):PV:=match xY ls with
 |none=>.tup [yE,.agg [L ([]:zo)],B false]
 |some p=>.tup [L (wl p.1),.agg [L p.2],B true]
def Zzw(ls:List Ln)(h:BkOk ls):PP 121 [L (wl ls)] (Jp ls):=by
 have hc:=Hl qv ls h;refine zt func121 ntmps121 results121 λS nx x=>?_;refine EK ?_;intro v0;obtain⟨P,k,e,hP,hn⟩|⟨b,r,n,rfl,hz,e⟩:=Hq qv ls
 .have y:xY ls=none:=by unfold xY;split;rfl;rw[hn _ _ rfl]
  rw[show Jp ls=.tup [yE,.agg [L ([]:zo)],B false] by simp[Jp,y]];rw[e]at hc;obtain rfl|⟨r,rfl⟩:=hP;all_goals
   refine EK ?_;refine zq hc ?_;repeat apply za
   refine zb ?_;refine aD ?_;refine EK ?_;refine yn 0 0 rfl rfl ?_;exact EL x
 rw[e]at hc;have a5:=J9 hz;have hr:=h.tl;have z:=hr.n;have a0:xY ([qv,b]::r)=qe n r:=by simp[xY,wD,hz]
 obtain⟨m,j⟩:∃m,m=Jp ([qv,b]::r):=⟨_,rfl⟩;have a:m=match qe n r with|none=>.tup [yE,.agg [L ([]:zo)],B false]|some p=>.tup [L (wl p.1),.agg [L p.2],B true]:=by rw[j,Jp,a0]
 rw[<-j];refine EK ?_;refine zq hc ?_;repeat apply za
 refine zb ?_;refine aC (EK ?_);intro v1;refine qy 1 0 99 1 rfl rfl λv2=>?_;repeat apply za
 refine zb ?_;refine zj (zC (λs:Nat × List Ln × zo × Nat=>s.1<=n/\s.2.2.1.length=s.1/\BkOk s.2.1/\qe n r=(qe (n-s.1) s.2.1).map (λp=>(p.1,s.2.2.1++p.2))/\s.1+s.2.1.length<=1048576) (λ(k,q,d,w)=>[(0,L (wl q)),(3,.ptr nx v0 0),(7,.ptr (nx+1) v1 0),(18,I n),(19,I k)]) (λ(k,q,d,w)=>[.cells v0 96 [yE],.cells v1 96 [.sl (nx+2) w 1 0 k],.cells w 99 (d.flatMap Enc.enc)]) (λs=>n-s.1) (0,r,[],v2) [] ⟨BO _,rfl,hr,by simp,by simpa using z⟩ EB EB ?_);rintro⟨k,q,d,w⟩ ⟨hk,f,hq,c,o⟩;simp only at hk f hq c o ⊢;refine EK ?_;refine za (zv rfl (λg=>?_) (λg=>?_));simp at g;have i:=Zzt q hq;have u:n-k=(n-(k+1))+1:=EA;have a1:(d.flatMap Enc.enc:List PV).length=k:=(jJ d).trans f;have a2:List.take k (d.flatMap Enc.enc)=(d.flatMap Enc.enc:List PV):=Ae EA;refine zh (aA (EK ?_));intro v3;obtain⟨e1,e2⟩|⟨l,r',t,rfl,e1,e2⟩:=Zzv q;rw[e1]at i;rw[u,e2]at c;rw[c]at a;repeat apply za
 refine zb ?_;refine zq i ?_;refine EK ?_;refine aD ?_;refine EK ?_;refine yn 0 0 rfl rfl ?_;exact zg (zi x EC (by simp[zp,a]));rw[e1]at i;rw[u,e2]at c;have a3:(d++[t]).flatMap Enc.enc=d.flatMap Enc.enc++[L t]:=by rw[Ar];rfl
 repeat apply za
 refine zb ?_;refine zq i ?_;refine EK ?_;refine aC (ze [] (zn a1 a2) ?_);refine⟨by omega,?_⟩;refine zb ?_;exact zr (k+1,r',d++[t],w+1) [_] ⟨g,by simp[f],hq.tl,by rw[c,CP];congr 1;funext p;simp,by simp at o ⊢;omega⟩ (by simp only;omega) (by simp[zu k EA]) rfl (by simp only[a3];rfl);simp at g;obtain rfl:k=n:=EA;rw[Bs]at c;simp only[qe,AR,AA]at c;rw[c]at a;have a4:∀id v cs,(d.flatMap Enc.enc).map (qz id v cs)=(d.flatMap Enc.enc:List PV):=λid v cs=>J4 id v cs d;refine zx (zY 2 rfl ?_);simp only[Ap,A8,AO,AW,xy,a4];refine aG (some [nx+1]) (Row.pures [0,1,2] (.alt 3 U7 .stop)) mixed trivial ?_;exact zg (zi x EC (by simp[zp,a,f]))
def Hr{r:List Ln}{d:zo}(h:xY ls=some (r,d)):(∀l∈r,l∈ls)/\r.length<ls.length:=by unfold xY at h;split at h;cases h;split at h;cases h;have h1:=bp h;exact⟨λl q=>BT _ (Zzr h l q),by simp;omega⟩
theorem BkOk.sub{r:List Ln}(h:BkOk ls)(h1:∀l∈r,l∈ls)(h2:r.length<ls.length):BkOk r:=⟨by have:=h.n;omega,λl ls=>h.l l (h1 l ls),λl ls=>h.ne l (h1 l ls)⟩
def Zzx(q:List Ln):(Jp q=.tup [yE,.agg [L ([]:zo)],B false]/\∀m,qr (m+1) q=none)\/∃r d,Jp q=.tup [L (wl r),.agg [L d],B true]/\(∀m,qr (m+1) q=(qr m r).map λp=>(p.1,d::p.2))/\(∀l∈r,l∈q)/\r.length<q.length:=by
 cases h:xY q with
 |none=>exact .inl ⟨by simp[Jp,h],λm=>by simp[qr,h]⟩
 |some p=>exact .inr ⟨p.1,p.2,by simp[Jp,h],λm=>by simp[qr,h],Hr h⟩
def QN(o:Option zy):PV:=match o with
 |none=>.tup [.agg [L ([]:zy)],I 2]
 |some p=>.tup [.agg [L p],I 0]
def lO(a:y9 t=some ls)(hl:t.length<=1048576):BkOk ls:=by have h:=li a hl;obtain⟨-,h2,-⟩:=ek _ (Af _) a;exact⟨h.1,h.2,h2⟩
def Zzy(t:List UInt8)(hl:t.length<=1048576):PP 77 [T (bs t)] (QN ((y9 t).bind xL)):=by
 have a:=lh t hl;refine zt func77 ntmps77 results77 λS nx m=>?_;refine EK ?_;intro v0;cases z:y9 t with
 |none =>
 rw[z]at a;simp only[Yo]at a;simp only[Option.bind_none,QN];refine EK ?_;refine zq a ?_;repeat apply za
 refine zb ?_;refine aD ?_;refine EK ?_;refine yn 0 0 rfl rfl ?_;exact EL m
 |some ls =>
 rw[z]at a;simp only[Yo]at a;simp only[Cl];have h:=lO z hl;have hc:=Hl ji ls h;refine EK ?_;refine zq a ?_;repeat apply za
 refine zb ?_;refine aC ?_;obtain⟨P,k,e,hP,hn⟩|⟨b,r,n,rfl,o,e⟩:=Hq ji ls
 .have a0:xL ls=none:=by unfold xL;split;rfl;rw[hn _ _ rfl]
  rw[a0];simp only[QN];rw[e]at hc;obtain rfl|⟨r,rfl⟩:=hP;all_goals
   refine EK ?_;refine zq hc ?_;repeat apply za
   refine zb ?_;refine aD ?_;refine EK ?_;refine yn 0 0 rfl rfl ?_;exact EL m
 rw[e]at hc;have a7:=J9 o;have hr:=h.tl;have a1:=hr.n;have a2:xL ([ji,b]::r)=match qr n r with|some ([],p)=>some p|_=>none:=by simp only[xL,wD,if_true,o]<;>rfl
 obtain⟨u,c⟩:∃u,u=QN (xL ([ji,b]::r)):=⟨_,rfl⟩;rw[<-c];rw[a2]at c;refine EK ?_;refine zq hc ?_;repeat apply za
 refine zb ?_;refine aC (EK ?_);intro v1;refine qy 1 0 96 1 rfl rfl λv2=>?_;repeat apply za
 refine zb ?_;refine zj (zC (λs:Nat × List Ln × zy × Nat=>s.1<=n/\s.2.2.1.length=s.1/\BkOk s.2.1/\qr n r=(qr (n-s.1) s.2.1).map (λp=>(p.1,s.2.2.1++p.2))/\s.1+s.2.1.length<=1048576) (λ(k,q,d,w)=>[(2,.ptr nx v0 0),(4,L (wl q)),(8,.ptr (nx+1) v1 0),(27,I n),(28,I k)]) (λ(k,q,d,w)=>[.cells v0 31 [yE],.cells v1 31 [.sl (nx+2) w 1 0 k],.cells w 96 (d.flatMap Enc.enc)]) (λs=>n-s.1) (0,r,[],v2) [] ⟨BO _,rfl,hr,by simp,by simpa using a1⟩ EB EB ?_);rintro⟨k,q,d,w⟩ ⟨hk,g,hq,f,x⟩;simp only at hk g hq f x ⊢;refine EK ?_;refine za (zv rfl (λi=>?_) (λi=>?_));simp at i;have j:=Zzw q hq;have y:n-k=(n-(k+1))+1:=EA;have a3:(d.flatMap Enc.enc:List PV).length=k:=(jJ d).trans g;have a4:List.take k (d.flatMap Enc.enc)=(d.flatMap Enc.enc:List PV):=Ae EA;refine zh (aA (EK ?_));intro v3;obtain⟨e1,e2⟩|⟨r',t,e1,e2,e3,e4⟩:=Zzx q;rw[e1]at j;rw[y,e2]at f;rw[f]at c;simp only[Eb,QN]at c;repeat apply za
 refine zb ?_;refine zq j ?_;refine EK ?_;refine aD ?_;refine EK ?_;refine yn 0 0 rfl rfl ?_;exact zg (zi m EC (by simp[zp,c]));rw[e1]at j;rw[y,e2]at f;have a5:(d++[t]).flatMap Enc.enc=d.flatMap Enc.enc++[L t]:=by rw[Ar];rfl
 repeat apply za
 refine zb ?_;refine zq j ?_;refine EK ?_;refine aC (ze [] (zn a3 a4) ?_);refine⟨by omega,?_⟩;refine zb ?_;exact zr (k+1,r',d++[t],w+1) [_] ⟨i,by simp[g],hq.sub e3 e4,by rw[f,CP];congr 1;funext p;simp,by simp at x ⊢;omega⟩ (by simp only;omega) (by simp[zu k EA]) rfl (by simp only[a5];rfl);simp at i;obtain rfl:k=n:=EA;rw[Bs]at f;simp only[qr,AR,AA]at f;rw[f]at c;have a6:∀id v cs,(d.flatMap Enc.enc).map (qz id v cs)=(d.flatMap Enc.enc:List PV):=λid v cs=>J4 id v cs d;refine zx (zY 2 rfl ?_);simp only[Ap,A8,AO,AW,xy,a6];cases q with
 |nil =>
 simp only[QN]at c;repeat apply za
 refine zb ?_;refine aC (EK ?_);exact zg (zi m EC (by simp[zp,c,g]))
 |cons l q =>
 simp only[QN]at c;repeat apply za
 refine zb ?_;refine aD ?_;refine EK ?_;refine yn 0 0 rfl rfl ?_;exact zg (zi m EC (by simp[zp,c]))
open Go.RowKit
def Zzz(b:Nat)(c:Array Value)(w:World)(a:w.heap[b]?=some (.cells c 79 (0,0)))(h1:c[1]?=some (.slice none 0 0)):
  Calls prog 42 #[.pointer (some ⟨b,0,none⟩)] w λe w'=>e=.returned (.string (bs []))/\w'=w.drew:=by
 have c1:w.drew.cell? ⟨b,1,none⟩=some (.slice none 0 0):=by have:w.drew.heap[b]?=some (.cells c 79 (0,0)):=a;rw[Lib.cell_of_heap this];exact h1
 have d:(Builtin.unsafeSliceData_ #[77] 126 #[.slice none 0 0]).run prog w.drew=.ok (.pointer none) w.drew:=Lib.run_unsafeSliceData_nil _ _ _ _ _;have f:(Builtin.unsafeString_ #[126,3] 9 #[.pointer none,.int .i64 0]).run prog w.drew=.ok (.string .empty) w.drew:=Lib.run_unsafeString_none _ _ _ _ _;have g:bs []=ByteArray.empty:=rfl;rw[g]
 go_enter func42,ntmps42
 go_wp2
 go_region
 all_goals (go_wp2;go_ret;exact⟨rfl,rfl⟩)
def ZzA{id v:Nat}{p:PV}(d:S id=.cells v 79 [p,yE]):
  SP 42 [.ptr id v 0] S (λq S'=>q=T (bs [])/\S'=S):=by
 refine⟨qL func42 EG rfl,?_⟩;intro C w vs f hl g;obtain⟨u,rfl⟩:=dV hl;have h:=g 0 _ u rfl rfl;cases h with
 |ptr h1 h2 h3 =>
 obtain⟨b,k,a,rfl⟩:=(h3 v (by rw[d];rfl)).2 rfl;obtain⟨b',k',c,c0,c1,g1,i,g3,g4,n,j,r0,r1,o⟩:=dW f d;rw[a]at g1;cases g1;cases r1 with
 |sc _ =>
 refine(Zzz b c w i j).mono ?_;rintro e w' ⟨rfl,rfl⟩;obtain⟨l,m⟩:=f.drew;exact⟨_,_,_,_,rfl,⟨rfl,rfl⟩,.sc _,l,m⟩
abbrev br:Rep:=⟨0,0,0,0,[],[]⟩
def wY(t:List UInt8):Rep × Bool:=match y9 t with
 |none=>(br,false)
 |some ls=>match uK ls with
  |none=>(br,false)
  |some r=>(r,decide (zN (qg r)=t))
def LnsSz(ls:List Ln):Prop:=ls.length<=1000/\∀l∈ls,l.length<=2000
theorem Hs:∀(l:List Int),(∀s∈vG l,s.c∈l/\s.q∈l)/\2*(vG l).length<=l.length
 |[]=>by simp[vG]
 |[a]=>by simp[vG]
 |a::b::l=>by have h:=Hs l;constructor;intro s hs;obtain rfl|hs:=Al.1 hs;simp;have:=h.1 s hs;simp[this];simp only[vG,Ab];omega
def Ht(w:Wd):0<=zT w/\zT w<=1000000000000000000:=by
 refine⟨lM w,?_⟩;unfold zT;cases h:yF w with
 |none=>simp
 |some n=>have:=J9 h;simp;omega
def Hu{l:Ln}{t:zM}(h:jB l=some t):2*t.length<=l.length/\∀s∈t,(0<=s.c/\s.c<=1000000000000000000)/\0<=s.q/\s.q<=1000000000000000000:=by unfold jB at h;split at h;cases h;rename_i w ws;split at h;split at h;rename_i n ns hn;split at h;cases h;have h1:=Hs ns;have h2:=Ho hn;have h3:=eo hn;simp only[Ab]at h3 ⊢;refine⟨by omega,λs hs=>?_⟩;obtain⟨a,b⟩:=h1.1 s hs;exact⟨h2 _ (by simp[a]),h2 _ (by simp[b])⟩;cases h;cases h;cases h
def ZzB:∀{ls r:List Ln} {d:zo},qe n ls=some (r,d)->∀t∈d,∃l∈ls,jB l=some t:=by
 induction n with
 |zero=>intro ls r d h;simp only[qe,Option.some.injEq,Prod.mk.injEq]at h;obtain⟨rfl,rfl⟩:=h;simp
 |succ n b =>
 intro ls r d h;cases ls with
 |nil=>simp[qe]at h
 |cons l ls =>
 unfold qe at h;split at h;cases h;rename_i t c;obtain⟨p,f,e⟩:=An.1 h;cases e;intro u a;obtain rfl|a:=Al.1 a;exact⟨l,by simp,c⟩;obtain⟨m,hm,q⟩:=b (r:=p.1) (d:=p.2) f u a;exact⟨m,by simp[hm],q⟩
def ZzC{r:List Ln}{d:zo}(h:xY ls=some (r,d)):d.length<=ls.length/\∀t∈d,∃l∈ls,jB l=some t:=by unfold xY at h;split at h;cases h;split at h;cases h;have h1:=bp h;refine⟨by simp;omega,λt a=>?_⟩;obtain⟨m,hm,q⟩:=ZzB h t a;exact⟨m,by simp[hm],q⟩
def ZzD:∀{ls r:List Ln} {p:zy},qr n ls=some (r,p)->∀d∈p,d.length<=ls.length/\∀t∈d,∃l∈ls,jB l=some t:=by
 induction n with
 |zero=>intro ls r d h;simp only[qr,Option.some.injEq,Prod.mk.injEq]at h;obtain⟨rfl,rfl⟩:=h;simp
 |succ n f =>
 intro ls r p h;unfold qr at h;split at h;cases h;rename_i q b;obtain⟨c,g,e⟩:=An.1 h;cases e;intro d a;obtain rfl|a:=Al.1 a;exact ZzC (r:=q.1) b;obtain⟨h1,h2⟩:=f (r:=c.1) (p:=c.2) g d a;obtain⟨s1,s2⟩:=Hr (r:=q.1) (d:=q.2) b;refine⟨by omega,λt i=>?_⟩;obtain⟨m,hm,e⟩:=h2 t i;exact⟨m,s1 m hm,e⟩
def Hv{p:zy}(h:xL ls=some p)(hs:LnsSz ls):PlanTold p:=by unfold xL at h;split at h;cases h;rename_i l r;split at h;cases h;rename_i n f;split at h;rename_i q c;cases h;have h1:=Zzq c;have h2:=ZzD c;have h3:=hs.1;simp only[Ab,Ag]at h1 h3;refine⟨by omega,λd a=>by have:=(h2 d a).1;omega,λd a t b=>?_,λd a t b=>?_⟩;obtain⟨m,hm,e⟩:=(h2 d a).2 t b;have:=(Hu e).1;have:=hs.2 m (by simp[hm]);omega;obtain⟨m,hm,e⟩:=(h2 d a).2 t b;exact(Hu e).2;cases h
theorem lP:∀(ls:List Ln),(qi ls).1.length+(qi ls).2.length=ls.length/\(∀l∈(qi ls).2,l∈ls)/\∀z∈(qi ls).1,0<=z/\z<=1000000000000000000
 |[]=>by simp[qi]
 |l::r=>by have h:=lP r;rw[qi];split;refine⟨by simp;omega,λm hm=>BT _ (h.2.1 m hm),λz a=>?_⟩;obtain rfl|a:=Al.1 a;exact Ht _;exact h.2.2 z a;simp
theorem LnsSz.sub{q:List Ln}(h:LnsSz ls)(h1:∀l∈q,l∈ls)(h2:q.length<=ls.length):LnsSz q:=⟨by have:=h.1;omega,λl hl=>h.2 l (h1 l hl)⟩
def Hw{r:Rep}(h:uK ls=some r)(hs:LnsSz ls):r.out=4/\RepTold r:=by unfold uK at h;split at h;cases h;split at h;cases h;rename_i p a;cases h;obtain⟨c,d,e⟩:=lP (ls.drop 4);rw[Bq]at c;have h1:=hs.1;have b:=λl:Ln=>Ht (l.getD (l.length-1) []);refine⟨rfl,⟨by have:=b (ls.getD 1 []);simp only[vH];omega,by have:=b (ls.getD 2 []);simp only[vH];omega,by have:=b (ls.getD 3 []);simp only[vH];omega,by simp only;omega,λz f=>by have:=e z f;omega,?_⟩⟩;exact Hv a (hs.sub (λl hl=>BS (d l hl)) EA)
def lQ(l:Ln)(a:l≠[])(hl:l.length<=1048576):∃u tl,List.drop (l.length-1) ((l.map bs).flatMap Enc.enc)=Enc.enc (bs u)++tl/\vH l=zT u/\u∈l/\IntKind.i64.wrap ((l.length:Int)-1)=(l.length:Int)-1/\((l.length:Int)-1).toNat=l.length-1/\1<=(l.length:Int)/\(l.length:Int)-1<l.length/\l.length-1<l.length:=by have h0:0<l.length:=BD.2 a;obtain⟨u,tl,b,c⟩:=Wb l (l.length-1) EA;refine⟨u,tl,c,?_,Aa b,wr _ EA EA,by omega,by omega,by omega,by omega⟩;unfold vH;rw[List.getD_eq_getElem?_getD,b];rfl
theorem Hy:∀(ls:List Ln),∃M,ls=M++(qi ls).2
 |[]=>⟨[],rfl⟩
 |l::r=>by obtain⟨M,h⟩:=Hy r;rw[qi];split;exact⟨l::M,by simp[<-h]⟩;exact⟨[],rfl⟩
def ZzE(t:List UInt8)(hl:t.length<=1048576)(d0:∀ls,y9 t=some ls->LnsSz ls):PP 44 [T (bs t)] (.tup [.agg (Xg (wY t).1),B (wY t).2]):=by
 have f:=lh t hl;cases hz:y9 t with
 |none =>
 rw[hz]at f;simp only[Yo]at f;have x:wY t=(br,false):=by unfold wY;rw[hz]
 rw[x];refine zt func44 ntmps44 results44 λS nx hd=>?_
 refine EK ?_;intro v0;refine EK ?_;refine zq f ?_
 repeat apply za
 refine ze [(2,23)] zE ?_;refine aD ?_;refine EK ?_;refine yn 0 4 rfl rfl ?_;refine yn 0 5 rfl rfl ?_;exact zg (zi hd EC (by simp[zp]))
 |some ls =>
 rw[hz]at f;simp only[Yo]at f;have h:=lO hz hl;have hs:=d0 ls hz;have a5:=(ek _ (Af _) hz);have x:wY t=match uK ls with|none=>(br,false)|some r=>(r,decide (zN (qg r)=t)):=by simp only[wY,hz]<;>rfl
 by_cases h4:ls.length<4
 .have d1:wY t=(br,false):=by rw[x];unfold uK;rw[if_pos h4]
  have d2:(ls.length:Int)<4:=EA
  rw[d1];refine zt func44 ntmps44 results44 λS nx hd=>?_
  refine EK ?_;intro v0;refine EK ?_;refine zq f ?_
  repeat apply za
  refine ze [(2,23)] (zn d2 h4) ?_;refine aD ?_;refine EK ?_;refine yn 0 4 rfl rfl ?_;refine yn 0 5 rfl rfl ?_;exact zg (zi hd EC (by simp[zp]))
 obtain⟨l0,y,l2,z,q0,rfl⟩:∃l0 y l2 z q0,ls=l0::y::l2::z::q0:=by
  rcases ls with _|⟨l0,_|⟨y,_|⟨l2,_|⟨z,q0⟩⟩⟩⟩
  all_goals first|exact⟨_,_,_,_,_,rfl⟩|(simp at h4)
 have a6:=h.tl.tl.tl.tl;have g5:=a6.n;have n4:¬(q0.length:Int)+1+1+1+1<4:=EA
 obtain⟨u1,g6,f1,e1,m1,w1,z1,y1,x1,p1⟩:=lQ y (h.ne y EB) (h.l y EB).1;obtain⟨u2,g7,f2,e2,m2,w2,z2,y2,x2,p2⟩:=lQ l2 (h.ne l2 EB) (h.l l2 EB).1;obtain⟨u3,g8,f3,e3,m3,w3,z3,y3,x3,p3⟩:=lQ z (h.ne z EB) (h.l z EB).1;have d3:=bq u1 ((h.l y EB).2 u1 m1);have d4:=bq u2 ((h.l l2 EB).2 u2 m2);have d5:=bq u3 ((h.l z EB).2 u3 m3);have s1:IntKind.i64.wrap 1=1:=rfl;have s2:IntKind.i64.wrap 2=2:=rfl;have s3:IntKind.i64.wrap 3=3:=rfl;have i1:(1:Int)<(q0.length:Int)+1+1+1+1:=EA
 have i2:(2:Int)<(q0.length:Int)+1+1+1+1:=EA
 have i3:(3:Int)<(q0.length:Int)+1+1+1+1:=EA
 have i4:(4:Int)<=(q0.length:Int)+1+1+1+1:=EA
 have a7:uK (l0::y::l2::z::q0)=match xL (qi q0).2 with|none=>none|some p=>some ⟨4,zT u1,zT u2,zT u3,(qi q0).1,p⟩:=by
  unfold uK;rw[if_neg h4]
  show (match xL (qi q0).2 with|none=>none|some p=>some (⟨4,vH y,vH l2,vH z,(qi q0).1,p⟩:Rep))=_
  rw[e1,e2,e3]
 rw[a7]at x;have d6:=eU q0;generalize zT u1=b1 at *;generalize zT u2=b2 at *;generalize zT u3=b3 at *;obtain⟨V,d7⟩:∃V,V=wY t:=⟨_,rfl⟩;rw[<-d7]at x ⊢;refine zt func44 ntmps44 results44 λS nx hd=>?_
 refine EK ?_;intro v0;refine EK ?_;refine zq f ?_
 repeat apply za
 refine ze [(2,23)] n4 ?_;refine aC (EK ?_);intro v1
 repeat apply za
 refine zb ?_;refine zj (zC (λk:Nat=>k<=3) (λk=>[(0,T (bs t)),(2,.ptr nx v0 0),(4,L (wl (l0::y::l2::z::q0))),(6,.ptr (nx+1) v1 0),(33,.lst 3 [.ptr (nx+1) v1 1,.ptr (nx+1) v1 2,.ptr (nx+1) v1 3]),(34,I 3),(35,I k)]) (λk=>[.cells v0 33 [I 0,I 0,I 0,I 0,yE,yE],.cells v1 33 [I 4,I (if 0<k then b1 else 0),I (if 1<k then b2 else 0),I (if 2<k then b3 else 0),yE,yE]]) (λk=>3-k) 0 [] EB EB EB ?_);rintro k hk
 (try simp only at hk ⊢)
 have d8:k=0\/k=1\/k=2\/k=3:=EA
 obtain rfl|rfl|rfl|rfl:=d8
 .refine EK ?_;refine za (aD ?_);refine zh (aA (EK ?_));refine aF [] (zn i1 s1) ?_;refine ze [] (zU w1 z1 y1 x1 p1 f1) ?_;refine zq d3 ?_;refine zb ?_;exact zr 1 [] EA EA (by simp[s1]) rfl EB
 .refine EK ?_;refine za (aD ?_);refine zh (aA (EK ?_));refine aF [] (zn i2 s2) ?_;refine ze [] (zU w2 z2 y2 x2 p2 f2) ?_;refine zq d4 ?_;refine zb ?_;exact zr 2 [] EA EA (by simp[s2]) rfl EB
 .refine EK ?_;refine za (aD ?_);refine zh (aA (EK ?_));refine aF [] (zn i3 s3) ?_;refine ze [] (zU w3 z3 y3 x3 p3 f3) ?_;refine zq d5 ?_;refine zb ?_;exact zr 3 [] EA EA (by simp[s3]) rfl EB
 refine EK ?_;refine za (aE ?_);refine zx (qy 1 4 3 1 rfl rfl λv2=>?_);simp only[AO,AW,List.cons_append,AI,Ab,Ag];refine aF [] (zn i4 d6) ?_
 show PW _ _ _ _ _ _ _ (ext _ _ _)
 refine Uh (A:=∀(q:List Ln) (ds:List Int) (w:Nat),BkOk q->qi q0=(ds,q)->ds.length<=1048576->PW prog jI 0 119 ?tl ?Q2 (fr [(0,T (bs t)),(2,.ptr nx v0 0),(6,.ptr (nx+1) v1 0),(10,L (wl q))]) (ext S nx [.cells v0 33 [I 0,I 0,I 0,I 0,yE,yE],.cells v1 33 [I 4,I b1,I b2,I b3,.sl (nx+2) w 1 0 ds.length,yE],.cells w 3 (ds.flatMap Enc.enc)])) ?h2 ?h1
 case h2 =>
  intro a0;refine aA (zC (λs:List Ln × List Int × Nat=>BkOk s.1/\qi q0=(s.2.1++(qi s.1).1,(qi s.1).2)/\s.2.1.length+s.1.length<=q0.length) (λ(q,ds,w)=>[(0,T (bs t)),(2,.ptr nx v0 0),(6,.ptr (nx+1) v1 0),(10,L (wl q))]) (λ(q,ds,w)=>[.cells v0 33 [I 0,I 0,I 0,I 0,yE,yE],.cells v1 33 [I 4,I b1,I b2,I b3,.sl (nx+2) w 1 0 ds.length,yE],.cells w 3 (ds.flatMap Enc.enc)]) (λs=>s.1.length) (q0,[],v2) [] ⟨a6,by simp,by simp⟩ EB EB ?_);rintro⟨q,ds,w⟩ ⟨hq,u,a8⟩;simp only at hq u a8 ⊢;obtain _|⟨l,q⟩:=q
  .repeat apply za
   refine ze [(3,63),(10,70)] zE ?_;refine aE ?_;refine zx ?_;refine VQ _ ?_ (a0 [] ds w hq (by rw[u];simp[qi]) EA);simp
  have j0:(0:Int)<(q.length:Int)+1:=EA
  have d9:(l.length=3->l.getD 0 []≠qv)->qi q0=(ds,l::q):=λe=>by
   rw[u,qi,if_neg (λh=>e h.1 h.2)];simp
  have a2:=λe=>a0 (l::q) ds w hq (d9 e) EA
  have e0:=hq.l l EB
  by_cases h3:l.length=3
  .obtain⟨a,b,c,rfl⟩:∃a b c,l=[a,b,c]:=by
    rcases l with _|⟨a,_|⟨b,_|⟨c,_|⟨d,l⟩⟩⟩⟩
    all_goals first|exact⟨_,_,_,rfl⟩|(simp at h3)
   by_cases ha:a=qv
   .subst ha;have k1:qD .eql (bs qv) ⟨#[100,97,121]⟩=some (.bool true):=eB _;have e4:=bq c (e0.2 c EB);have g1:(0:Int)<=(q.length:Int)+1:=EA
    have g2:(1:Int)<=(q.length:Int)+1:=EA
    have e5:=eU q
    repeat apply za
    refine ze [(3,63),(10,70)] (zn j0 k1) ?_;refine aD ?_;refine zh (zj (aF [] j0 ?_));refine zq e4 ?_;refine zA (some []) (Row.pures [0,2,3,5,6] (.alt 1 (.alt 4 (Row.pures [7] (.alt 8 U1 .stop)) .stop) .stop)) mixed (zD g1 g2 e5) ?_;refine⟨by omega,?_⟩;exact zr (q,ds++[zT c],w+1) [] ⟨hq.tl,by rw[u,qi,if_pos ⟨rfl,rfl⟩];simp,by simp at a8 ⊢;omega⟩ EB EB rfl EB
   have k1:qD .eql (bs a) ⟨#[100,97,121]⟩=some (.bool false):=bg (Wm ha)
   repeat apply za
   refine ze [(3,63),(10,70)] (zn j0 k1) ?_;refine aE ?_;refine zx ?_;refine VQ _ ?_ (a2 (λ_=>ha));simp
  have e6:¬(l.length:Int)=3:=EA
  repeat apply za
  refine ze [(3,63),(10,70)] (zR j0 h3 e6 zE) ?_;refine aE ?_;refine zx ?_;refine VQ _ ?_ (a2 (λe=>absurd e h3));simp
 case h1 =>
  intro q ds w hq u g9;refine zY 2 rfl ?_;refine EK ?_;intro v3;rw[u]at x;simp only at x;obtain⟨M,hM⟩:=Hy q0;rw[u]at hM;simp only at hM;have e7:t=zN [l0,y,l2,z]++(zN M++zN q):=by rw[<-a5.1,hM,<-Vx,<-Vx];rfl
  have a9:(zN q).length<=1048576:=by rw[e7]at hl;simp only[Ak]at hl;omega
  have e8:y9 (zN q)=some q:=Vj hq.ne (λl e9 w hw=>a5.2.2 l (by rw[hM];simp[e9]) w hw);have i:=Zzy (zN q) a9;rw[e8,Cl]at i
  by_cases he:q=[]
  .subst he;have f4:xL []=none:=rfl;rw[f4]at i x;simp only[QN,zN]at i x
   repeat apply za
   refine zb ?_;refine zj (zC (λk:Nat=>k=0) (λ_=>[(0,T (bs t)),(2,.ptr nx v0 0),(6,.ptr (nx+1) v1 0),(13,.ptr (nx+3) v3 0),(96,I 0),(97,I 0)]) (λ_=>[.cells v0 33 [I 0,I 0,I 0,I 0,yE,yE],.cells v1 33 [I 4,I b1,I b2,I b3,.lst ds.length (ds.flatMap Enc.enc),yE],.dead,.cells v3 79 [.sc (.pointer none),yE]]) (λk=>k) 0 [] rfl EB EB ?_);rintro k rfl;refine EK ?_;refine za (aE ?_);refine zx ?_
   repeat apply za
   refine zb ?_;refine λj=>((ZzA (id:=nx+3) (v:=v3) (p:=.sc (.pointer none)) (by rw[zS];rfl)).mono ?_).v
   rintro _ _ ⟨rfl,rfl⟩;refine⟨_,_,rfl,zO j ?_⟩;refine zq i ?_;refine EK ?_;refine aD ?_;refine EK ?_;refine yn 0 4 rfl rfl ?_;refine yn 0 5 rfl rfl ?_;exact zg (zi hd EC (by simp[zp,x]))
  have g4:=hq.n;obtain⟨Z,hZ⟩:∃Z,Z=zN q:=⟨_,rfl⟩;rw[<-hZ]at a9 i;have f5:∀(S:Store) (nx vb wx:Nat) (pp:PV) (l m:List UInt8),l.length+m.length<=Z.length->S (nx+3)=.cells vb 79 [pp,.sl (nx+4) wx 1 0 l.length]->(pp=.sc (.pointer none)\/pp=.ptr (nx+3) vb 0)->S (nx+4)=.cells wx 5 (l.map U8)->_:=λS nx vb wx pp l m hl h1 hp h2=>dX (S:=S) (id:=nx+3) (v:=vb) (ib:=nx+4) (w0:=wx) (p:=pp) l m h1 hp h2 EA
  refine qy 3 1 5 1 rfl rfl λwb=>?_
  repeat apply za
  refine zb ?_;refine zj (zC (λs:Nat × Nat × List UInt8 × PV=>s.1<=q.length/\Z=s.2.2.1++zN (q.drop s.1)/\(s.2.2.2=.sc (.pointer none)\/s.2.2.2=.ptr (nx+3) v3 0)) (λ(k,w,c,pp)=>[(0,T (bs t)),(2,.ptr nx v0 0),(6,.ptr (nx+1) v1 0),(13,.ptr (nx+3) v3 0),(95,L (wl q)),(96,I q.length),(97,I k)]) (λ(k,w,c,pp)=>[.cells v0 33 [I 0,I 0,I 0,I 0,yE,yE],.cells v1 33 [I 4,I b1,I b2,I b3,.lst ds.length (ds.flatMap Enc.enc),yE],.dead,.cells v3 79 [pp,.sl (nx+4) w 1 0 c.length],.cells w 5 (c.map U8)]) (λs=>q.length-s.1) (0,wb,[],.sc (.pointer none)) [] ⟨BO _,by simpa using hZ,.inl rfl⟩ EB EB ?_);rintro⟨k,w,c,pp⟩ ⟨hk,hc,b7⟩;simp only at hk hc b7 ⊢;refine EK ?_;refine za (zv rfl (λo=>?_) (λo=>?_))
  .simp at o;obtain⟨l,a3⟩:∃l,q[k]?=some l:=⟨_,Ac o⟩;have a4:q.drop k=l::q.drop (k+1):=by rw[AG o];rw[Ac o]at a3;rw[Option.some.inj a3]
   obtain⟨g,tl,a1,-,-,f0⟩:=zF rfl (wl q) k (by simpa using o);obtain rfl:g=l.map bs:=by rw[Ai,a3]at a1;exact(Option.some.inj a1).symm
   have b8:=Aa a3;have f6:=FC b8;have f7:=X1 l (hq.l l b8).1 (by rw[<-hZ]at f6;omega);have c6:Z=(c++(zP l++[10]))++zN (q.drop (k+1)):=by rw[hc,a4,vW];simp
   generalize zP l++[10]=l9 at *;have f8:c.length+l9.length<=Z.length:=by rw[c6];simp
   refine zh (aA (aF [] (zn f0 o) ?_));refine zb ?_;refine zq f7 ?_;refine λj=>((f5 _ nx v3 w pp c l9 f8 (by rw[zS];rfl) b7 (by rw[zS];rfl)).mono ?_).v
   rintro _ _ ⟨rfl,rfl⟩;refine⟨_,_,eN,zO j ?_⟩;refine zb ?_;exact zr (k+1,w+1,c++l9,.ptr (nx+3) v3 0) [] ⟨o,c6,.inr rfl⟩ EA (by simp[zu k EA]) rfl EB
  simp at o;obtain rfl:k=q.length:=EA
  rw[Bz]at hc;have f9:c=Z:=by rw[hc];simp[zN]
  subst f9;have c7:c≠[]:=by
   intro e;rw[e]at hZ;obtain _|⟨l,q⟩:=q
   .exact he rfl
   rw[vW]at hZ;simp at hZ
  refine zx ?_;cases hb:xL q with
  |none =>
  rw[hb]at i x;simp only[QN]at i x
  repeat apply za
  refine zb ?_;refine λj=>((aR (id:=nx+3) (v:=v3) (ib:=nx+4) (w0:=w) (p:=pp) c (by rw[zS];rfl) (by rw[zS];rfl) c7 EA).mono ?_).v
  rintro _ _ ⟨rfl,rfl⟩;rw[yi _ EA EB];refine⟨_,_,rfl,zO j ?_⟩;refine zq i ?_;refine EK ?_;refine aD ?_;refine EK ?_;refine yn 0 4 rfl rfl ?_;refine yn 0 5 rfl rfl ?_;exact zg (zi hd EC (by simp[zp,x]))
  |some p =>
  rw[hb]at i x;simp only[QN]at i x;have g0:uK (l0::y::l2::z::q0)=some ⟨4,b1,b2,b3,ds,p⟩:=by rw[a7,u];simp only;rw[hb]
  have g3:PP 9 [.agg [I 4,I b1,I b2,I b3,.lst ds.length (ds.flatMap Enc.enc),L p]] (T (bs (zN (qg ⟨4,b1,b2,b3,ds,p⟩)))):=GR ⟨4,b1,b2,b3,ds,p⟩ rfl (Hw g0 hs).2;generalize zN (qg ⟨4,b1,b2,b3,ds,p⟩)=X at *;have c8:qD .eql (bs X) (bs t)=some (.bool (decide (X=t))):=by
   by_cases e:X=t
   .subst e;rw[eB];simp
   rw[bg (Wm e)];simp[e]
  repeat apply za
  refine zb ?_;refine λj=>((aR (id:=nx+3) (v:=v3) (ib:=nx+4) (w0:=w) (p:=pp) c (by rw[zS];rfl) (by rw[zS];rfl) c7 EA).mono ?_).v
  rintro _ _ ⟨rfl,rfl⟩;rw[yi _ EA EB];refine⟨_,_,rfl,zO j ?_⟩;refine zq i ?_;refine EK ?_;refine aC (aG (some [nx+1]) Ro mixed c8 ?_);refine zJ (g3) c8 ?_;exact zg (zi hd EC (by simp[zp,x]))
def Jq(x:Inst)(r:Rep):Bool:=decide (wu x r.ae=0/\r.cost=yN x r.ae/\r.U=W (yG x r.ae x.y.length)/\r.days=qa x r.ae/\0<=r.bound/\r.bound<=r.cost)
def ZzF(ds:List Int):(jN ds).length=ds.length:=by simp[jN]
def Hz(ds:List Int):∀l∈jN ds,l.length=3/\l.getD 0 []=qv:=by intro l hl;obtain⟨i,-,rfl⟩:=Aj.1 hl;exact⟨rfl,rfl⟩
def ZzG(ds:List Int)(p:zy):(qi (jN ds++yR p)).2=yR p:=by rw[lN _ _ (Hz ds)];show (qi (yR p)).2=_;unfold yR;rw[Hk _ rfl]
def ZzH{r:Rep}(h:uK ls=some r):4<=ls.length/\xL (qi (ls.drop 4)).2=some r.ae/\r.out=4/\r.bound=vH (ls.getD 1 [])/\r.cost=vH (ls.getD 2 [])/\r.U=vH (ls.getD 3 [])/\r.days=(qi (ls.drop 4)).1:=by unfold uK at h;split at h;cases h;split at h;cases h;rename_i a;cases h;exact⟨by omega,a,rfl,rfl,rfl,rfl,rfl⟩
def HA{p:zy}(hc:x.y.length<=900)(j:p.length<=1000)(h:wu x p=0):
  (0<=yN x p/\yN x p<900000000000000000)/\(0<=W (yG x p x.y.length)/\W (yG x p x.y.length)<900000000000000000)/\(∀z∈qa x p,0<=z/\z<1000000000000000000)/\∀d∈p,∀t∈d,∀s∈t,Hj s:=by
 obtain⟨hm,-,g,-⟩:=ku h;obtain⟨-,-,i,-⟩:=Vn (ZY hm).O;have f:∀c∈x.y,CustSm c:=λc hc=>by obtain⟨k,a,b,l,r1,r2,r3,r4,r5⟩|⟨k,q,s,t,u,ho,e,v⟩:=Wa ((ZY hm).ah c hc);exact⟨by omega,by omega,by omega⟩;exact⟨by omega,by omega,by omega⟩
 have w:=aU f p x.y.length;have m:=kv i f hc j g;have n:=dZ i p λd q=>by have:=QE hc (g d q);omega
 have y:W (yG x p x.y.length)=yG x p x.y.length:=wr _ EA EA;refine⟨by omega,by omega,λz o=>?_,λd q t r s hs=>?_⟩;obtain⟨d,q,rfl⟩:=Aj.1 o;have:=QE hc (g d q);have h3:=da i d;have:W (yf x d)=yf x d:=wr _ EA EA;omega;have:=JY (g d q) s (Bd.2 ⟨t,r,hs⟩);simp[qn]at this;unfold Hj;omega
def Jr(c:UInt8):Prop:=33<=c.toNat/\c.toNat<=126
instance (c:UInt8):Decidable (Jr c):=inferInstanceAs (Decidable (_/\_))
def ue:List Ln->Ln->Wd->List UInt8->Option (List Ln)
 |out,line,cur,[]=>if cur=[]/\line=[] then some out else none
 |out,line,cur,c::t =>
  if c=32\/c=10 then
   if cur=[] then none else if c=10 then ue (out++[line++[cur]]) [] [] t else ue out (line++[cur]) [] t
  else if Jr c then ue out line (cur++[c]) t else none
theorem HB(out:List Ln)(a:Ln)(cur:Wd):ue out a cur []=if cur=[]/\a=[] then some out else none:=rfl
theorem eV(out:List Ln)(a:Ln)(cur:Wd)(c:UInt8)(t:List UInt8):ue out a cur (c::t)=if c=32\/c=10 then (if cur=[] then none else if c=10 then ue (out++[a++[cur]]) [] [] t else ue out (a++[cur]) [] t) else if Jr c then ue out a (cur++[c]) t else none:=rfl
theorem HC{c:UInt8}{x:UInt8}:∀{l:List UInt8},x∈l->x≠c->∃w∈yZ c l,x∈w
 |a::l,h,hx=>by
  rw[kR];obtain rfl|h:=Al.1 h
  .rw[if_neg hx];cases yZ c l with
   |nil=>exact⟨[x],by simp,by simp⟩
   |cons p q=>exact⟨x::p,by simp,by simp⟩
  obtain⟨w,b,d⟩:=HC h hx;split;exact⟨w,by simp[b],d⟩;cases e:yZ c l with
  |nil=>rw[e]at b;simp at b
  |cons p q =>
  rw[e]at b;obtain rfl|b:=Al.1 b;exact⟨a::w,by simp,by simp[d]⟩;exact⟨w,by simp[b],d⟩
def HD{c:UInt8}(h:Jr c):c≠32/\c≠10:=by constructor<;>(rintro rfl;exact absurd h EH)
def HE(h0:w≠[])(h:∀c∈w,Jr c):Za w=true:=(uE w).2 ⟨h0,h⟩
theorem lR(b:List UInt8):∀(a:List UInt8) (out:List Ln) (f:Ln) (cur:Wd),10 ∉ a->(∀c∈cur,Jr c)->ue out f cur (a++10::b)=if (yZ 32 (cur++a)).all Za=true then ue (out++[f++yZ 32 (cur++a)]) [] [] b else none
 |[],out,f,cur,_,hc=>by have j:(32:UInt8) ∉ cur:=λh=>(HD (hc _ h)).1 rfl;rw[AA,kT j,AI,eV,if_pos (.inr rfl)];simp only[CZ,List.all_nil,DT];by_cases h0:cur=[];rw[if_pos h0,if_neg];rw[h0];decide;rw[if_neg h0,if_pos trivial,if_pos (HE h0 hc)]
 |c::a,out,f,cur,g,hc=>by rw[Al,not_or]at g;have j:(32:UInt8) ∉ cur:=λh=>(HD (hc _ h)).1 rfl;have i:c≠10:=λe=>g.1 e.symm;rw[List.cons_append,eV];by_cases h:c=32;subst h;rw[if_pos (.inl rfl),if_neg i,kU a j];by_cases h0:cur=[];rw[if_pos h0,if_neg];rw[h0];simp[Za];rw[if_neg h0,lR b a out (f++[cur]) [] g.2 EB,AI];rw[CZ,HE h0 hc,CE,List.append_assoc,CK];rw[if_neg (by rintro(e|e);exact h e;exact i e)];by_cases m:Jr c;rw[if_pos m,lR b a out f (cur++[c]) g.2 (by intro d o;rw[AB,A5]at o;obtain q|rfl:=o;exact hc d q;exact m)];rw[List.append_assoc,CK];rw[if_neg m,if_neg];intro k;obtain⟨w,p,n⟩:=HC (c:=32) (x:=c) (l:=cur++c::a) EB h;have:=(uE w).1 (Ay.1 k w p);exact m (this.2 c n)
theorem lS:∀(a:List UInt8) (out:List Ln) (b:Ln) (cur:Wd),10 ∉ a->(a≠[]\/cur≠[]\/b≠[])->ue out b cur a=none
 |[],out,b,cur,_,h=>by rw[HB,if_neg];rintro⟨rfl,rfl⟩;simp at h
 |c::a,out,b,cur,d,_=>by rw[Al,not_or]at d;have f:c≠10:=λe=>d.1 e.symm;rw[eV];by_cases h:c=32;rw[if_pos (.inl h),if_neg f];split;rfl;exact lS a _ _ _ d.2 EB;rw[if_neg (by rintro(e|e);exact h e;exact f e)];split;exact lS a _ _ _ d.2 EB;rfl
def ZzI(n:Nat):∀(t:List UInt8) (out:List Ln),t.length<=n->ue out [] [] t=(y9 t).map (out++·):=by
 induction n with
 |zero =>
 intro t out h;have:t=[]:=Av EA;subst this;rw[Vi];simp[ue]
 |succ n c =>
 intro t out h;by_cases h0:t=[];subst h0;rw[Vi];simp[ue];cases hc:wy 10 t with
 |none =>
 rw[lS t out [] [] (ei hc) (.inl h0)];unfold y9;rw[if_neg h0];split;rfl;rename_i h2;rw[hc]at h2;cases h2
 |some p =>
 obtain⟨a,b⟩:=p;obtain⟨d,e2⟩:=X8 hc;have e:=kQ hc;have f:y9 t=if (yZ 32 a).all Za=true then (y9 b).map (yZ 32 a::·) else none:=by
  conv=>lhs;unfold y9
  rw[if_neg h0];split;rename_i h2;rw[hc]at h2;cases h2;rename_i h2;rw[hc]at h2;cases h2;rfl
 rw[f];conv=>lhs;rw[d]
 rw[lR b a out [] [] e2 EB,AI,AI];split;rw[c b _ EA];cases y9 b<;>simp;rfl
def uf(t:List UInt8)(a b:Nat):List UInt8:=(t.take b).drop a
def eW(t:List UInt8)(a:Nat):uf t a a=[]:=by unfold uf;rw[CO];simp;omega
def ZzJ{a b:Nat}{c:UInt8}(h:t[b]?=some c)(d:a<=b):uf t a (b+1)=uf t a b++[c]:=by unfold uf;rw[AE,h,BY];rfl;rw[Az];have:=(Ad.1 h).1;omega
def HF{a b:Nat}(h:b<=t.length):(uf t a b).length=b-a:=by unfold uf;simp;omega
def ZzK(t:List UInt8)(hl:t.length<=1048576):PP 20 [T (bs t)] (Yo (y9 t)):=by
 have a6:ue [] [] [] t=y9 t:=by rw[ZzI t.length t [] (Af _)];cases y9 t<;>simp
 rw[<-a6];obtain⟨o,ho⟩:∃o,o=ue [] [] [] t:=⟨_,rfl⟩;rw[<-ho];clear a6;obtain⟨B,hB⟩:∃B,B=bs t:=⟨_,rfl⟩;have m:B.size=t.length:=by rw[hB,vr]
 have hg:∀k,B[k]?=t[k]?:=λk=>by rw[hB];exact ey t k
 have d4:∀a b,B.extract a b=bs (uf t a b):=λa b=>by rw[hB];exact bh t a b
 rw[<-hB];refine zt func20 ntmps20 results20 λS nx hd=>?_;refine EK ?_;refine EK ?_;refine qO 4 52 1 rfl λw0=>?_;refine EK ?_;refine qO 5 9 1 rfl λv0=>?_;refine EK ?_;repeat apply za
 refine zb ?_;refine zj (zC (λs:Nat × Nat × Ln × List Ln × Nat × Nat=>(s.2.1<=s.1/\s.1<=t.length/\s.2.2.1.length<=s.1/\s.2.2.2.1.length<=s.1)/\o=ue s.2.2.2.1 s.2.2.1 (uf t s.2.1 s.1) (t.drop s.1)) (λ(i,fr,e,f,w,v)=>[(0,T B),(4,.sl nx w 1 0 f.length),(5,.sl (nx+1) v 1 0 e.length),(6,I fr),(7,I i)]) (λ(i,fr,e,f,w,v)=>[.cells w 52 ((wl f).flatMap Enc.enc),.cells v 9 ((e.map bs).flatMap Enc.enc)]) (λs=>t.length-s.1) (0,0,[],[],w0,v0) [] (by simp[ho,uf]) EB EB ?_);rintro⟨i,fr,e,f,w,v⟩ ⟨⟨h1,h2,h3,h4⟩,d⟩;simp only at h1 h2 h3 h4 d ⊢;repeat apply za
 refine ze [] m ?_;refine zv rfl (λhc=>?_) (λhc=>?_)
 .simp at hc;obtain⟨c,u⟩:∃c,t[i]?=some c:=⟨_,Ac hc⟩;have d5:=(hg i).trans u;have d6:t.drop i=c::t.drop (i+1):=by rw[AG hc];rw[Ac hc]at u;cases u;rfl
  rw[d6,eV]at d;have n:=zu i EA;have a7:=ZzJ u h1;refine zh (aA (aF [] d5 ?_));by_cases j:c=32\/c=10
  .rw[if_pos j]at d;have d7:(c.toNat:Int)=32\/(¬(c.toNat:Int)=32/\(c.toNat:Int)=10):=by obtain rfl|rfl:=j;exact .inl rfl;exact .inr ⟨by decide,rfl⟩
   have a2:c.toNat=10<->c=10:=⟨λh=>UInt8.toNat_inj.1 h,λh=>by rw[h];rfl⟩;clear j;obtain d1|⟨d1,d2⟩:=d7;rotate_left;have x:¬c.toNat=32:=EA;have a8:(c.toNat=10)=True:=eq_true EA;have z:=eq_true d2;repeat apply za
   refine ze [(2,20)] (zR d1 x z a8) ?_;refine zk (by simp[a8,z]) ?_;rotate_left;have x:(c.toNat=32)=True:=eq_true EA;have a0:=eq_true d1;repeat apply za
   refine ze [(2,20)] (zD a0 x zE) ?_;refine zk (by simp[x,a0]) ?_;all_goals
    refine zh ?_;by_cases a3:i=fr;subst a3;rw[eW,if_pos rfl]at d;repeat apply za
    refine zb ?_;refine aD ?_;refine EK ?_;exact zg (zi hd EC (by rw[d];rfl));have f2:fr<i:=EA;have a1:¬(i:Int)=(fr:Int):=EA;have a4:uf t fr i≠[]:=λh=>by have:=congrArg List.length h;rw[HF EA]at this;simp at this;omega
    rw[if_neg a4]at d;have a9:=d4 fr i;have d8:((e.map bs).flatMap Enc.enc:List PV).length=e.length:=by rw[xz];simp[Enc.sz]
    have d9:List.take e.length ((e.map bs).flatMap Enc.enc:List PV)=(e.map bs).flatMap Enc.enc:=Ae (by rw[d8];exact Af _);have e0:((e++[uf t fr i]).map bs).flatMap Enc.enc=(e.map bs).flatMap Enc.enc++[T (bs (uf t fr i))]:=by rw[List.map_append,Ar];rfl
    have b7:(e++[uf t fr i]).length=e.length+1:=EB;repeat apply za
    refine ze [] (zn a3 a1) ?_;refine zk (by simp[a3,a1]) ?_;refine zh ?_;have e1:fr<=i:=h1;have e2:i<=B.size:=by rw[m];exact h2
    refine aF [] (zR e1 e2 a9 d9) ?_;refine⟨by omega,?_⟩;have e3:(e++[uf t fr i]).length<=i+1:=by rw[b7];omega
    rw[<-e0,<-b7];generalize e++[uf t fr i]=l1 at *;have f3:IntKind.i64.wrap ((i:Int)+1)=((i+1:Nat):Int):=n;refine aF [] n ?_;by_cases l:c=10;have p:((c.toNat:Int)=10)=True:=eq_true (by rw[l];rfl);have g:(c.toNat=10)=True:=eq_true (a2.2 l);rw[if_pos l]at d;refine aF [] (zn p g) ?_;refine zm (by simp[p,g]) ?_;refine zY 1 rfl ?_;have e4:PV.lst l1.length ((l1.map bs).flatMap Enc.enc)=L (l1.map bs):=by unfold L;rw[List.length_map]
    have e5:((wl f).flatMap Enc.enc:List PV).length=f.length:=by rw[xz];simp[Enc.sz]
    have e6:List.take f.length ((wl f).flatMap Enc.enc:List PV)=(wl f).flatMap Enc.enc:=Ae (by rw[e5];exact Af _);have e7:(wl (f++[l1])).flatMap Enc.enc=(wl f).flatMap Enc.enc++[L (l1.map bs)]:=by rw[wl,List.map_append,Ar];rfl
    have b8:(f++[l1]).length=f.length+1:=EB;refine aF [] (zn e4 e6) ?_;refine⟨by omega,?_⟩;rw[<-e7,<-b8];have c6:(f++[l1]).length<=i+1:=by rw[b8];omega
    generalize f++[l1]=o1 at *;refine zb ?_;refine Kz [_] [.dead] rfl ?_;refine qO 5 9 1 rfl λv1=>?_;refine zb ?_;exact zr (i+1,i+1,[],o1,w+1,v1) [] ⟨⟨Af _,hc,BO _,c6⟩,by rw[d,eW]⟩ EA (by simp[n]) rfl rfl;have p:¬(c.toNat:Int)=10:=λh=>l (a2.1 EA);have g:¬c.toNat=10:=λh=>l (a2.1 h);rw[if_neg l]at d;refine aF [] (zn p g) ?_;refine zk (by simp[p,g]) ?_;refine zh (zb ?_);exact zr (i+1,i+1,l1,f,w,v+1) [] ⟨⟨Af _,hc,e3,CA h4⟩,by rw[d,eW]⟩ EA (by simp[n]) rfl rfl
  rw[if_neg j]at d;have n1:¬(c.toNat:Int)=32:=λh=>j (.inl (UInt8.toNat_inj.1 (by show c.toNat=32;omega)));have n2:¬(c.toNat:Int)=10:=λh=>j (.inr (UInt8.toNat_inj.1 (by show c.toNat=10;omega)));have e8:¬c.toNat=32:=EA;have e9:¬c.toNat=10:=EA;repeat apply za
  refine ze [(2,20)] (zR n1 e8 n2 e9) ?_;refine zm (by simp[*]) ?_;by_cases y:Jr c;rw[if_pos y]at d;obtain⟨g1,g2⟩:=y;have r:¬(c.toNat:Int)<33:=EA;have a5:¬126<(c.toNat:Int):=EA;have c7:¬c.toNat<33:=EA;have c8:¬126<c.toNat:=EA;repeat apply za
  refine ze [(2,26)] (zR r a5 c7 c8) ?_;refine zk (by simp[*]) ?_;refine zh (zx (zb ?_));exact zr (i+1,fr,e,f,w,v) [] ⟨⟨CA h1,hc,CA h3,CA h4⟩,by rw[d,a7]⟩ EA (by simp[n]) rfl rfl;rw[if_neg y]at d;have hb:c.toNat<33\/(¬c.toNat<33/\126<c.toNat):=by unfold Jr at y;omega
  obtain g1|⟨g1,g2⟩:=hb;have r:(c.toNat:Int)<33:=EA;repeat apply za
  refine ze [(2,26)] (zD g1 r zE) ?_;refine zm (by simp[*]) ?_;refine EK ?_;exact zg (zi hd EC (by rw[d];rfl));have r:¬(c.toNat:Int)<33:=EA;have a5:126<(c.toNat:Int):=EA;repeat apply za
  refine ze [(2,26)] (zR g1 r g2 a5) ?_;refine zm (by simp[*]) ?_;refine EK ?_;exact zg (zi hd EC (by rw[d];rfl))
 simp at hc;obtain rfl:i=t.length:=EA;rw[Bz,HB]at d;refine zx ?_;by_cases f0:fr<t.length;have a4:uf t fr t.length≠[]:=λh=>by have:=congrArg List.length h;rw[HF EA]at this;simp at this;omega
 have d0:(fr:Int)<(t.length:Int):=EA;rw[if_neg λq=>a4 q.1]at d;repeat apply za
 refine ze [(4,52)] (zR m f0 d0 zE) ?_;refine aD ?_;refine EK ?_;exact zg (zi hd EC (by rw[d];rfl));obtain rfl:fr=t.length:=EA;rw[eW]at d;by_cases h0:e=[];subst h0;rw[if_pos ⟨rfl,rfl⟩]at d;repeat apply za
 refine ze [(4,52)] m ?_;refine aC (zY 0 rfl ?_);refine EK ?_;exact zg (zi hd EC (by rw[d];simp[Yo,L]));rw[if_neg λq=>h0 q.2]at d;have f1:0<e.length:=BD.2 h0;have d3:(0:Int)<(e.length:Int):=EA;repeat apply za
 refine ze [(4,52)] (zD m f1 d3) ?_;refine aD ?_;refine EK ?_;exact zg (zi hd EC (by rw[d];rfl))
def ZzL(u:List UInt8):((yD u).2=0/\jq (yD u).1=true/\∃ls b,y9 u=some ls/\Yl ls=some ((yD u).1,b))\/(yD u).2=2\/(yD u).2=3:=by
 cases a:y9 u with
 |none=>right;left;unfold yD;rw[a]
 |some ls =>
 cases c:Yl ls with
 |none=>right;left;unfold yD;rw[a];simp only[c]
 |some p =>
 obtain⟨x,ok⟩:=p;by_cases hm:ok=true/\jq x=true;have e:yD u=(x,0):=by unfold yD;rw[a];simp only[c];rw[if_pos hm]
 left;rw[e];exact⟨rfl,hm.2,ls,ok,rfl,c⟩;right;right;unfold yD;rw[a];simp only[c];rw[if_neg hm]
def ZzM(a b:List Int)(m:a.length<=1048576)(hb:b.length<=1048576):PP 48 [L a,L b] (B (decide (a=b))):=by
 refine zt func48 ntmps48 results48 λS nx f=>?_;refine EK ?_;by_cases hl:a.length=b.length;repeat apply za
 refine ze [] hl ?_;refine zk (by simp[hl]) ?_;refine zh ?_;repeat apply za
 refine zb ?_;refine zj (zC (λk:Nat=>k<=a.length/\a.take k=b.take k) (λk=>[(0,L a),(1,L b),(12,I a.length),(13,I k)]) (λ_=>[]) (λk=>a.length-k) 0 [] EB (by simp[hl]) EB ?_);rintro k ⟨n,g⟩;refine EK ?_;refine za (zv rfl (λhc=>?_) (λhc=>?_));simp at hc;obtain⟨u,tl,h,-,-,i⟩:=zF rfl a k hc;obtain⟨v,l,hv,-,-,j⟩:=zF rfl b k EA;have e:k<b.length:=EA;refine zh (aA (EK ?_));by_cases c:u=v;subst c;refine aG none Rg mixed (zR i j hc e) ?_;refine aC (zb ?_);exact zr (k+1) [] ⟨hc,by rw[AE,AE,h,hv,g]⟩ EA (by simp[zu k EA]) rfl EB;refine aG none Rg mixed (yx i j hc e c) ?_;refine aD ?_;refine EK ?_;have d:¬a=b:=by rintro rfl;rw[h]at hv;exact c (Option.some.inj hv)
 exact zg (zi f EC (by simp[d,zp]));simp at hc;obtain rfl:k=a.length:=EA;rw[Ah,hl,Ah]at g;subst g;refine zx (EK ?_);exact zg (zi f EC EB);repeat apply za
 refine zb ?_;refine zm EF ?_;refine EK ?_;have d:¬a=b:=by rintro rfl;exact hl rfl
 exact zg (zi f EC (by simp[d,zp]))
def ZzN(hl:t.length<=1048576)(h:(yD t).2=0):InstOk (yD t).1/\jq (yD t).1=true/\2*(yD t).1.y.length<=t.length:=by
 obtain⟨-,hm,ls,b,c,a⟩|h|h:=ZzL t;refine⟨FE a (li c hl),hm,?_⟩;have h1:2*(yD t).1.y.length<=ls.length:=by generalize (yD t).1=x at *;unfold Yl at a;split at a;split at a;split at a;split at a;rename_i d;cases a;simp only[List.length_map,qq,DR];omega;cases a;cases a;cases a;cases a
 have h2:=FD ls;rw[(ek _ (Af _) c).1]at h2;omega;rename_i q;rw[h]at q;cases q;rename_i q;rw[h]at q;cases q
def ZzO(hm:jq x=true):∀c∈x.y,CustFits c:=λc hc=>by obtain⟨k,a,b,l,r1,r2,r3,r4,r5⟩|⟨k,q,s,t,d,ho,e,f⟩:=Wa ((ZY hm).ah c hc);exact⟨by omega,by omega,by omega⟩;exact⟨by omega,by omega,by omega⟩
structure PlanRd (p:zy):Prop where
 told:PlanTold p
 cnt:ZT p<=1000000
def ZzP{d:zo}(h:∀t∈d,t.length<=1000):d.flatten.length<=1000*d.length:=by
 induction d with
 |nil=>simp
 |cons t d a =>
 have h1:=h t EB;have h2:=a λu b=>h u (by simp[b]);simp only[Bh,Ak,Ab];omega
def ZzQ:∀{ls r:List Ln} {p:zy},qr n ls=some (r,p)->(p.map List.length).sum+r.length<=ls.length:=by
 induction n with
 |zero=>intro ls r d h;simp only[qr,Option.some.injEq,Prod.mk.injEq]at h;obtain⟨rfl,rfl⟩:=h;simp
 |succ n c =>
 intro ls r p h;unfold qr at h;split at h;cases h;rename_i q a;obtain⟨b,f,e⟩:=An.1 h;cases e;have h1:=c (r:=b.1) (p:=b.2) f;have h2:q.2.length+q.1.length<=ls.length:=by unfold xY at a;split at a;cases a;split at a;cases a;have:=bp (r:=q.1) (d:=q.2) a;simp;omega
 simp;omega
theorem HG:∀{p:zy},(∀d∈p,∀t∈d,t.length<=1000)->ZT p<=1000*(p.map List.length).sum
 |[],_=>by simp[ZT]
 |d::p,h=>by have h1:=HG (p:=p) λe a=>h e (by simp[a]);have h2:=ZzP (h d EB);unfold ZT at h1 ⊢;simp only[Ap,AL];omega
def ZzR{p:zy}(h:xL ls=some p)(hs:LnsSz ls):PlanRd p:=by have a:=Hv h hs;refine⟨a,?_⟩;have h1:=HG a.t;unfold xL at h;split at h;cases h;split at h;cases h;split at h;rename_i q b;cases h;have h2:=ZzQ b;have h3:=hs.1;simp at h2 h3;omega;cases h
def ZzS{r:Rep}(h:uK ls=some r)(hs:LnsSz ls):PlanRd r.ae:=by obtain⟨-,hb,-⟩:=ZzH h;obtain⟨a,b,-⟩:=lP (ls.drop 4);rw[Bq]at a;exact ZzR hb (hs.sub (λl hl=>BS (b l hl)) EA)
theorem HI:∀{p:zy} {d:zo},d∈p->d.flatten.length<=ZT p
 |e::p,d,h=>by unfold ZT;simp only[Ap,AL];obtain rfl|h:=Al.1 h;omega;have:=HI h;unfold ZT at this;omega
theorem PlanRd.sz{p:zy}(h:PlanRd p):PlanSz p:=by obtain⟨⟨h1,h2,h3,c⟩,e⟩:=h;exact⟨⟨by omega,λd a=>by have:=h2 d a;omega,λd a t b=>by have:=h3 d a t b;omega,by rw[iS];omega⟩,λd a=>by have:=HI a;omega⟩
theorem PlanRd.days{p:zy}(h:PlanRd p):∀d∈p,DayOk d:=λd a=>by obtain⟨⟨h1,h2,h3,c⟩,e⟩:=h;exact⟨by have:=h2 d a;omega,λt b=>by have:=h3 d a t b;omega,λt b s hs=>by have:=c d a t b s hs;unfold qA;omega⟩
theorem PlanRd.serves{p:zy}(h:PlanRd p)(h0:wu x p=0):Serves x p:=by obtain⟨hm,hl,c,-⟩:=ku h0;have hx:=(ZY hm).days;refine⟨h.sz.ok,λs hs=>?_,by omega⟩;obtain⟨d,a,b⟩:=dJ p 0 s hs;have:=JY (c d a) _ b;simp[qn]at this;omega
def Js(t s:List UInt8):Bool:=decide ((yD t).2=0)&&(wY s).2&&Jq (yD t).1 (wY s).1
def HJ(t s:List UInt8)(ht:t.length<=1048576)(hs:s.length<=1048576)(v:∀ls,y9 s=some ls->LnsSz ls):PP 10 [T (bs t),T (bs s)] (B (Js t s)):=by
 have j:=FG t ht;have w:=ZzE s hs v;by_cases h0:(yD t).2=0
 .obtain⟨hx,hm,-⟩:=ZzN ht h0;have k:=ZzO hm;have a7:=(ZY hm).y;rw[h0]at j;have z:Js t s=((wY s).2&&Jq (yD t).1 (wY s).1):=by unfold Js;rw[decide_eq_true h0,CE]
  rw[z];have a5:(wY s).2=true->PlanRd (wY s).1.ae/\(wY s).1.days.length<=1048576:=λe=>by
   unfold wY at e ⊢;cases hz:y9 s with
   |none=>rw[hz]at e;cases e
   |some ls =>
   rw[hz]at e;simp only at e ⊢;cases hr:uK ls with
   |none=>rw[hr]at e;cases e
   |some r =>
   have h1:=(Hw hr (v ls hz)).2.n;exact⟨ZzS hr (v ls hz),by simp only;omega⟩
  generalize (yD t).1=x at *;generalize wY s=R at *;obtain⟨⟨o,b,c,g,ds,p⟩,ok⟩:=R;simp only at w a5 ⊢;cases ok with
  |false =>
  simp only[Dg];refine zt func10 ntmps10 results10 λS nx l=>?_;refine EK ?_;refine EK ?_;refine zq j ?_;intro v0;repeat apply za
  refine zb ?_;refine aC (EK ?_);refine zq w ?_;intro v1;repeat apply za
  refine ze [(2,23)] zE ?_;refine aD ?_;refine EK ?_;exact EL l
  |true =>
  obtain⟨hp,a8⟩:=a5 rfl;have a0:=sj x p hx hp.sz;simp only[CE];by_cases hE:wu x p=0;have a1:=hp.serves hE;have a2:=sI x p a1 EA k hp.days;have a6:=iQ x p a1 EA k;have a3:=iR x p (by have:=hp.told.n;omega) hp.days;have a4:=ZzM ds (qa x p) a8 (by unfold qa;rw[List.length_map];have:=hp.told.n;omega);have y:Jq x ⟨o,b,c,g,ds,p⟩=decide (c=yN x p/\g=W (yG x p x.y.length)/\ds=qa x p/\0<=b/\b<=c):=by unfold Jq;rw[decide_eq_decide];simp[hE]
  rw[y];rw[hE]at a0;generalize yN x p=C at *;generalize W (yG x p x.y.length)=H at *;generalize qa x p=D at *;clear y a1 hx hm k a7 hE v h0;refine zt func10 ntmps10 results10 λS nx l=>?_;refine EK ?_;refine EK ?_;refine zq j ?_;intro v0;repeat apply za
  refine zb ?_;refine aC (EK ?_);refine zq w ?_;intro v1;repeat apply za
  refine ze [(2,23)] trivial ?_;refine yP [(2,23)] a0 trivial ?_;refine aC ?_;by_cases m:c=C;have a:=eq_true m;by_cases f:g=H;have q:=eq_true f;repeat apply za
  refine zA (some [nx,nx+1]) R3 mixed (zn a q) ?_;refine zJ (a2) (zn a q) ?_;refine zJ (a6) (zn a q) ?_;refine aC ?_;by_cases h:ds=D;have d:=eq_true h;by_cases i:0<=b;have u:=eq_true i;refine aG (some [nx,nx+1]) Ra mixed (zn d u) ?_;refine zJ (a3) (zn d u) ?_;refine zJ (a4) (zn d u) ?_;exact zg (zi l EC (by simp[zp,m,f,h,i]));refine aG (some [nx,nx+1]) Ra mixed (zD d i zE) ?_;refine zJ (a3) (zD d i zE) ?_;refine zJ (a4) (zD d i zE) ?_;exact zg (zi l EC (by simp[zp,i]));refine aG (some [nx,nx+1]) Ra mixed (zn h zE) ?_;refine zJ (a3) (zn h zE) ?_;refine zJ (a4) (zn h zE) ?_;exact zg (zi l EC (by simp[zp,h]));repeat apply za
  refine zA (some [nx,nx+1]) R3 mixed (zn a f) ?_;refine zJ (a2) (zn a f) ?_;refine zJ (a6) (zn a f) ?_;refine aD ?_;refine EK ?_;exact zg (zi l EC (by simp[zp,f]));repeat apply za
  refine zA (some [nx,nx+1]) R3 mixed (zn m zE) ?_;refine zJ (a2) (zn m zE) ?_;refine aD ?_;refine EK ?_;exact zg (zi l EC (by simp[zp,m]));have y:Jq x ⟨o,b,c,g,ds,p⟩=false:=by unfold Jq;simp[hE]
  rw[y];generalize wu x p=e at *;refine zt func10 ntmps10 results10 λS nx l=>?_;refine EK ?_;refine EK ?_;refine zq j ?_;intro v0;repeat apply za
  refine zb ?_;refine aC (EK ?_);refine zq w ?_;intro v1;repeat apply za
  refine ze [(2,23)] trivial ?_;refine yP [(2,23)] a0 trivial ?_;refine zm (by simp[hE]) ?_;refine EK ?_;exact EL l
 have z:Js t s=false:=by unfold Js;rw[decide_eq_false h0];rfl
 rw[z];generalize (yD t).2=e at *;refine zt func10 ntmps10 results10 λS nx l=>?_;refine EK ?_;refine EK ?_;refine zq j ?_;intro v0;repeat apply za
 refine zb ?_;refine zm (by simp[h0]) ?_;refine EK ?_;exact EL l
end Go.Proofs.YtdjbbndbalhekaaGreatDoor.Pv
