/- Part of a proof, packed. -/
import Derived.Test.YtcocagkbfpgmiaaGreatDoorC2
open Go.Proofs.Tryz
set_option maxRecDepth 100000
set_option maxHeartbeats 3200000
namespace Go.Proofs.YtcocagkbfpgmiaaGreatDoor.Pv
open Go
def yv(x:Inst)(d:zr):Int :=
 match d.find? (λt=>zV x t != 0) with
 | some t=>zV x t
 | none=>if ¬(d.flatten.map (·.c)).Nodup then 11 else if x.veh<d.length then 14 else 0
theorem Zee{α:Type}{p:α->Bool}{l:List α}{k:Nat}{a:α}(h:(l.take k).find? p=none)(ht:l.take (k+1)=l.take k++[a])(ha:p a=false):(l.take (k+1)).find? p=none:=by
 rw[ht,List.find?_append,h];simp[ha]
theorem Zef{α:Type}{p:α->Bool}{l:List α}{k:Nat}{a:α}(h:(l.take k).find? p=none)(hd:l.drop k=a :: l.drop (k+1))(ha:p a=true):l.find? p=some a:=by
 have e:l=l.take k++a :: l.drop (k+1):=by rw[<-hd,List.take_append_drop]
 rw[e,List.find?_append,h];simp[ha]
theorem ZaU(x:Inst)(d:zr)(hx:x.cust.length<=1048576)(hn:d.length<=1048576)(ht:∀t∈d,t.length<=1048576)(hf:d.flatten.length<=1048576):Pure prog 111 [.agg (zD x),.agg [L d]] (I (yv x d)):=by
 refine zx func111 ntmps111 results111 λS nx hd=>?_
 refine DK ?_;intro v0 v1
 repeat apply ze
 refine zg ?_;refine zn (zJ (λs:Nat × Nat × Nat=>s.1<=d.length/\(d.take s.1).find? (λt=>zV x t != 0)=none) (λ(k,v,v')=>[(2,.ptr nx v 0),(3,.ptr (nx+1) v' 0),(9,L d),(10,I d.length),(11,I k)]) (λ(k,v,v')=>[.cells v 25 (zD x),.cells v' 39 [L d]]) (λs=>d.length-s.1) (0,v0,v1) [] DC DC DC ?_);rintro⟨k,v0,v1⟩ ⟨hk,ha⟩;simp only at hk ha ⊢;refine DK ?_;refine ze (zz rfl (λhc=>?_) (λhc=>?_))
 ·simp at hc;obtain⟨t,tl,a1,a2,a3,e0⟩:=zL rfl d k hc;refine zk (ze (zn (ze (zi [] (zt hc e0) ?_))));intros;refine DK ?_;refine zu (Xv x t hx (ht t (Ab a1))) ?_;refine DK ?_;refine zz rfl (λh1=>?_) (λh1=>?_)
  ·simp at h1;refine DK ?_;exact zj (zm hd rfl (by simp only[yv,Zef ha a2 (by simpa using h1)];simp))
  ·simp at h1;refine zk (zg ?_);exact zv (k+1,v0,v1) [_] ⟨hc,Zee ha a3 (by simpa using h1)⟩ DF (by simp[zA k (by omega)]) rfl DD
 ·simp at hc;have hk':k=d.length:=DB
  subst hk';rw[Ag]at ha;have hst:=Zd9 d hn hf;have hres:yv x d=if ¬(d.flatten.map (·.c)).Nodup then 11 else if x.veh<d.length then 14 else 0:=by unfold yv;rw[ha]
  generalize d.flatten=fl at *;refine zC ?_
  repeat apply ze
  refine zg ?_;refine zu hst ?_;refine λhsuf=>((Xr fl hf _ _ jU).mono ?_).v
  rintro _ _ ⟨v2,rfl,rfl⟩;refine⟨_,_,Jq _,jy [] Nat.add_assoc hsuf ?_⟩;rw[<-List.length_map (f:=λs:Stop=>s.c)];refine λhsuf=>((Zec _ DC (by simpa using hf)).mono ?_).v
  rintro _ _ ⟨rfl,rfl⟩;refine⟨_,_,yh _ DC DC,zQ hsuf ?_⟩;refine zz rfl (λh2=>?_) (λh2=>?_)
  ·simp at h2;refine DK ?_;exact zj (zm hd rfl (by simp[hres,h2]))
  ·simp at h2;refine zk ?_
   repeat apply ze
   refine zg ?_;refine zz rfl (λh3=>?_) (λh3=>?_)
   ·simp at h3;refine DK ?_;exact zj (zm hd rfl (by simp[hres,h2,h3]))
   ·simp at h3;refine zk (DK ?_);exact zj (zm hd rfl (by simp[hres,h2,Dx.2 h3]))
def qG(l:List Stop):zr:=l.map λs=>[s]
theorem Zkk(l:List Stop)(hl:l.length<=1048576):Pure prog 314 [L l] (.agg [L (qG l)]):=by
 refine zx func314 ntmps314 results314 λS nx hd=>?_
 refine DK ?_;intro v0;refine DK ?_;intro v1;refine ze (jd 1 0 42 1 rfl rfl λv2=>?_);refine DK ?_;refine zn (zJ (λs:Nat × zr × Nat × Nat × Nat=>s.1<=l.length/\s.2.1=qG (l.take s.1)) (λ(k,out,v,v',v2)=>[(2,.ptr nx v 0),(3,.ptr (nx+1) v' 0),(6,L l),(7,I l.length),(8,I k)]) (λ(k,out,v,v',v2)=>[.cells v 39 [.sc (.slice none 0 0)],.cells v' 39 [.sl (nx+2) v2 1 0 out.length],.cells v2 42 (out.flatMap Enc.enc)]) (λs=>l.length-s.1) (0,[],v0,v1,v2) [] (by simp[qG]) DC DC ?_);rintro⟨k,out,v0,v1,v2⟩ ⟨hk,ho⟩;simp only at hk ho ⊢;refine DK ?_;refine ze (zz rfl (λhc=>?_) (λhc=>?_))
 ·simp at hc;obtain⟨s,tl,a1,a2,a3,e1,e0⟩:=el 2 rfl l k hc;refine zk (ze (zn (ze (zi [] (zt hc e0) ?_))));intros;have hol:out.length=k:=by rw[ho];simp[qG];omega
  refine zg ?_;refine⟨by omega,?_⟩;refine zg ?_;exact zv (k+1,out++[[s]],v0,v1,v2+1) [_] (by simp[a3,ho,qG];omega) DF (by simp[zA k (by omega)]) rfl DD
 ·simp at hc;have hk':k=l.length:=DB
  subst hk';refine zC (DK ?_);refine yb 2 rfl ?_;exact zj (zm hd DD (by simp[ho]))
open Go
theorem ZaV(s:Stop):Pure prog 309 [.agg [I s.c,I s.q]] (.agg [L [s]]):=by
 refine zx func309 ntmps309 results309 λS nx hd=>?_
 refine DK ?_;intro v0 v1;refine DK ?_;exact DL hd
theorem Zeg(l:List Int)(hl:l.length<=1048576)(hs:l.Pairwise (·<=·)):Pure prog 310 [L l] (B (decide (¬l.Nodup))):=by
 refine zx func310 ntmps310 results310 λS nx hd=>?_
 refine DK ?_
 repeat apply ze
 refine zg ?_;refine zn (zJ (λj:Nat=>(j=0\/j+1<=l.length)/\(l.take (j+1)).Nodup) (λj=>[(0,L l),(3,I ((j+1:Nat):Int))]) (λ_=>[]) (λj=>l.length-j) 0 [] (by cases l<;>simp) DC DC ?_);rintro j ⟨hj,hjn⟩
 repeat apply ze
 refine zg ?_;refine zz rfl (λhc=>?_) (λhc=>?_)
 ·simp at hc;have hc':j+1<l.length:=DB
  obtain⟨c,tl1,b1,b2,b3,e1⟩:=zL rfl l (j+1) hc';obtain⟨p,tl2,d1,d2,d3,e2⟩:=zL rfl l j DB;have wj:IntKind.i64.wrap (j:Int)=j:=wr _ DB DB;have g1:(j:Int)<l.length:=DB
  have g2:(j:Int)+1<l.length:=DB
  have g3:0<=(j:Int)+1:=DB
  refine zk (ze (zn (ze (zB none (Row.pures [0,1,2,3,4,5,6,7,8,9] .done) mixed (zS wj e1 e2 g1 g2 g3) ?_))));refine zz rfl (λhq=>?_) (λhq=>?_)
  ·simp at hq;refine DK ?_;exact zj (zm hd rfl (by simp;exact Zd7 b1 (by rw[d1,hq]) (by omega)))
  ·simp at hq;refine zk (zg ?_);have w2:IntKind.i64.wrap ((j:Int)+1+1)=((j+1+1:Nat):Int):=by rw[wr _ DB DB];omega
   exact zv (j+1) [] ⟨by omega,Zeb hs hjn d3 b3 (λe=>hq e.symm)⟩ DB (by simp[w2]) rfl DC
 ·simp at hc;refine zC (DK ?_);rw[Ae DB]at hjn;exact zj (zm hd rfl (by simp[hjn]))
theorem Zeh(ss:List Stop)(hss:ss.length<=1048576):Pure prog 311 [L ss] (L (yS (ss.map (·.c)))):=by
 have hcust:=λS nx hd=>Xr ss hss S nx hd
 obtain⟨zs,hzs⟩:∃zs,zs=ss.map (·.c):=⟨_,rfl⟩;have hzl:ss.length=zs.length:=by rw[hzs];simp
 rw[<-hzs,hzl]at hcust;rw[<-hzs];have hz4:=YO zs;refine zx func311 ntmps311 results311 λS nx hd=>?_
 refine DK ?_;refine DK ?_;refine λhsuf=>((hcust _ _ jU).mono ?_).v
 rintro _ _ ⟨v1,rfl,rfl⟩;refine⟨_,_,Jq _,jy [] Nat.add_assoc hsuf ?_⟩;refine DK ?_;refine λhsuf=>((W0 zs DC DB).mono ?_).v
 rintro _ _ rfl;refine⟨_,_,yh _ DC DC,zQ hsuf ?_⟩;generalize yS zs=c at *;rw[<-hz4];refine yb 1 rfl ?_;refine DK ?_;exact DL hd
def xY(x:Inst)(l:List Stop):Int :=
 match l.find? (λs=>zV x [s] != 0) with
 | some s=>zV x [s]
 | none=>if ¬(l.map (·.c)).Nodup then 11 else 0
theorem Zkl(x:Inst)(l:List Stop)(hx:x.cust.length<=1048576)(hl:l.length<=1048576):Pure prog 284 [.agg (zD x),L l] (I (xY x l)):=by
 have hcu:=Zeh l hl;have hdo:=Zeg (yS (l.map (·.c))) (by rw[YO];simpa using hl) (Xt _);have hdd:decide (¬(yS (l.map (·.c))).Nodup)=decide (¬(l.map (·.c)).Nodup):=by rw[decide_eq_decide,ZaT]
 rw[hdd]at hdo;refine zx func284 ntmps284 results284 λS nx hd=>?_
 refine DK ?_;intro v0
 repeat apply ze
 refine zg ?_;refine zn (zJ (λk:Nat=>k<=l.length/\(l.take k).find? (λs=>zV x [s] != 0)=none) (λk=>[(1,L l),(2,.ptr nx v0 0),(8,L l),(9,I l.length),(10,I k)]) (λ_=>[.cells v0 25 (zD x)]) (λk=>l.length-k) 0 [] DC DC DC ?_);rintro k ⟨hk,ha⟩;refine DK ?_;refine ze (zz rfl (λhc=>?_) (λhc=>?_))
 ·simp at hc;obtain⟨s,tl,a1,a2,a3,e1,e0⟩:=el 2 rfl l k hc;refine zk (ze (zn (ze (zi [] (zF hc e1 e0) ?_))));intro v1;refine ze (zB none (Row.pures [0,1,2,3,4] .done) mixed trivial ?_);refine zP (ZaV s) trivial ?_;refine zP (Xv x [s] hx DC) trivial ?_;refine DK ?_;refine zz rfl (λh1=>?_) (λh1=>?_)
  ·simp at h1;refine DK ?_;exact zj (zm hd rfl (by simp only[xY,Zef ha a2 (by simpa using h1)];simp))
  ·simp at h1;refine zk (zg ?_);exact zv (k+1) [_] ⟨hc,Zee ha a3 (by simpa using h1)⟩ DB (by simp[zA k (by omega)]) rfl DD
 ·simp at hc;obtain rfl:k=l.length:=DB
  rw[Ag]at ha;have hres:xY x l=if ¬(l.map (·.c)).Nodup then 11 else 0:=by unfold xY;rw[ha]
  refine zC ?_
  repeat apply ze
  refine zg ?_;refine zu hcu ?_;refine zu hdo ?_
  by_cases h2:(l.map (·.c)).Nodup
  ·repeat apply ze
   refine zp (by simp[h2]) ?_;refine zk (DK ?_);exact zj (zm hd DD (by simp[hres,h2,zq]))
  ·repeat apply ze
   refine zo (by simp[h2]) ?_;refine DK ?_;exact zj (zm hd DD (by simp[hres,h2,zq]))
open Go
structure KeyOk {α:Type} [DecidableEq α] (d:TypeDesc) (key:α->Value):Prop where
 same:∀a b,Instr.sameNow d (key a) (key b)=some (decide (a=b))
theorem QE(k:IntKind):KeyOk (.int k) (λi:Int=>Value.int k i):=⟨λa b=>by simp[Instr.sameNow]⟩
def MapIs{α β:Type}(key:α->Value)(enc:β->PV)(es:List (Value × PV))(g:α->Option β):Prop :=
 ∃l:List (α × β),es=l.map (λx=>(key x.1,enc x.2))/\(l.map (·.1)).Nodup/\(∀a b,(a,b)∈l<->g a=some b)
def qM{α β:Type}[DecidableEq α](g:α->Option β)(a:α)(v:Option β):α->Option β:=λx=>if x=a then v else g x
theorem Zei{α β:Type}(key:α->Value)(enc:β->PV):MapIs key enc [] (λ_=>none):=⟨[],rfl,by simp,by simp⟩
theorem Zej{α β:Type}[DecidableEq α]{d:TypeDesc}{key:α->Value}{enc:β->PV}(hk:KeyOk d key)(a:α):∀(l:List (α × β)) (i:Nat),a ∉ l.map (·.1)->qT d (key a) (l.map λx=>(key x.1,enc x.2)) i=some none
 | [],_,_=>rfl
 | x :: l,i,h=>by
  simp only[AD,Aw,not_or]at h;simp only[AD,qT,hk.same,decide_eq_false h.1];exact Zej hk a l (i+1) h.2
theorem Zek{α β:Type}[DecidableEq α]{d:TypeDesc}{key:α->Value}{enc:β->PV}(hk:KeyOk d key)(a:α)(b:β):∀(l:List (α × β)) (i:Nat),(l.map (·.1)).Nodup->(a,b)∈l ->
  ∃j,l[j]?=some (a,b)/\qT d (key a) (l.map λx=>(key x.1,enc x.2)) i=some (some (i+j,enc b))
 | [],_,_,h=>by cases h
 | x :: l,i,hn,h=>by
  simp only[AD,Cz]at hn
  by_cases e:a=x.1
  ·have hx:x=(a,b):=by
    rcases Aw.1 h with h | h
    ·exact h.symm
    ·simp_all
   subst hx;exact⟨0,rfl,by simp[qT,hk.same]⟩
  ·have hm:(a,b)∈l:=by
    rcases Aw.1 h with h | h
    ·grind
    ·exact h
   obtain⟨j,h1,h2⟩:=Zek hk a b l (i+1) hn.2 hm;refine⟨j+1,by simpa using h1,?_⟩;simp only[AD,qT,hk.same,decide_eq_false e];rw[h2,show i+1+j=i+(j+1) by omega]
theorem MapIs.find{α β:Type}[DecidableEq α]{d:TypeDesc}{key:α->Value}{enc:β->PV}{es:List (Value × PV)}{g:α->Option β}(hk:KeyOk d key)(h:MapIs key enc es g)(a:α):
  ∃res,qT d (key a) es 0=some res/\(g a=none->res=none)/\(∀b,g a=some b->∃j,res=some (j,enc b))/\(∀b,MapIs key enc (qK (key a) (enc b) es res) (qM g a (some b)))/\MapIs key enc (Xl es res) (qM g a none):=by
 obtain⟨l,rfl,hn,hg⟩:=h;cases hga:g a with
 | none =>
  have hna:a ∉ l.map (·.1):=by
   intro hm;obtain⟨x,hx,rfl⟩:=Ar.1 hm;have:=(hg x.1 x.2).1 hx;rw[hga]at this;cases this
  have q1:∀b,MapIs key enc (qK (key a) (enc b) (l.map λx=>(key x.1,enc x.2)) none) (qM g a (some b)):=λb=>by
   refine⟨l++[(a,b)],by simp[qK],?_,λa' b'=>?_⟩
   rotate_left
   focus
    unfold qM
    by_cases e:a'=a
    ·subst e;simp only[if_pos,AG,AZ,hg,hga];simp[eq_comm]
    ·simp[AG,hg,e]
   rw[List.map_append,Db];refine⟨hn,by simp,λx hx y hy=>?_⟩;simp at hy;subst hy;exact λe=>hna (e ▸ hx)
  refine⟨none,Zej hk a l 0 hna,(by intro _;rfl),(by intro b hb;cases hb),q1,l,by simp[Xl],hn,λa' b'=>?_⟩
  grind[qM]
 | some b0 =>
  obtain⟨j,h1,h2⟩:=Zek (enc:=enc) hk a b0 l 0 hn ((hg a b0).2 hga);have hj:j<l.length:=(Ac.1 h1).1;have hja:l[j]=(a,b0):=(Ac.1 h1).2;have huniq:∀(i:Nat) (hi:i<l.length),l[i].1=a->i=j:=by
   intro i hi he;have hp:=Bn.1 hn;rcases Nat.lt_trichotomy i j with h | h | h
   ·grind
   ·exact h
   ·grind
  suffices hh:(∀b,MapIs key enc (qK (key a) (enc b) (l.map λx=>(key x.1,enc x.2)) (some (0+j,enc b0))) (qM g a (some b)))/\MapIs key enc (Xl (l.map λx=>(key x.1,enc x.2)) (some (0+j,enc b0))) (qM g a none) from
   ⟨some (0+j,enc b0),h2,DC,DC,hh.1,hh.2⟩
  refine⟨λb=>⟨l.set j (a,b),?_,?_,λa' b'=>?_⟩,l.eraseIdx j,?_,?_,λa' b'=>?_⟩
  ·simp[qK]
  ·grind[List.map_set]
  ·unfold qM;rw[Bb];constructor
   ·grind
   ·intro h
    by_cases e:a'=a
    ·rw[if_pos e]at h;cases h;exact⟨j,by simp_all⟩
    ·rw[if_neg e]at h;obtain⟨i,hi⟩:=Bb.1 ((hg a' b').2 h);refine⟨i,?_⟩
     grind
  ·simp only[Xl,AQ];apply AX
   grind
  ·grind
  ·unfold qM
   by_cases e:a'=a
   ·rw[if_pos e];refine⟨λh=>?_,λh=>by cases h⟩;obtain⟨i,hi⟩:=Bb.1 h
    grind
   ·rw[if_neg e,<-hg];refine⟨λh=>(List.eraseIdx_sublist l j).subset h,λh=>?_⟩;obtain⟨i,hi⟩:=Bb.1 h;have hij:i≠j:=by rintro rfl;rw[h1]at hi;cases hi;exact e rfl
    rw[Bb]
    by_cases hlt:i<j
    ·exact⟨i,by grind⟩
    ·refine⟨i-1,?_⟩
     grind
open Go Hp
abbrev qa:Int->Int->Bool:=λa b=>decide (a<b)
theorem uX:Str qa:=⟨λa=>by simp,λa b c h1 h2=>by simp at *;omega,λa b h1 h2=>by simp at *;omega⟩
def yk(x:Int × Int):List PV:=[.sc (.int .i64 x.1),.sc (.int .i64 x.2)]
theorem YP(x:Int × Int):(yk x).length=2:=rfl
abbrev qH(x:Int):Value:=.int .i64 x
structure PosOk (g:Int->Option Nat) (l:zM Int):Prop where
 here:∀i,i<l.length->g (zG l i).1=some i
 gone:∀id,(∀i,i<l.length->(zG l i).1≠id)->g id=none
abbrev ZaW(i:Nat):PV:=.sc (.int .i64 (i:Int))
def RowIs(cs:List PV)(l:zM Int):Prop:=∃rest,cs=l.flatMap yk++rest
theorem RowIs.at{cs:List PV}{l:zM Int}(h:RowIs cs l)(i:Nat)(hi:i<l.length):∃tl,cs.drop (i*2)=.sc (.int .i64 (zG l i).1) :: .sc (.int .i64 (zG l i).2) :: tl:=by
 obtain⟨rest,rfl⟩:=h;refine⟨(l.drop (i+1)).flatMap yk++rest,?_⟩;rw[BZ (by rw[Jj yk 2 YP];omega),Zdw yk 2 YP l i hi];have:zG l i=l[i]:=by unfold zG;simp[hi]
 rw[this];rfl
theorem RowIs.big{cs:List PV}{l:zM Int}(h:RowIs cs l):l.length*2<=cs.length:=by
 obtain⟨rest,rfl⟩:=h;rw[Aq,Jj yk 2 YP];omega
theorem RowIs.put{cs:List PV}{l:zM Int}(h:RowIs cs l)(i:Nat)(hi:i<l.length)(x:Int × Int):RowIs (yd cs (i*2) [.sc (.int .i64 x.1),.sc (.int .i64 x.2)]) (l.set i x):=by
 obtain⟨rest,rfl⟩:=h;refine⟨rest,?_⟩;have hl:(l.flatMap yk).length=l.length*2:=Jj yk 2 YP l
 show List.take (i*2) (l.flatMap yk++rest)++yk x++List.drop (i*2+2) (l.flatMap yk++rest)=_
 rw[BD DB,Qx yk 2 YP,show i*2+2=(i+1)*2 by omega,BZ DB,Ji yk 2 YP]
 simp_all[Ax]
theorem RowIs.take{cs:List PV}{l:zM Int}(h:RowIs cs l):cs.take (l.length*2)=l.flatMap yk:=by
 obtain⟨rest,rfl⟩:=h;rw[BD (by rw[Jj yk 2 YP];omega),Qx yk 2 YP,Ag]
structure HS (S:Store) (hid hv rid mid mv:Nat) (l:zM Int) (g:Int->Option Nat):Prop where
 h:∃ver,S hid=.cells hv 445 [.sl rid ver 2 0 l.length,.mp mid mv]/\∃cs,S rid=.cells ver 449 cs/\RowIs cs l
 m:∃es,S mid=.map mv es/\MapIs qH ZaW es g
 ne:hid≠rid/\hid≠mid/\rid≠mid
 len:l.length<=2147483648
def Offd(S:Store)(ids:List Nat)(S':Store):Prop:=∀o,o ∉ ids->S' o=S o\/S o=.dead
def Off(S:Store)(ids:List Nat)(S':Store):Prop:=∀o,o ∉ ids->S' o=S o
theorem Offd.refl(S:Store)(ids:List Nat):Offd S ids S:=λ_ _=>.inl rfl
theorem Offd.set{S T:Store}{ids:List Nat}(h:Offd S ids T){o:Nat}(ho:o∈ids\/S o=.dead)(x:Ob):Offd S ids (T.set o x):=by
 intro i hi
 by_cases e:i=o
 ·simp_all
 ·rw[q9 _ _ _ _ e];exact h i hi
theorem Off.offd{S T:Store}{ids:List Nat}(h:Off S ids T):Offd S ids T:=λo ho=>.inl (h o ho)
theorem Off.trans{S T U:Store}{ids:List Nat}(h:Off S ids T)(k:Off T ids U):Off S ids U:=λo ho=>(k o ho).trans (h o ho)
def cut(S:Store)(ids:List Nat)(S':Store):Store:=λo=>if o∈ids then S' o else S o
theorem Zy(S:Store)(ids:List Nat)(S':Store):Off S ids (cut S ids S'):=λo ho=>by simp[cut,ho]
theorem Zkm(S:Store)(ids:List Nat)(S':Store){o:Nat}(h:o∈ids):cut S ids S' o=S' o:=by simp[cut,h]
theorem Zz{S S':Store}{ids:List Nat}(h:Offd S ids S'):∀o,cut S ids S' o=S' o\/cut S ids S' o=.dead:=by
 intro o;unfold cut;split
 ·simp
 ·rename_i ho;rcases h o ho with h | h<;>simp_all
theorem HS.congr{S T:Store}{hid hv rid mid mv:Nat}{l:zM Int}{g:Int->Option Nat}(h:HS S hid hv rid mid mv l g)(e:∀o∈[hid,rid,mid],T o=S o):HS T hid hv rid mid mv l g:=by
 obtain⟨ver,h1,cs,h2,hR⟩:=h.h;obtain⟨es,h3⟩:=h.m;exact⟨⟨ver,by simp_all,cs,by simp_all,hR⟩,⟨es,by simp_all⟩,h.ne,h.len⟩
theorem HS.cut{S T:Store}{hid hv rid mid mv:Nat}{l:zM Int}{g:Int->Option Nat}(h:HS T hid hv rid mid mv l g):HS (cut S [hid,rid,mid] T) hid hv rid mid mv l g:=h.congr λ_ ho=>Zkm _ _ _ ho
theorem wD(S:Store)(o:Nat)(x:Ob)(i:Nat):S.set o x i=if i=o then x else S i:=by grind[q11,q9]
theorem Zel{S:Store}{o i:Nat}{x:Ob}(h:S.set o x i=.dead)(hx:x≠.dead):i≠o/\S i=.dead:=by grind[wD]
theorem vE{S:Store}{o i:Nat}{x:Ob}(h:S o=x)(hx:x≠.dead)(d:S i=.dead):o≠i:=DI
theorem Zkn{S:Store}{hid hv rid mid mv:Nat}{l:zM Int}{g:Int->Option Nat}(hs:HS S hid hv rid mid mv l g):
  PCalls prog 413 [.ptr hid hv 0] S (λp S'=>p=zZ l.length/\S'=S):=by
 obtain⟨ver,h1,cs,h2,hR⟩:=hs.h;refine wW func413 rfl ntmps413 (congrArg Array.toList results413) DC ?_;refine ze (qx DG DD (ze (yP [] DG λK hK=>?_)));simp[h1];refine hK _ _ (zj ?_);simp[uV,zZ]
theorem Zko{S:Store}{hid hv rid mid mv:Nat}{l:zM Int}{g:Int->Option Nat}(hs:HS S hid hv rid mid mv l g)(i j:Nat)(hi:i<l.length)(hj:j<l.length):
  PCalls prog 414 [.ptr hid hv 0,zZ i,zZ j] S (λp S'=>p=wA (il qa (zG l i) (zG l j))/\S'=S):=by
 obtain⟨ver,h1,cs,h2,hR⟩:=hs.h;obtain⟨tl1,e1⟩:=hR.at i hi;obtain⟨tl2,e2⟩:=hR.at j hj;refine wW func414 rfl ntmps414 (congrArg Array.toList results414) DC ?_;refine ze (qx DG DD (ze ?_));refine Qv (some [hid,rid]) (Row.pures [0,1,2,3,4,5,6,7,8,9,10,11,12,13] (.alt 14 (.alt 15 (.alt 16 (.alt 17 (.done) .stop) .stop) .stop) (.alt 15 (.alt 14 (.alt 16 (.alt 17 (.done) .stop) .stop) .stop) .stop))) mixed DG DG DG λK hK=>?_
 have z1:hid≠rid:=hs.ne.1;have tail:∀(F:Nat->PV) (T:Store) (a b:Nat),F 7=.ptr a 0 0->F 8=.ptr b 0 0->T a=.cells 0 449 (yk (zG l i))->T b=.cells 0 449 (yk (zG l j))->Offd S [] T->K F T:=by
  intro F T a b f7 f8 ta tb hoff;have fin:∀o,S o=T o\/S o=.dead:=λo=>(hoff o DC).imp Eq.symm id
  refine hK _ _ ?_;refine ze (ze (yP [] DG λK' hK'=>?_));simp[f7,f8,ta,tb,yk];refine hK' _ _ (zz rfl (λhc=>?_) (λhc=>?_))
  ·refine ze (yP [] DG λK2 hK2=>?_);simp[f7,f8,ta,tb,yk];refine hK2 _ _ (zj ⟨_,S,rfl,⟨?_,rfl⟩,fin⟩);simp at hc;simp[il,hc,wA]
  ·refine zk (ze (yP [] DG λK2 hK2=>?_));simp[f7,f8,ta,tb,yk];refine hK2 _ _ (zj ⟨_,S,rfl,⟨?_,rfl⟩,fin⟩);simp at hc;simp[il,hc,wA]
 simp[h1,h2,hi,hj,e1,e2,zZ];constructor
 ·refine Qw rfl DD DC λa ha=>?_
  have n1:=vE h1 DC ha;have n2:=vE h2 DC ha;simp[h1,h2,wD,n1,n2];refine Qw rfl DD DC λb hb=>?_
  have n3:=Zel hb DC;have n4:=vE h1 DC n3.2;have n5:=vE h2 DC n3.2;simp[h1,h2,wD,n1,n2,n3,n4,n5,n3.1.symm];exact tail _ _ a b rfl rfl (by simp[wD,n3.1,n3.1.symm,yk]) (by simp[wD,n3.1,n3.1.symm,yk]) (by repeat (first | exact Offd.refl _ _ | refine Offd.set ?_ (by first | exact .inr ha | exact .inr n3.2) _))
 ·refine Qw rfl DD DC λa ha=>?_
  have n1:=vE h1 DC ha;have n2:=vE h2 DC ha;simp[h1,h2,wD,n1,n2];refine Qw rfl DD DC λb hb=>?_
  have n3:=Zel hb DC;have n4:=vE h1 DC n3.2;have n5:=vE h2 DC n3.2;simp[h1,h2,wD,n1,n2,n3,n4,n5,n3.1.symm];exact tail _ _ b a rfl rfl (by simp[wD,n3.1,n3.1.symm,yk]) (by simp[wD,n3.1,n3.1.symm,yk]) (by repeat (first | exact Offd.refl _ _ | refine Offd.set ?_ (by first | exact .inr ha | exact .inr n3.2) _))
theorem Zkp{S:Store}{hid hv rid mid mv:Nat}{l:zM Int}{g:Int->Option Nat}(hs:HS S hid hv rid mid mv l g)(i j:Nat)(hi:i<l.length)(hj:j<l.length):
  PCalls prog 417 [.ptr hid hv 0,zZ i,zZ j] S (λ_ S'=>Off S [hid,rid,mid] S'/\HS S' hid hv rid mid mv (swp l i j) (qM (qM g (zG (swp l i j) i).1 (some i)) (zG (swp l i j) j).1 (some j))):=by
 obtain⟨ver,h1,cs,h2,hR⟩:=hs.h;obtain⟨es,h3,h4⟩:=hs.m;obtain⟨z1,z2,z3⟩:=hs.ne;obtain⟨tl1,e1⟩:=hR.at i hi;obtain⟨tl2,e2⟩:=hR.at j hj;have b0:=hR.big;have b1:i*2+2<=cs.length:=DB
 have b2:j*2+2<=cs.length:=DB
 refine wW func417 rfl ntmps417 (congrArg Array.toList results417) DC ?_;refine ze (Qv (some [hid]) (Row.pures [0,1,2,3,4,5,6,7,8,9,10,11,12,13,14,15,17,18,19,20,21,22] (.alt 16 (.alt 23 (Row.pures [24] (.alt 25 (Row.pures [26] (.alt 27 (.done) .stop)) .stop)) .stop) (.alt 23 (.alt 16 (Row.pures [24] (.alt 25 (Row.pures [26] (.alt 27 (.done) .stop)) .stop)) .stop) .stop))) mixed DG DG DG λK hK=>?_);have r1:=(hR.put i hi (zG l j)).put j (by simpa using hj) (zG l i);have hsw:(l.set i (zG l j)).set j (zG l i)=swp l i j:=rfl;rw[hsw]at r1;have hsl:(swp l i j).length=l.length:=uz l i j;have tail:∀(F:Nat->PV),F 0=.ptr hid hv 0->F 1=zZ i->F 2=zZ j->K F (S.set rid (.cells ver 449 (yd (yd cs (i*2) [.sc (.int .i64 (zG l j).1),.sc (.int .i64 (zG l j).2)]) (j*2) [.sc (.int .i64 (zG l i).1),.sc (.int .i64 (zG l i).2)]))):=by
  intro F f0 f1 f2;refine hK _ _ ?_;generalize hcs':yd (yd cs (i*2) [.sc (.int .i64 (zG l j).1),.sc (.int .i64 (zG l j).2)]) (j*2) [.sc (.int .i64 (zG l i).1),.sc (.int .i64 (zG l i).2)]=cs' at r1;obtain⟨tl1,e1⟩:=r1.at i DB;obtain⟨tl2,e2⟩:=r1.at j DB;have b0:=r1.big;have b1:i*2+2<=cs'.length:=DB
  have b2:j*2+2<=cs'.length:=DB
  have hT:Offd S [hid,rid,mid] (S.set rid (.cells ver 449 cs')):=(Offd.refl _ _).set (.inl DC) _;have t1:S.set rid (.cells ver 449 cs') hid=_:=(q9 _ _ _ _ z1).trans h1;have t2:S.set rid (.cells ver 449 cs') rid=_:=q11 _ _ _;have t3:S.set rid (.cells ver 449 cs') mid=_:=(q9 _ _ _ _ (Ne.symm z3)).trans h3;generalize S.set rid (.cells ver 449 cs')=T at hT t1 t2 t3;obtain⟨res,m1,_,_,m2,_⟩:=h4.find (QE .i64) (zG (swp l i j) i).1;refine ze (Qv (some [hid,rid]) (Row.pures [0,1,2,3,4,5,6,7,8,9,10,11,12] (.alt 13 (.done) .stop)) mixed DG DG DG λK hK=>?_);simp -implicitDefEqProofs [f0,f1,f2,t1,t2,hi,hj,e1,e2,zZ,b1,b2];refine Ya (.inl rfl) underlying384 underlying3 rfl rfl rfl t3 m1 ?_;simp -implicitDefEqProofs [q9,z2,z3,t1,t2];refine hK _ _ ?_;clear hK;have u1:T.set mid (.map mv (qK (qH (zG (swp l i j) i).1) (zZ i) es res)) hid=_:=(q9 _ _ _ _ z2).trans t1;have u2:T.set mid (.map mv (qK (qH (zG (swp l i j) i).1) (zZ i) es res)) rid=_:=(q9 _ _ _ _ z3).trans t2;have u3:T.set mid (.map mv (qK (qH (zG (swp l i j) i).1) (zZ i) es res)) mid=_:=q11 _ _ _;have hU:Offd S [hid,rid,mid] (T.set mid (.map mv (qK (qH (zG (swp l i j) i).1) (zZ i) es res))):=hT.set (.inl DC) _;have m3:=m2 i;obtain⟨res2,m4,_,_,m5,_⟩:=m3.find (QE .i64) (zG (swp l i j) j).1
  show PW _ _ _ _ _ _ _ (T.set mid (.map mv (qK (qH (zG (swp l i j) i).1) (zZ i) es res)))
  change MapIs qH ZaW (qK (qH (zG (swp l i j) i).1) (zZ i) es res) _ at m3;generalize T.set mid (.map mv (qK (qH (zG (swp l i j) i).1) (zZ i) es res))=U at u1 u2 u3 hU;refine Qv (some [hid,rid]) (Row.pures [0,1,2,3,4,5,6,7,8,9,10,11,12] (.alt 13 (.done) .stop)) mixed DG DG DG λK hK=>?_
  simp -implicitDefEqProofs [f0,f1,f2,u1,u2,hi,hj,e1,e2,zZ,b1,b2];refine Ya (.inl rfl) underlying384 underlying3 rfl rfl rfl u3 m4 ?_;simp -implicitDefEqProofs [q9,z2,z3,u1,u2];refine hK _ _ ⟨_,_,rfl,⟨Zy _ _ _,HS.cut ⟨⟨ver,?_,cs',?_,r1⟩,⟨_,?_,m5 j⟩,⟨z1,z2,z3⟩,?_⟩⟩,Zz (hU.set (.inl DC) _)⟩
  ·rw[q9 _ _ _ _ z2,u1,hsl]
  ·rw[q9 _ _ _ _ z3,u2]
  ·exact q11 _ _ _
  ·rw[hsl];exact hs.len
 simp -implicitDefEqProofs [h1,h2,hi,hj,e1,e2,zZ,b1,b2,wD,z1];exact⟨tail _ rfl rfl rfl,tail _ rfl rfl rfl⟩
theorem Zkq:ElemOk prog 441 449 (.agg #[.int .i64 0,.int .i64 0]) 16 :=
 ⟨underlying441,by simp,by simp,by simp,by simp,by omega⟩
theorem Zkr{S:Store}{hid hv rid mid mv:Nat}{l:zM Int}{g:Int->Option Nat}(hs:HS S hid hv rid mid mv l g)(x:Int × Int)(hn:l.length+1<=2147483648):
  PCalls prog 416 [.ptr hid hv 0,.ifc 449 (.agg (yk x))] S (λ_ S'=>Off S [hid,rid,mid] S'/\HS S' hid hv rid mid mv (l++[x]) (qM g x.1 (some l.length))):=by
 obtain⟨ver,h1,cs,h2,hR⟩:=hs.h;obtain⟨es,h3,h4⟩:=hs.m;obtain⟨z1,z2,z3⟩:=hs.ne;have b0:=hR.big;refine wW func416 rfl ntmps416 (congrArg Array.toList results416) DC ?_;refine ze (yP [] DG λK hK=>?_);simp -implicitDefEqProofs [yk];refine Zi3 rfl underlying449 (by intro ms;simp) DD (p:=.tup [.agg (yk x),.sc (.bool true)]) (by simp[Zay,yk]) ?_;simp -implicitDefEqProofs [yk];refine Qw rfl DD DC λa ha=>?_
 simp -implicitDefEqProofs [yk];have n1:=vE h1 DC ha;have n2:=vE h2 DC ha;have n3:=vE h3 DC ha;refine hK _ _ ?_;clear hK;have hT:Offd S [hid,rid,mid] (S.set a (.cells 0 449 (yk x))):=(Offd.refl _ _).set (.inr ha) _;have t1:S.set a (.cells 0 449 (yk x)) hid=_:=(q9 _ _ _ _ n1).trans h1;have t2:S.set a (.cells 0 449 (yk x)) rid=_:=(q9 _ _ _ _ n2).trans h2;have t3:S.set a (.cells 0 449 (yk x)) mid=_:=(q9 _ _ _ _ n3).trans h3;have t4:S.set a (.cells 0 449 (yk x)) a=_:=q11 _ _ _
 show PW _ _ _ _ _ _ _ (S.set a (.cells 0 449 (yk x)))
 generalize S.set a (.cells 0 449 (yk x))=T at hT t1 t2 t3 t4;refine ze (qx DG DD (zz rfl (λ_=>?_) (λh=>by simp at h)));obtain⟨res,m1,_,_,m2,_⟩:=h4.find (QE .i64) x.1;refine ze (Qv (some [hid,a]) (Row.pures [0,1,2,3,4,5,6,7,8,9,10] (.alt 11 (.done) .stop)) mixed DG DG DG λK hK=>?_);simp -implicitDefEqProofs [t1,t4,yk];refine Ya (.inl rfl) underlying384 underlying3 rfl rfl rfl t3 m1 ?_;simp -implicitDefEqProofs [q9,z2,n3.symm,t1,t4,yk];refine hK _ _ ?_;clear hK;have m3:=m2 l.length;have u1:T.set mid (.map mv (qK (qH x.1) (zZ l.length) es res)) hid=_:=(q9 _ _ _ _ z2).trans t1;have u2:T.set mid (.map mv (qK (qH x.1) (zZ l.length) es res)) rid=_:=(q9 _ _ _ _ z3).trans t2;have u3:T.set mid (.map mv (qK (qH x.1) (zZ l.length) es res)) mid=_:=q11 _ _ _;have u4:T.set mid (.map mv (qK (qH x.1) (zZ l.length) es res)) a=_:=(q9 _ _ _ _ n3.symm).trans t4;have hU:Offd S [hid,rid,mid] (T.set mid (.map mv (qK (qH x.1) (zZ l.length) es res))):=hT.set (.inl DC) _
 show PW _ _ _ _ _ _ _ (T.set mid (.map mv (qK (qH x.1) (zZ l.length) es res)))
 change MapIs qH ZaW (qK (qH x.1) (zZ l.length) es res) _ at m3;generalize T.set mid (.map mv (qK (qH x.1) (zZ l.length) es res))=U at u1 u2 u3 u4 hU;refine Qv (some [a]) (Row.pures [0,1,2,3,5,6] (.alt 4 (.alt 7 (Row.pures [8,9] (.alt 10 (.done) .stop)) .stop) .stop)) mixed DG DG DG λK hK=>?_
 simp -implicitDefEqProofs [u1,u4,yk];refine ZiX rfl Zkq DD u2 (by simpa using b0) (m:=1) (ds:=yk x) (by simp[yk]) DB DB ?_;simp -implicitDefEqProofs [wD,z1,n1.symm,n2.symm,u1,u4,yk];have r1:RowIs (cs.take (l.length*2)++yk x) (l++[x]):=⟨[],by rw[hR.take];simp⟩;refine hK _ _ ⟨_,_,rfl,⟨Zy _ _ _,HS.cut ⟨⟨ver+1,?_,_,?_,r1⟩,⟨_,?_,m3⟩,⟨z1,z2,z3⟩,?_⟩⟩,Zz ((hU.set (.inl DC) _).set (.inl DC) _)⟩
 ·rw[Zax];simp
 ·rw[q9 _ _ _ _ z1.symm,Zax];simp[yk]
 ·rw[q9 _ _ _ _ z2.symm,q9 _ _ _ _ z3.symm,u3]
 ·simp;omega
theorem Zks{S:Store}{hid hv rid mid mv:Nat}{l:zM Int}{g:Int->Option Nat}(x:Int × Int)(hs:HS S hid hv rid mid mv (l++[x]) g):
  PCalls prog 415 [.ptr hid hv 0] S (λp S'=>p=.ifc 449 (.agg (yk x))/\Off S [hid,rid,mid] S'/\HS S' hid hv rid mid mv l (qM g x.1 none)):=by
 obtain⟨ver,h1,cs,h2,hR⟩:=hs.h;obtain⟨es,h3,h4⟩:=hs.m;obtain⟨z1,z2,z3⟩:=hs.ne;have b0:=hR.big;have hlen:=hs.len;simp only[Aq,Au,A6,AQ]at h1 b0 hlen;refine wW func415 rfl ntmps415 (congrArg Array.toList results415) DC ?_;have hw:IntKind.i64.wrap (l.length:Int)=l.length:=Zr _ DB DB;obtain⟨tl,e1⟩:=hR.at l.length DC;have ha:zG (l++[x]) l.length=x:=by simp[zG]
 rw[ha]at e1;refine ze (qx DG DD (ze (yP [] DG λK hK=>?_)));simp -implicitDefEqProofs [h1,hw];refine hK _ _ ?_;clear hK;refine ze (yP [] DG λK hK=>?_);have hlt:(l.length:Int)<l.length+1:=DB
 have b1:l.length*2+2<=cs.length:=DB
 simp -implicitDefEqProofs [h1,h2,e1,hlt];refine Qw rfl DD DC λa ha=>?_
 have n1:=vE h1 DC ha;have n2:=vE h2 DC ha;have n3:=vE h3 DC ha;simp -implicitDefEqProofs;refine hK _ _ ?_;clear hK;refine ze (yP [] DG λK hK=>?_);simp -implicitDefEqProofs [wD,n1,n2,h1,h2,hlt,b1];refine hK _ _ ?_;clear hK;refine ze (yP [] DG λK hK=>?_);simp -implicitDefEqProofs [wD,n1,n2,z1,h1,h2,hlt,b1];refine hK _ _ ?_;clear hK;have r1:RowIs (yd cs (l.length*2) [.sc (.int .i64 0),.sc (.int .i64 0)]) l:=by
  obtain⟨rest,q⟩:=hR.put l.length DC (0,0);exact⟨yk (0,0)++rest,by rw[q,Bw _ _ (Af _)];simp⟩
 have hT:Offd S [hid,rid,mid] (((S.set a (.cells 0 449 (yk x))).set rid (.cells ver 449 (yd cs (l.length*2) [.sc (.int .i64 0),.sc (.int .i64 0)]))).set hid (.cells hv 445 [.sl rid ver 2 0 l.length,.mp mid mv])) :=
  (((Offd.refl _ _).set (.inr ha) _).set (.inl DC) _).set (.inl DC) _
 have t1:(((S.set a (.cells 0 449 (yk x))).set rid (.cells ver 449 (yd cs (l.length*2) [.sc (.int .i64 0),.sc (.int .i64 0)]))).set hid (.cells hv 445 [.sl rid ver 2 0 l.length,.mp mid mv])) hid=.cells hv 445 [.sl rid ver 2 0 l.length,.mp mid mv]:=DC
 have t2:(((S.set a (.cells 0 449 (yk x))).set rid (.cells ver 449 (yd cs (l.length*2) [.sc (.int .i64 0),.sc (.int .i64 0)]))).set hid (.cells hv 445 [.sl rid ver 2 0 l.length,.mp mid mv])) rid=.cells ver 449 (yd cs (l.length*2) [.sc (.int .i64 0),.sc (.int .i64 0)]):=by simp[wD,z1.symm]
 have t3:(((S.set a (.cells 0 449 (yk x))).set rid (.cells ver 449 (yd cs (l.length*2) [.sc (.int .i64 0),.sc (.int .i64 0)]))).set hid (.cells hv 445 [.sl rid ver 2 0 l.length,.mp mid mv])) mid=.map mv es:=by simp[wD,z2.symm,z3.symm,n3,h3]
 have t4:(((S.set a (.cells 0 449 (yk x))).set rid (.cells ver 449 (yd cs (l.length*2) [.sc (.int .i64 0),.sc (.int .i64 0)]))).set hid (.cells hv 445 [.sl rid ver 2 0 l.length,.mp mid mv])) a=.cells 0 449 (yk x):=by simp[wD,n1.symm,n2.symm]
 show PW _ _ _ _ _ _ _ (((S.set a (.cells 0 449 (yk x))).set rid (.cells ver 449 (yd cs (l.length*2) [.sc (.int .i64 0),.sc (.int .i64 0)]))).set hid (.cells hv 445 [.sl rid ver 2 0 l.length,.mp mid mv]))
 generalize (((S.set a (.cells 0 449 (yk x))).set rid (.cells ver 449 (yd cs (l.length*2) [.sc (.int .i64 0),.sc (.int .i64 0)]))).set hid (.cells hv 445 [.sl rid ver 2 0 l.length,.mp mid mv]))=T at hT t1 t2 t3 t4;obtain⟨res,m1,_,_,_,m2⟩:=h4.find (QE .i64) x.1;refine ze (Qv (some [hid,a]) (Row.pures [0,1,2,3,4,5] (.alt 6 (.done) .stop)) mixed DG DG DG λK hK=>?_);simp -implicitDefEqProofs [t1,t4,yk];refine Zi1 rfl rfl underlying384 underlying3 rfl rfl rfl t3 m1 ?_;simp -implicitDefEqProofs [q9,z2,n3.symm,t1,t4,yk];refine hK _ _ ?_;clear hK;refine ze (yP [] DG λK hK=>?_);simp -implicitDefEqProofs [q9,z2,n3.symm,t1,t4,yk];refine hK _ _ (zj ⟨_,_,rfl,⟨rfl,Zy _ _ _,HS.cut ⟨⟨ver,?_,_,?_,r1⟩,⟨_,?_,m2⟩,⟨z1,z2,z3⟩,?_⟩⟩,Zz (hT.set (.inl DC) _)⟩)
 ·rw[q9 _ _ _ _ z2,t1]
 ·rw[q9 _ _ _ _ z3,t2]
 ·exact Zax _ _ _
 ·omega
open Go Hp
def HP(S:Store)(hid hv rid mid mv:Nat)(l:zM Int):Prop:=∃g,HS S hid hv rid mid mv l g/\PosOk g l
theorem PosOk.inj{g:Int->Option Nat}{l:zM Int}(h:PosOk g l){i j:Nat}(hi:i<l.length)(hj:j<l.length)(e:(zG l i).1=(zG l j).1):i=j:=by
 have h1:=h.here i hi;rw[e,h.here j hj]at h1
 simp_all
theorem PosOk.swp{g:Int->Option Nat}{l:zM Int}(h:PosOk g l)(i j:Nat)(hi:i<l.length)(hj:j<l.length):PosOk (qM (qM g (zG (swp l i j) i).1 (some i)) (zG (swp l i j) j).1 (some j)) (swp l i j):=by
 have at':=λk=>J8 l i j k hi hj
 have ei:(zG (Hp.swp l i j) i).1=(zG l j).1:=by
  rw[at' i]
  by_cases e:i=j
  ·rw[if_pos e,e]
  ·simp_all
 have ej:(zG (Hp.swp l i j) j).1=(zG l i).1:=by rw[at' j,if_pos rfl]
 rw[ei,ej];refine⟨λk hk=>?_,λid hid=>?_⟩
 ·rw[uz]at hk;rw[at' k];unfold qM
  by_cases k1:k=j
  ·simp_all
  ·rw[if_neg k1]
   by_cases k2:k=i
   ·rw[if_pos k2];rw[if_neg (λe=>k1 (by rw[k2];exact(h.inj hj hi e).symm)),if_pos rfl,k2]
   ·rw[if_neg k2,if_neg (λe=>k2 (h.inj hk hi e)),if_neg (λe=>k1 (h.inj hk hj e))];exact h.here k hk
 ·unfold qM;have q1:=hid i (by rw[uz];exact hi);have q2:=hid j (by rw[uz];exact hj);rw[ei]at q1;rw[ej]at q2;rw[if_neg (Ne.symm q2),if_neg (Ne.symm q1)];refine h.gone id λk hk e=>?_
  grind[uz]
theorem Xw(l:zM Int)(x:Int × Int)(k:Nat)(hk:k<l.length):zG (l++[x]) k=zG l k:=by simp_all[zG,An]
theorem W4(l:zM Int)(x:Int × Int):zG (l++[x]) l.length=x:=by simp[zG]
theorem PosOk.push{g:Int->Option Nat}{l:zM Int}(h:PosOk g l)(x:Int × Int)(hx:g x.1=none):PosOk (qM g x.1 (some l.length)) (l++[x]):=by
 refine⟨λk hk=>?_,λid hid=>?_⟩
 ·simp only[Aq,Au,A6,AQ]at hk;unfold qM
  by_cases k1:k=l.length
  ·simp_all[W4]
  ·have hk':k<l.length:=DB
   rw[Xw l x k hk',if_neg]
   ·exact h.here k hk'
   ·intro e;have:=h.here k hk'
    simp_all
 ·have q:=hid l.length DC;rw[W4]at q;unfold qM;rw[if_neg (Ne.symm q)];refine h.gone id λk hk=>?_
  have:=hid k DF
  simp_all[Xw]
theorem PosOk.pop{g:Int->Option Nat}{l:zM Int}(x:Int × Int)(h:PosOk g (l++[x])):PosOk (qM g x.1 none) l:=by
 have hl:l.length<(l++[x]).length:=DC
 refine⟨λk hk=>?_,λid hid=>?_⟩
 ·have hk':k<(l++[x]).length:=DF
  have:=h.here k hk';rw[Xw l x k hk]at this;unfold qM;rw[if_neg]
  ·omega
  ·intro e;have:=h.inj hk' hl (by simp_all[Xw,W4]);omega
 ·unfold qM
  by_cases e:id=x.1
  ·rw[if_pos e]
  ·rw[if_neg e];refine h.gone id λk hk=>?_
   grind[W4,Xw]
theorem Zem : Jl prog 447 "Len" 413 := by intro v w; kernel_rfl
theorem ZaX : Jl prog 447 "Less" 414 := by intro v w; kernel_rfl
theorem ZaY : Jl prog 447 "Swap" 417 := by intro v w; kernel_rfl
theorem Zkt : Jl prog 447 "Push" 416 := by intro v w; kernel_rfl
theorem Zku : Jl prog 447 "Pop" 415 := by intro v w; kernel_rfl
abbrev hI(hid hv:Nat):PV:=.ifc 447 (.ptr hid hv 0)
theorem HP.len{S:Store}{hid hv rid mid mv:Nat}{l:zM Int}(h:HP S hid hv rid mid mv l):l.length<=2147483648:=by obtain⟨g,h,_⟩:=h;exact h.len
theorem HP.cut{S T:Store}{hid hv rid mid mv:Nat}{l:zM Int}(h:HP T hid hv rid mid mv l):HP (cut S [hid,rid,mid] T) hid hv rid mid mv l:=by obtain⟨g,h,k⟩:=h;exact⟨g,h.cut,k⟩
theorem Zen{S:Store}{hid hv rid mid mv:Nat}{l:zM Int}(h:HP S hid hv rid mid mv l):PCalls prog 413 [.ptr hid hv 0] S (λp S'=>p=zZ l.length/\S'=S):=by
 obtain⟨g,h,_⟩:=h;exact Zkn h
theorem ZaZ{S:Store}{hid hv rid mid mv:Nat}{l:zM Int}(h:HP S hid hv rid mid mv l)(i j:Nat)(hi:i<l.length)(hj:j<l.length):PCalls prog 414 [.ptr hid hv 0,zZ i,zZ j] S (λp S'=>p=wA (il qa (zG l i) (zG l j))/\S'=S):=by
 obtain⟨g,h,_⟩:=h;grind[Zko]
theorem Za0{S:Store}{hid hv rid mid mv:Nat}{l:zM Int}(h:HP S hid hv rid mid mv l)(i j:Nat)(hi:i<l.length)(hj:j<l.length):PCalls prog 417 [.ptr hid hv 0,zZ i,zZ j] S (λ_ S'=>Off S [hid,rid,mid] S'/\HP S' hid hv rid mid mv (swp l i j)):=by
 obtain⟨g,h,k⟩:=h;exact(Zkp h i j hi hj).mono λp S' q=>⟨q.1,_,q.2,k.swp i j hi hj⟩
theorem Zkv{S:Store}{hid hv rid mid mv:Nat}{l:zM Int}(h:HP S hid hv rid mid mv l)(x:Int × Int)(hx:∀i,i<l.length->(zG l i).1≠x.1)(hn:l.length+1<=2147483648):PCalls prog 416 [.ptr hid hv 0,.ifc 449 (.agg (yk x))] S (λ_ S'=>Off S [hid,rid,mid] S'/\HP S' hid hv rid mid mv (l++[x])):=by
 obtain⟨g,h,k⟩:=h;exact(Zkr h x hn).mono λp S' q=>⟨q.1,_,q.2,k.push x (k.gone _ hx)⟩
theorem Zkw{S:Store}{hid hv rid mid mv:Nat}{l:zM Int}(x:Int × Int)(h:HP S hid hv rid mid mv (l++[x])):PCalls prog 415 [.ptr hid hv 0] S (λp S'=>p=.ifc 449 (.agg (yk x))/\Off S [hid,rid,mid] S'/\HP S' hid hv rid mid mv l):=by
 obtain⟨g,h,k⟩:=h;exact(Zks x h).mono λp S' q=>⟨q.1,q.2.1,_,q.2.2,k.pop x⟩
theorem Zkx(j:Nat):((j:Int)-1).tdiv 2=(ye j:Nat):=by grind[ye]
theorem Zeo{S:Store}{hid hv rid mid mv:Nat}{l:zM Int}(h:HP S hid hv rid mid mv l)(j:Nat)(hj:j<l.length):
  PCalls prog 377 [hI hid hv,zZ j] S (λ_ S'=>Off S [hid,rid,mid] S'/\HP S' hid hv rid mid mv (ww qa (j+1) l j)):=by
 refine wW func377 rfl ntmps377 (congrArg Array.toList results377) DC ?_;refine zn (Zam (λF S' m=>∃(lc:zM Int) (jc:Nat),m=jc/\jc<lc.length/\F 0=hI hid hv/\F 1=zZ jc/\Off S [hid,rid,mid] S'/\HP S' hid hv rid mid mv lc/\ww qa (jc+1) lc jc=ww qa (j+1) l j) j ⟨l,j,rfl,hj,rfl,rfl,λ_ _=>rfl,h,rfl⟩ ?_);rintro jc F T ⟨lc,_,rfl,hjc,f0,f1,hoff,hp,hup⟩;have hlen:=hp.len;have w1:IntKind.i64.wrap ((jc:Int)-1)=(jc:Int)-1:=Zr _ DB DB;have hpar:ye jc<=jc:=by unfold ye;omega
 have w2:IntKind.i64.wrap (ye jc:Int)=ye jc:=Zr _ DB DB;refine zn (ze (yP [] DG λK hK=>?_));simp -implicitDefEqProofs [f0,f1,zZ,w1,Zkx,w2];refine hK _ _ ?_;clear hK
 by_cases hc:ye jc=jc
 ·refine ze (ze (yP [] DG λK hK=>?_));simp -implicitDefEqProofs [f0,f1,zZ,hc];refine hK _ _ (zz rfl (λ_=>zC ?_) (λq=>by simp at q));refine⟨_,_,rfl,⟨Zy _ _ _,?_⟩,Zz hoff.offd⟩;rw[<-hup];unfold ww;rw[if_pos (.inl hc)];exact hp.cut
 ·refine ze (ze (yP [] DG λK hK=>?_));have hc':¬((ye jc:Nat):Int)=jc:=DB
  simp -implicitDefEqProofs [f0,f1,zZ,hc,hc'];refine Zt rfl rfl rfl ZaX ZaN (by exact ZaZ hp jc (ye jc) hjc (by omega)) λp S' hq=>?_
  obtain⟨rfl,rfl⟩:=hq;simp -implicitDefEqProofs [wA];refine hK _ _ ?_;clear hK;cases hl:il qa (zG lc jc) (zG lc (ye jc)) with
  | false =>
   refine zz rfl (λ_=>zC ?_) (λq=>by simp at q);refine⟨_,_,rfl,⟨Zy _ _ _,?_⟩,Zz hoff.offd⟩;rw[<-hup];unfold ww;rw[if_pos (.inr hl)];exact hp.cut
  | true =>
   refine zz rfl (λq=>by simp at q) (λ_=>zk (ze (yP [] DG λK hK=>?_)));simp -implicitDefEqProofs [f0,f1,zZ];refine Zt rfl rfl rfl ZaY ZaO (by exact Za0 hp (ye jc) jc (by omega) hjc) λp S' hq=>?_
   obtain⟨hq1,hq2⟩:=hq;refine hK _ _ ?_;clear hK;refine qx DG DD ?_;refine⟨ye jc,⟨swp lc (ye jc) jc,ye jc,rfl,by rw[uz];omega,f0,by rfl,hoff.trans hq1,hq2,?_⟩,by omega⟩
   grind[ww,Zig]
theorem Zky{S:Store}{hid hv rid mid mv:Nat}{l:zM Int}(h:HP S hid hv rid mid mv l)(i n:Nat)(hi:i<n)(hn:n<=l.length):
  PCalls prog 380 [hI hid hv,zZ i,zZ n] S (λp S'=>p=wA (decide (i<(qe qa n l i n).2))/\Off S [hid,rid,mid] S'/\HP S' hid hv rid mid mv (qe qa n l i n).1):=by
 refine wW func380 rfl ntmps380 (congrArg Array.toList results380) DC ?_;refine ze (qx DG DD (ze (qx DG DD (ze ?_))));refine Xe (Q:=λe F T=>e=.normal/\F 1=zZ i/\F 7=zZ (qe qa n l i n).2/\Off S [hid,rid,mid] T/\HP T hid hv rid mid mv (qe qa n l i n).1) (zn (Zam (λF S' m=>∃(lc:zM Int) (ic:Nat),m=n-ic/\ic<n/\n<=lc.length/\F 0=hI hid hv/\F 1=zZ i/\F 2=zZ n/\F 7=zZ ic/\Off S [hid,rid,mid] S'/\HP S' hid hv rid mid mv lc/\qe qa n lc ic n=qe qa n l i n) (n-i) ⟨l,i,rfl,hi,hn,rfl,rfl,rfl,rfl,λ_ _=>rfl,h,rfl⟩ ?_)) ?_
 rotate_left
 ·rintro e F T ⟨rfl,f1,f7,hoff,hp⟩;refine ze (yP [] DG λK hK=>?_);simp -implicitDefEqProofs [f1,f7,zZ];refine hK _ _ (zj ⟨_,_,rfl,⟨?_,Zy _ _ _,hp.cut⟩,Zz hoff.offd⟩);simp[wA]
 rintro _ F T ⟨lc,ic,rfl,hic,hnl,f0,f1,f2,f7,hoff,hp,hdown⟩;have hlen:=hp.len;have w1:IntKind.i64.wrap (2*(ic:Int))=2*(ic:Int):=Zr _ DB DB;have w2:IntKind.i64.wrap (2*(ic:Int)+1)=((2*ic+1:Nat):Int):=by rw[Zr _ DB DB];omega
 have w3:IntKind.i64.wrap (((2*ic+1:Nat):Int)+1)=((2*ic+2:Nat):Int):=by rw[Zr _ DB DB];omega
 refine zn (ze (yP [] DG λK hK=>?_));simp -implicitDefEqProofs only [f0,f1,f7,zZ,w1,w2];generalize hk1:2*ic+1=k1 at w2 w3;simp -implicitDefEqProofs [f0,f1,f7,zZ,w1,w2];refine hK _ _ ?_;clear hK
 by_cases hc:n<=k1
 ·refine ze (ze (yP [] DG λK hK=>?_));have hc':(n:Int)<=k1:=DB
  simp -implicitDefEqProofs [f0,f1,f2,f7,zZ,hc,hc'];refine hK _ _ (zz rfl (λ_=>zC ?_) (λq=>by simp at q));have hd:qe qa n lc ic n=(lc,ic):=by
   cases n with
   | zero=>omega
   | succ n=>unfold qe;rw[if_pos DB]
  rw[hdown]at hd
  simp_all
 ·refine ze (ze (yP [] DG λK hK=>?_));have hc':¬(n:Int)<=k1:=DB
  have hc2:¬(k1:Int)<0:=DB
  simp -implicitDefEqProofs [f0,f1,f2,f7,zZ,hc',hc2];refine hK _ _ (zz rfl (λq=>by simp at q) (λ_=>zk ?_));clear hK;refine ze (qx DG DD ?_);obtain⟨c1,c2,c3,c4,c5⟩:=Zc3 uX lc ic n DB;have hkd:jw qa lc ic n<lc.length:=DB
  refine ze (Xe (Q:=λe F' T'=>e=.normal/\T'=T/\F' 0=hI hid hv/\F' 1=zZ i/\F' 2=zZ n/\F' 7=zZ ic/\F' 9=zZ (jw qa lc ic n)) ?_ ?_)
  ·generalize hk2:2*ic+2=k2 at w3;refine ze (yP [] DG λK hK=>?_);simp -implicitDefEqProofs [f0,f1,f2,f7,zZ,w3];refine hK _ _ ?_;clear hK
   by_cases h2:k2<n
   ·refine ze (yP [] DG λK hK=>?_);have h2':(k2:Int)<n:=DB
    simp -implicitDefEqProofs [f0,f1,f2,f7,zZ,h2,h2'];refine Zt rfl rfl rfl ZaX ZaN (by exact ZaZ hp k2 k1 (by omega) (by omega)) λp S' hq=>?_
    obtain⟨rfl,rfl⟩:=hq;simp -implicitDefEqProofs [wA];refine hK _ _ ?_;clear hK;cases hl:il qa (zG lc k2) (zG lc k1) with
    | true =>
     refine zz rfl (λ_=>qx DG DD ?_) (λq=>by simp at q);refine⟨rfl,rfl,f0,f1,f2,f7,?_⟩;unfold jw;rw[hk1,hk2,if_pos ⟨h2,hl⟩];rfl
    | false =>
     refine zz rfl (λq=>by simp at q) (λ_=>zk ⟨rfl,rfl,f0,f1,f2,f7,?_⟩);unfold jw;rw[hk1,hk2,if_neg (by rw[hl];simp)];rfl
   ·refine ze (yP [] DG λK hK=>?_);have h2':¬(k2:Int)<n:=DB
    simp -implicitDefEqProofs [f0,f1,f2,f7,zZ,h2,h2'];refine hK _ _ (zz rfl (λq=>by simp at q) (λ_=>zk ⟨rfl,rfl,f0,f1,f2,f7,?_⟩));unfold jw;rw[hk1,hk2,if_neg (λq=>h2 q.1)];rfl
  ·clear f0 f1 f2 f7 F;rintro e F S' ⟨rfl,rfl,f0,f1,f2,f7,f9⟩;have hstep:qe qa n lc ic n=if il qa (zG lc (jw qa lc ic n)) (zG lc ic)=false then (lc,ic) else qe qa n (swp lc ic (jw qa lc ic n)) (jw qa lc ic n) n:=by
    cases n with
    | zero=>omega
    | succ n =>
     grind[qe,Zii]
   rw[hdown]at hstep;generalize hkk:jw qa lc ic n=kk at *;refine ze (ze (yP [] DG λK hK=>?_));simp -implicitDefEqProofs [f0,f1,f2,f7,f9,zZ];refine Zt rfl rfl rfl ZaX ZaN (by exact ZaZ hp kk ic (by omega) (by omega)) λp S' hq=>?_
   obtain⟨rfl,rfl⟩:=hq;simp -implicitDefEqProofs [wA];refine hK _ _ ?_;clear hK;cases hl:il qa (zG lc kk) (zG lc ic) with
   | false =>
    rw[if_pos hl]at hstep;refine zz rfl (λ_=>zC ⟨rfl,f1,?_,hoff,?_⟩) (λq=>by simp at q)<;>simp_all
   | true =>
    rw[if_neg (by rw[hl];simp)]at hstep;refine zz rfl (λq=>by simp at q) (λ_=>zk (ze (yP [] DG λK hK=>?_)));simp -implicitDefEqProofs [f0,f1,f2,f7,f9,zZ];refine Zt rfl rfl rfl ZaY ZaO (by exact Za0 hp ic kk (by omega) hkd) λp S' hq=>?_
    obtain⟨hq1,hq2⟩:=hq;refine hK _ _ ?_;clear hK;refine qx DG (by simp[f9];rfl) ?_;refine⟨n-kk,⟨swp lc ic kk,kk,rfl,c2,by simp_all[uz],f0,f1,f2,rfl,hoff.trans hq1,hq2,hstep.symm⟩,by omega⟩
end Go.Proofs.YtcocagkbfpgmiaaGreatDoor.Pv
namespace Go.Proofs.YtcocagkbfpgmiaaGreatDoor.Hp
section
variable {α:Type} [DecidableEq α] [Inhabited α] {lt:α->α->Bool}
def ZA(lt:α->α->Bool)(l:zM α)(i n:Nat):zM α:=if i<(qe lt n l i n).2 then (qe lt n l i n).1 else ww lt (i+1) (qe lt n l i n).1 i
theorem Zkz(h:Str lt)(l:zM α)(i n:Nat)(hn:n<=l.length)(hi:i<n)(inv:DownInv lt l n i):uT lt (ZA lt l i n) n/\(ZA lt l i n).Perm l/\(ZA lt l i n).length=l.length/\∀k,n<=k->zG (ZA lt l i n) k=zG l k:=by
 obtain⟨q1,q2,q3,q4,q5,q6,q7⟩:=Zc4 h n l n i hn hi DB inv;unfold ZA;split
 ·rename_i hm;exact⟨q6 hm,q1,q2,q3⟩
 ·rename_i hm;obtain⟨r1,r2⟩:=q7 DB;rw[r1];exact Zc2 h (i+1) l n i hn hi DB ⟨r2,inv.kids⟩
theorem ZkA{l:zM α}(x:Int × α)(h:uT lt l l.length):UpInv lt (l++[x]) (l.length+1) l.length:=by
 have ap:∀k,k<l.length->zG (l++[x]) k=zG l k:=λk hk=>by
  unfold zG;rw[Aa,Aa,An hk]
 refine⟨λk k0 kn kj=>?_,λk k0 kn kp j0=>?_⟩
 ·have:=vY k0;rw[ap k DB,ap (ye k) DB];exact h k k0 DB
 ·have:=vY k0;omega
theorem ZkB(hs:Str lt){l:zM α}(i n:Nat)(hi:i<n)(hn:n+1=l.length)(h:uT lt l l.length):DownInv lt (swp l i n) n i:=by
 have at':=λk=>J8 l i n k DB DB
 refine⟨λk k0 kn kp ki=>?_,λk k0 kn kp i0=>?_⟩
 ·have:=vY k0;rw[at' k,at' (ye k),if_neg DB,if_neg ki,if_neg DB,if_neg kp];exact h k k0 DB
 ·have:=vY k0;have:=vY i0;rw[at' k,at' (ye i),if_neg DB,if_neg DB,if_neg DB,if_neg DB];have e1:=h k k0 DB;rw[kp]at e1;exact J9 hs e1 (h i i0 DB)
theorem ZkC{l:zM α}(n:Nat)(h:uT lt l n):uT lt (l.take n) n:=by
 intro k k0 kn;have:=vY k0;have e:∀j,j<n->zG (l.take n) j=zG l j:=λj hj=>by
  unfold zG;rw[Aa,Aa,BA,if_pos hj]
 rw[e k kn,e (ye k) DB];exact h k k0 kn
end
theorem ZkD{α:Type}[Inhabited α](l:zM α)(n:Nat)(hn:n+1=l.length):l=l.take n++[zG l n]:=by
 apply AX;intro k;rw[List.getElem?_append]
 by_cases h1:k<n
 ·rw[if_pos DF,BA,if_pos h1]
 ·rw[if_neg DF]
  by_cases h2:k=n
  ·subst h2;have:k<l.length:=DB
   simp[zG,this,A9 (DA this)]
  ·rw[Ak DB,Ak DF]
end Go.Proofs.YtcocagkbfpgmiaaGreatDoor.Hp
namespace Go.Proofs.YtcocagkbfpgmiaaGreatDoor.Pv
open Go Hp
def HH(S:Store)(hid hv rid mid mv:Nat)(l:zM Int):Prop:=HP S hid hv rid mid mv l/\uT qa l l.length
theorem HH.cut{S T:Store}{hid hv rid mid mv:Nat}{l:zM Int}(h:HH T hid hv rid mid mv l):HH (cut S [hid,rid,mid] T) hid hv rid mid mv l:=⟨h.1.cut,h.2⟩
theorem ZkE{S:Store}{hid hv rid mid mv:Nat}{l:zM Int}(h:HH S hid hv rid mid mv l)(x:Int × Int)(hx:∀i,i<l.length->(zG l i).1≠x.1)(hn:l.length+1<=2147483648):
  PCalls prog 367 [hI hid hv,.ifc 449 (.agg (yk x))] S (λ_ S'=>Off S [hid,rid,mid] S'/\∃l',HH S' hid hv rid mid mv l'/\l'.Perm (x :: l)):=by
 obtain⟨hp,hh⟩:=h;refine wW func367 rfl ntmps367 (congrArg Array.toList results367) DC ?_;refine ze (yP [] DG λK hK=>?_);simp -implicitDefEqProofs;refine Zt rfl rfl rfl Zkt ZjU (by exact Zkv hp x hx hn) λp S1 hq=>?_
 obtain⟨o1,p1⟩:=hq;refine hK _ _ ?_;clear hK;refine yP [] DG λK hK=>?_
 simp -implicitDefEqProofs;refine Zt rfl rfl rfl Zem ZdW (by exact Zen p1) λp S2 hq=>?_
 obtain⟨rfl,rfl⟩:=hq;have w1:IntKind.i64.wrap (l.length:Int)=l.length:=Zr _ DB DB;simp -implicitDefEqProofs [zZ,w1];obtain⟨q1,q2,q3,_⟩:=Zc2 uX (l.length+1) (l++[x]) (l.length+1) l.length DC DB DB (ZkA x hh);refine Qt rfl rfl rfl ZdV (by exact Zeo p1 l.length (by simp)) λp S3 hq=>?_
 obtain⟨o3,p3⟩:=hq;refine hK _ _ ⟨_,_,rfl,⟨Zy _ _ _,_,HH.cut ⟨p3,?_⟩,q2.trans (CJ (l₁:=l) (l₂:=[x]))⟩,Zz (o1.trans o3).offd⟩;rw[q3];simpa using q1
theorem ZkF{S:Store}{hid hv rid mid mv:Nat}{l:zM Int}(h:HH S hid hv rid mid mv l)(i:Nat)(hi:i<l.length):
  PCalls prog 378 [hI hid hv,zZ i] S (λp S'=>p=.ifc 449 (.agg (yk (zG l i)))/\Off S [hid,rid,mid] S'/\∃l',HH S' hid hv rid mid mv l'/\(zG l i :: l').Perm l):=by
 obtain⟨hp,hh⟩:=h;have hlen:=hp.len;obtain⟨n,hn⟩:∃n,n+1=l.length:=⟨l.length-1,by omega⟩;refine wW func378 rfl ntmps378 (congrArg Array.toList results378) DC ?_;refine ze (qx DG DD (ze (yP [] DG λK hK=>?_)));simp -implicitDefEqProofs;refine Zt rfl rfl rfl Zem ZdW (by exact Zen hp) λp S2 hq=>?_
 obtain⟨rfl,rfl⟩:=hq;have w1:IntKind.i64.wrap ((l.length:Int)-1)=n:=by rw[Zr _ DB DB];omega
 simp -implicitDefEqProofs [zZ,w1];refine hK _ _ ?_;clear hK;refine ze (Xe (Q:=λe F' T'=>e=.normal/\F' 0=hI hid hv/\Off S2 [hid,rid,mid] T'/\∃l3:zM Int,HP T' hid hv rid mid mv l3/\uT qa l3 n/\l3.Perm l/\l3.length=l.length/\zG l3 n=zG l i) ?_ ?_)
 ·refine ze (qx DG (by simp[zZ];rfl) ?_)
  by_cases hc:n=i
  ·refine zz rfl (λq=>by simp[hc]at q) (λ_=>zk ⟨rfl,rfl,λ_ _=>rfl,l,hp,λk k0 kn=>hh k k0 DB,.refl _,rfl,by rw[hc]⟩)
  ·have hc':¬(n:Int)=i:=DB
   refine zz rfl (λ_=>?_) (λq=>by simp[hc']at q);refine ze (yP [] DG λK hK=>?_);simp -implicitDefEqProofs [zZ];refine Zt rfl rfl rfl ZaY ZaO (by exact Za0 hp i n (by omega) (by omega)) λp S3 hq=>?_
   obtain⟨o3,p3⟩:=hq;refine hK _ _ ?_;clear hK;have inv:=ZkB uX i n DB hn hh;have hsl:=uz l i n;obtain⟨s1,s2,s3,s4⟩:=Zkz uX (swp l i n) i n DB DB inv;have hlast:zG (ZA qa (swp l i n) i n) n=zG l i:=by rw[s4 n (Af _),J8 l i n n hi DB,if_pos rfl]
   refine ze (yP [] DG λK hK=>?_);simp -implicitDefEqProofs [zZ];refine Qt rfl rfl rfl ZjS (by exact Zky p3 i n (by omega) (by omega)) λp S4 hq=>?_
   obtain⟨rfl,o4,p4⟩:=hq;simp -implicitDefEqProofs [wA];refine hK _ _ ?_;clear hK
   by_cases hm:i<(qe qa n (swp l i n) i n).2
   ·refine zz rfl (λq=>by simp at q;omega) (λ_=>zk ⟨rfl,rfl,o3.trans o4,ZA qa (swp l i n) i n,?_,s1,s2.trans (We l _ _ hi DB),s3.trans hsl,hlast⟩);unfold ZA;rw[if_pos hm];exact p4
   ·refine zz rfl (λ_=>?_) (λq=>by simp at q;omega);refine yP [] DG λK hK=>?_
    simp -implicitDefEqProofs [zZ];have hdl:(qe qa n (swp l i n) i n).1.length=l.length:=((Zc4 uX n (swp l i n) n i DB DB DB inv).2.1).trans hsl;refine Qt rfl rfl rfl ZdV (by exact Zeo p4 i (by omega)) λp S5 hq=>?_
    obtain⟨o5,p5⟩:=hq;refine hK _ _ ⟨rfl,rfl,(o3.trans o4).trans o5,ZA qa (swp l i n) i n,?_,s1,s2.trans (We l _ _ hi DB),s3.trans hsl,hlast⟩;unfold ZA;rw[if_neg hm];exact p5
 ·rintro e F T ⟨rfl,f0,hoff,l3,p3,h3,pm,hl3,hx⟩;have hsp:=ZkD l3 n DB;rw[hx]at hsp;rw[hsp]at p3 pm;refine ze (yP [] DG λK hK=>?_);simp -implicitDefEqProofs [f0];refine Zt rfl rfl rfl Zku ZjT (by exact Zkw _ p3) λp S4 hq=>?_
  obtain⟨rfl,o4,p4⟩:=hq;have hheap:uT qa (l3.take n) (l3.take n).length:=by
   have e:(l3.take n).length=n:=DF
   rw[e];exact ZkC n h3
  refine hK _ _ (zj ⟨_,_,rfl,⟨rfl,Zy _ _ _,_,HH.cut ⟨p4,hheap⟩,?_⟩,Zz (hoff.trans o4).offd⟩);exact(CJ (l₁:=[zG l i]) (l₂:=l3.take n)).trans pm
open Go Hp
abbrev vG(a b:Int × Int):Bool:=il qa a b
def vH(r:zM Int):Prop:=r.Pairwise (λa b=>vG a b=true)
def ZB(x:Int × Int):zM Int->zM Int
 | []=>[x]
 | y :: r=>if vG x y=true then x :: y :: r else y :: ZB x r
def Ye(id:Int)(r:zM Int):zM Int:=r.filter λx=>decide (x.1≠id)
def jV(id:Int)(r:zM Int):Bool:=r.any λx=>decide (x.1=id)
theorem Xx(x:Int × Int):∀r,(ZB x r).Perm (x :: r)
 | []=>.refl _
 | y :: r=>by
  unfold ZB;split
  ·exact .refl _
  ·exact((Xx x r).cons y).trans (.swap x y r)
theorem ZkG{a b c:Int × Int}(h1:vG a b=true)(h2:vG b c=true):vG a c=true:=(Z2 uX).tr _ _ _ h1 h2
theorem ZkH{a b:Int × Int}(h:vG a b=false)(hne:a.1≠b.1):vG b a=true:=by
 cases hq:vG b a with
 | true=>rfl
 | false=>exact absurd (congrArg Prod.fst ((Z2 uX).tot _ _ h hq)) hne
theorem Zep(x:Int × Int):∀r,vH r->(∀y∈r,y.1≠x.1)->vH (ZB x r)
 | [],_,_=>by simp[ZB,vH]
 | y :: r,h,hx=>by
  unfold ZB;have h':=Bc.1 h;split
  ·rename_i hl;refine Bc.2 ⟨λz hz=>?_,h⟩;rcases Aw.1 hz with rfl | hz
   ·exact hl
   ·exact ZkG hl (h'.1 z hz)
  ·rename_i hl;have hl':vG x y=false:=by simpa using hl
   refine Bc.2 ⟨λz hz=>?_,Zep x r h'.2 λz hz=>hx z (CP _ hz)⟩;rcases Aw.1 ((Xx x r).subset hz) with rfl | hz
   ·exact ZkH hl' (Ne.symm (hx y DC))
   ·exact h'.1 z hz
theorem ZkI(id:Int)(r:zM Int)(h:vH r):vH (Ye id r):=List.Pairwise.filter _ h
def HM(S:Store)(hid hv rid mid mv:Nat)(r:zM Int):Prop:=∃l,HH S hid hv rid mid mv l/\l.Perm r/\vH r
theorem HM.cut{S T:Store}{hid hv rid mid mv:Nat}{r:zM Int}(h:HM T hid hv rid mid mv r):HM (cut S [hid,rid,mid] T) hid hv rid mid mv r:=by obtain⟨l,h,k⟩:=h;exact⟨l,h.cut,k⟩
theorem Za1{l:zM Int}{i:Nat}(hi:i<l.length):zG l i∈l:=by
 have:zG l i=l[i]:=by unfold zG;simp[hi]
 rw[this];exact A8 hi
theorem Za2{l:zM Int}{x:Int × Int}(h:x∈l):∃i,i<l.length/\zG l i=x:=by
 obtain⟨i,hi,rfl⟩:=List.getElem_of_mem h;exact⟨i,hi,by unfold zG;simp[hi]⟩
theorem HS.look{S:Store}{hid hv rid mid mv:Nat}{l:zM Int}{g:Int->Option Nat}(h:HS S hid hv rid mid mv l g)(k:PosOk g l)(id:Int):∃es res,S mid=.map mv es/\qT (.int .i64) (qH id) es 0=some res /\
  ((jV id l=false/\Zs true (.int .i64 0) res=.tup [zZ 0,.sc (.bool false)])\/(jV id l=true/\∃i,i<l.length/\(zG l i).1=id/\Zs true (.int .i64 0) res=.tup [zZ i,.sc (.bool true)])):=by
 obtain⟨es,h3,h4⟩:=h.m;obtain⟨res,m1,m2,m3,_,_⟩:=h4.find (QE .i64) id;refine⟨es,res,h3,m1,?_⟩
 by_cases hi:∃i,i<l.length/\(zG l i).1=id
 ·obtain⟨i,hi,e⟩:=hi;refine .inr ⟨?_,i,hi,e,?_⟩
  ·simp only[jV,B0];exact⟨_,Za1 hi,by simpa using e⟩
  ·obtain⟨j,rfl⟩:=m3 i (by rw[<-e];exact k.here i hi);rfl
 ·refine .inl ⟨?_,?_⟩
  ·simp only[jV,CE];intro x hx;obtain⟨i,hi',rfl⟩:=Za2 hx;simp;exact λe=>hi ⟨i,hi',e⟩
  ·have:=m2 (k.gone id λi hi' e=>hi ⟨i,hi',e⟩);subst this;rfl
theorem Za3{id:Int}{l r:zM Int}(h:l.Perm r):jV id l=jV id r:=by
 unfold jV;rw[Dr,B0,B0];exact⟨λ⟨x,hx,e⟩=>⟨x,h.subset hx,e⟩,λ⟨x,hx,e⟩=>⟨x,h.symm.subset hx,e⟩⟩
theorem ZkJ{S:Store}{hid hv rid mid mv:Nat}{r:zM Int}(h:HM S hid hv rid mid mv r)(id w:Int)(hn:r.length+1<=2147483648):
  PCalls prog 348 [.ptr hid hv 0,zZ id,zZ w] S (λp S'=>p=wA (!jV id r)/\Off S [hid,rid,mid] S'/\HM S' hid hv rid mid mv (bif jV id r then r else ZB (id,w) r)):=by
 obtain⟨l,⟨hp,hh⟩,pm,hs⟩:=h;have hp0:=hp;obtain⟨g,hS,hk⟩:=hp0;obtain⟨ver,h1,cs,h2,hR⟩:=hS.h;obtain⟨es,res,h3,h4,h5⟩:=hS.look hk id;refine wW func348 rfl ntmps348 (congrArg Array.toList results348) DC ?_;refine ze (qx DG DD (ze (ze (yP [] DG λK hK=>?_))));simp -implicitDefEqProofs [h1];refine uW rfl underlying384 underlying3 rfl rfl rfl h3 h4 DD ?_;rcases h5 with ⟨h5,h6⟩ | ⟨h5,i,hi,hid,h6⟩
 ·rw[h6];simp -implicitDefEqProofs;refine hK _ _ ?_;clear hK;refine ze (qx DG DD (zz rfl (λq=>by simp at q) (λ_=>zk ?_)));refine ze (yP [] DG λK hK=>?_);simp -implicitDefEqProofs [zZ];have hx:∀i,i<l.length->(zG l i).1≠id:=by
   intro i hi e;have:jV id l=true:=by
    simp only[jV,B0];exact⟨_,Za1 hi,by simpa using e⟩
   rw[h5]at this;cases this
  refine Qt rfl rfl rfl ZjO (by exact ZkE ⟨hp,hh⟩ (id,w) hx (by rw[pm.length_eq];exact hn)) λp S3 hq=>?_
  obtain⟨o3,l',hh',pm'⟩:=hq;refine hK _ _ ?_;clear hK;refine ze (qx DG DD (zj ?_));rw[<-Za3 pm,h5];refine⟨_,_,rfl,⟨rfl,Zy _ _ _,HM.cut ⟨l',hh',pm'.trans (((List.Perm.cons _ pm)).trans (Xx _ _).symm),Zep _ _ hs λy hy e=>?_⟩⟩,Zz o3.offd⟩;obtain⟨j,hj,rfl⟩:=Za2 (pm.symm.subset hy);exact hx j hj e
 ·rw[h6];simp -implicitDefEqProofs;refine hK _ _ ?_;clear hK;refine ze (qx DG DD (zz rfl (λ_=>?_) (λq=>by simp at q)));refine ze (qx DG DD (zj ?_));rw[<-Za3 pm,h5];exact⟨_,_,rfl,⟨rfl,λ_ _=>rfl,⟨l,⟨hp,hh⟩,pm,hs⟩⟩,λo=>.inl rfl⟩
open Go Hp
def Once(r:zM Int):Prop:=(r.map (·.1)).Nodup
theorem HP.once{S:Store}{hid hv rid mid mv:Nat}{l:zM Int}(h:HP S hid hv rid mid mv l):Once l:=by
 obtain⟨g,_,k⟩:=h;unfold Once;refine Bn.2 λi j hi hj hij e=>?_
 simp only[List.length_map]at hi hj;simp only[Ct]at e;have q:∀i (hi:i<l.length),zG l i=l[i]:=λi hi=>by unfold zG;simp[hi]
 have:=k.inj hi hj (by rw[q i hi,q j hj];exact e);omega
theorem Once.perm{l r:zM Int}(h:l.Perm r)(k:Once l):Once r:=(List.Perm.nodup_iff (h.map λx:Int × Int=>x.1)).1 k
theorem HM.once{S:Store}{hid hv rid mid mv:Nat}{r:zM Int}(h:HM S hid hv rid mid mv r):Once r:=by
 obtain⟨l,⟨hp,_⟩,pm,_⟩:=h;exact hp.once.perm pm
theorem Zeq{x:Int × Int}{l:zM Int}(h:Once (x :: l)):Ye x.1 (x :: l)=l:=by
 unfold Ye;rw[B6,if_neg DC,List.filter_eq_self];intro y hy;simp only[decide_eq_true_eq];intro e;have:=(Cz.1 (show (x.1 :: l.map (·.1)).Nodup from h)).1;exact this (Ar.2 ⟨y,hy,e⟩)
theorem ZkK{l r:zM Int}(id:Int)(h:l.Perm r):(Ye id l).Perm (Ye id r):=h.filter _
theorem ZkL{id:Int}{l:zM Int}(h:jV id l=false):Ye id l=l:=by
 unfold Ye;rw[List.filter_eq_self];intro y hy;simp only[jV,CE]at h;simpa using h y hy
theorem ZkM{S:Store}{hid hv rid mid mv:Nat}{r:zM Int}(h:HM S hid hv rid mid mv r)(id:Int):
  PCalls prog 369 [.ptr hid hv 0,zZ id] S (λp S'=>p=wA (jV id r)/\Off S [hid,rid,mid] S'/\HM S' hid hv rid mid mv (Ye id r)):=by
 have hM:=h;obtain⟨l,⟨hp,hh⟩,pm,hs⟩:=h;have hp0:=hp;obtain⟨g,hS,hk⟩:=hp0;obtain⟨ver,h1,cs,h2,hR⟩:=hS.h;obtain⟨es,res,h3,h4,h5⟩:=hS.look hk id;refine wW func369 rfl ntmps369 (congrArg Array.toList results369) DC ?_;refine ze (qx DG DD (ze (yP [] DG λK hK=>?_)));simp -implicitDefEqProofs [h1];refine uW rfl underlying384 underlying3 rfl rfl rfl h3 h4 DD ?_;rw[Za3 pm]at h5;rcases h5 with ⟨h5,h6⟩ | ⟨h5,i,hi,hid,h6⟩
 ·rw[h6];simp -implicitDefEqProofs;refine hK _ _ ?_;clear hK;refine ze (ze (qx DG DD (zz rfl (λ_=>?_) (λq=>by simp at q))));refine ze (qx DG DD (zj ?_));rw[h5,ZkL h5];exact⟨_,_,rfl,⟨rfl,λ_ _=>rfl,hM⟩,λo=>.inl rfl⟩
 ·rw[h6];simp -implicitDefEqProofs [zZ];refine hK _ _ ?_;clear hK;refine ze (ze (qx DG DD (zz rfl (λq=>by simp at q) (λ_=>zk ?_))));refine ze (yP [] DG λK hK=>?_);simp -implicitDefEqProofs;refine Qt rfl rfl rfl ZjR (by exact ZkF ⟨hp,hh⟩ i hi) λp S3 hq=>?_
  obtain⟨_,o3,l',hh',pm'⟩:=hq;refine hK _ _ ?_;clear hK;refine ze (qx DG DD (zj ?_));rw[h5];have e1:Ye id (zG l i :: l')=l':=by rw[<-hid];exact Zeq (Once.perm pm'.symm hp.once)
  refine⟨_,_,rfl,⟨rfl,Zy _ _ _,HM.cut ⟨l',hh',?_,ZkI id r hs⟩⟩,Zz o3.offd⟩;have:=ZkK id (pm'.trans pm);rw[e1]at this;exact this
end Go.Proofs.YtcocagkbfpgmiaaGreatDoor.Pv
namespace Go.Proofs.YtcocagkbfpgmiaaGreatDoor.Hp
section
variable {α:Type} [DecidableEq α] [Inhabited α] {lt:α->α->Bool}
theorem ZkN(hs:Str lt){l:zM α}(h:uT lt l l.length):∀k,k<l.length->il lt (zG l k) (zG l 0)=false:=by
 intro k
 induction k using Nat.strongRecOn with
 | _ k ih =>
  intro hk;rcases BT k with e | e
  ·subst e;exact(Z2 hs).irr _
  ·have:=vY e;exact J9 hs (h k e hk) (ih (ye k) this DB)
end
end Go.Proofs.YtcocagkbfpgmiaaGreatDoor.Hp
namespace Go.Proofs.YtcocagkbfpgmiaaGreatDoor.Pv
open Go Hp
theorem HM.root{S:Store}{hid hv rid mid mv:Nat}{x:Int × Int}{r:zM Int}{l:zM Int}(h:HH S hid hv rid mid mv l)(pm:l.Perm (x :: r))(hs:vH (x :: r)):zG l 0=x:=by
 have hl:0<l.length:=by rw[pm.length_eq];simp
 obtain⟨k,hk,e⟩:=Za2 (pm.symm.subset (B8));have h1:=ZkN uX h.2 k hk;rw[e]at h1;rcases Aw.1 (pm.subset (Za1 hl)) with h2 | h2
 ·exact h2
 ·have:=(Bc.1 hs).1 _ h2;rw[show vG x (zG l 0)=false from h1]at this;cases this
def QF:zM Int->PV
 | []=>.tup [zZ 0,zZ 0,wA false]
 | x :: _=>.tup [zZ x.1,zZ x.2,wA true]
theorem ZkO{S:Store}{hid hv rid mid mv:Nat}{r:zM Int}(h:HM S hid hv rid mid mv r):
  PCalls prog 368 [.ptr hid hv 0] S (λp S'=>p=QF r/\S'=S):=by
 obtain⟨l,hh,pm,hs⟩:=h;have hp:=hh.1;obtain⟨g,hS,hk⟩:=hp;obtain⟨ver,h1,cs,h2,hR⟩:=hS.h;refine wW func368 rfl ntmps368 (congrArg Array.toList results368) DC ?_;refine ze (qx DG DD (ze (ze (yP [] DG λK hK=>?_))));simp -implicitDefEqProofs [h1];refine hK _ _ ?_;clear hK;cases r with
 | nil =>
  have hl:l.length=0:=by rw[pm.length_eq];rfl
  refine zz rfl (λ_=>?_) (λq=>by simp at q;exact absurd (Ap hl) q);refine ze (qx DG DD (ze (qx DG DD (zj ?_))));exact⟨_,S,rfl,⟨rfl,rfl⟩,λo=>.inl rfl⟩
 | cons x r =>
  have hl:0<l.length:=by rw[pm.length_eq];simp
  have hx:=HM.root hh pm hs;obtain⟨tl,e1⟩:=hR.at 0 hl;rw[hx]at e1;simp at e1;refine zz rfl (λq=>by simp at q;subst q;simp at hl) (λ_=>zk ?_);refine ze (yP [] DG λK hK=>?_);have hl':0<l.length:=hl;simp -implicitDefEqProofs [h1,h2,hl',e1];refine Qw rfl DD DC λa ha=>?_
  simp -implicitDefEqProofs;refine hK _ _ ?_;clear hK;refine ze (ZiR mixed DG DG DG DD (zj ?_));refine⟨_,S,rfl,⟨rfl,rfl⟩,λo=>?_⟩
  by_cases e:o=a
  ·exact .inr (e ▸ ha)
  ·exact .inl (by rw[q9 _ _ _ _ e])
theorem ZkP{S:Store}{hid hv rid mid mv:Nat}{r:zM Int}(h:HM S hid hv rid mid mv r):
  PCalls prog 349 [.ptr hid hv 0] S (λp S'=>p=QF r/\Off S [hid,rid,mid] S'/\HM S' hid hv rid mid mv r.tail):=by
 refine wW func349 rfl ntmps349 (congrArg Array.toList results349) DC ?_;refine ze (qx DG DD (ze (yP [] DG λK hK=>?_)));simp -implicitDefEqProofs;refine Qt rfl rfl rfl ZjP (by exact ZkO h) λp S2 hq=>?_
 obtain⟨rfl,rfl⟩:=hq;cases r with
 | nil =>
  simp -implicitDefEqProofs [QF];refine hK _ _ ?_;clear hK;refine ze (ze (qx DG DD (zz rfl (λq=>by simp at q) (λ_=>zk ?_))));refine ze (qx DG DD (zj ?_));exact⟨_,S2,rfl,⟨rfl,λ_ _=>rfl,h⟩,λo=>.inl rfl⟩
 | cons x r =>
  simp -implicitDefEqProofs [QF];refine hK _ _ ?_;clear hK;refine ze (ze (qx DG DD (zz rfl (λ_=>?_) (λq=>by simp at q))));refine yP [] DG λK hK=>?_
  simp -implicitDefEqProofs;refine Qt rfl rfl rfl ZjQ (by exact ZkM h x.1) λp S3 hq=>?_
  obtain⟨_,o3,h3⟩:=hq;refine hK _ _ ?_;clear hK;refine ze (qx DG DD (zj ?_));rw[Zeq h.once]at h3;exact⟨_,S3,rfl,⟨rfl,o3,h3⟩,λo=>.inl rfl⟩
open Go Hp
theorem HM.congr{S T:Store}{hid hv rid mid mv:Nat}{r:zM Int}(h:HM S hid hv rid mid mv r)(e:∀o∈[hid,rid,mid],T o=S o):HM T hid hv rid mid mv r:=by
 obtain⟨l,⟨⟨g,h,k⟩,hh⟩,pm,hs⟩:=h;exact⟨l,⟨⟨g,h.congr e,k⟩,hh⟩,pm,hs⟩
def HX(o:Ob × Ob × Ob)(a hv mv:Nat)(r:zM Int):Prop:=∀S:Store,S a=o.1->S (a+1)=o.2.1->S (a+2)=o.2.2->HM S (a+1) hv (a+2) a mv r
def ZC(obs:List Ob)(j:Nat)(o:Ob × Ob × Ob):List Ob:=((obs.set j o.1).set (j+1) o.2.1).set (j+2) o.2.2
theorem HM.hx{S:Store}{a hv mv:Nat}{r:zM Int}(h:HM S (a+1) hv (a+2) a mv r):HX (S a,S (a+1),S (a+2)) a hv mv r:=by
 intro T h1 h2 h3;refine h.congr λo ho=>?_
 simp at ho;rcases ho with rfl | rfl | rfl
 ·exact h2
 ·exact h3
 ·exact h1
theorem HX.hm{S:Store}{nx j hv mv:Nat}{obs:List Ob}{o:Ob × Ob × Ob}{r:zM Int}(h:HX o (nx+j) hv mv r)(h1:obs[j]?=some o.1)(h2:obs[j+1]?=some o.2.1)(h3:obs[j+2]?=some o.2.2):HM (ext S nx obs) (nx+j+1) hv (nx+j+2) (nx+j) mv r:=by
 refine h _ ?_ ?_ ?_
 ·rw[z7,Aa,h1];rfl
 ·rw[Nat.add_assoc,z7,Aa,h2];rfl
 ·rw[Nat.add_assoc,z7,Aa,h3];rfl
theorem ZkQ{S T:Store}{nx j:Nat}{obs:List Ob}(h:Off (ext S nx obs) [nx+j+1,nx+j+2,nx+j] T)(hl:j+2<obs.length):T=ext S nx (ZC obs j (T (nx+j),T (nx+j+1),T (nx+j+2))):=by
 funext i
 by_cases h1:i=nx+j
 ·subst h1;rw[z7,Aa,ZC,AU DB,AU DB,AS DB];rfl
 by_cases h2:i=nx+j+1
 ·subst h2;rw[Nat.add_assoc,z7,Aa,ZC,AU DB,AS DF];rfl
 by_cases h3:i=nx+j+2
 ·subst h3;rw[Nat.add_assoc,z7,Aa,ZC,AS DF];rfl
 rw[h i DF];simp only[ext];split
 ·rfl
 ·rw[Aa,Aa,ZC,AU DB,AU DB,AU DB]
section
variable {S:Store} {nx j hv mv:Nat} {obs:List Ob} {o:Ob × Ob × Ob} {r:zM Int}
theorem Zer{f:FuncId}{args:List PV}{q:PV}{r':zM Int}(he:qg prog f)(hl:j+2<obs.length)
  (h:PCalls prog f args (ext S nx obs) (λp T=>p=q/\Off (ext S nx obs) [nx+j+1,nx+j+2,nx+j] T/\HM T (nx+j+1) hv (nx+j+2) (nx+j) mv r')) :
  Spec prog f args (ext S nx obs) (λp T=>p=q/\∃o',HX o' (nx+j) hv mv r'/\T=ext S nx (ZC obs j o')):=by
 refine⟨he,h.mono ?_⟩;rintro p T ⟨h1,h2,h3⟩;exact⟨h1,_,h3.hx,ZkQ h2 hl⟩
variable (h:HX o (nx+j) hv mv r) (h1:obs[j]?=some o.1) (h2:obs[j+1]?=some o.2.1) (h3:obs[j+2]?=some o.2.2)
include h h1 h2 h3
theorem Zes(id w:Int)(hn:r.length+1<=2147483648):Spec prog 348 [.ptr (nx+j+1) hv 0,I id,I w] (ext S nx obs) (λp T=>p=B (!jV id r)/\∃o',HX o' (nx+j) hv mv (bif jV id r then r else ZB (id,w) r)/\T=ext S nx (ZC obs j o')) :=
 Zer ZjM (Ac.1 h3).1 (ZkJ (h.hm h1 h2 h3) id w hn)
theorem ZkR:Spec prog 349 [.ptr (nx+j+1) hv 0] (ext S nx obs) (λp T=>p=QF r/\∃o',HX o' (nx+j) hv mv r.tail/\T=ext S nx (ZC obs j o')) :=
 Zer ZjN (Ac.1 h3).1 (ZkP (h.hm h1 h2 h3))
end
theorem ZkS{S:Store}{nx:Nat}{obs:List Ob}:Spec prog 346 [] (ext S nx obs) (λp T=>∃hv mv o,p=.ptr (nx+obs.length+1) hv 0/\HX o (nx+obs.length) hv mv []/\T=ext S nx (obs++[o.1,o.2.1,o.2.2])):=by
 have hd:=jU (S:=S) (nx:=nx) (obs:=obs);have e:∀o:Ob × Ob × Ob,ext S nx (obs++[o.1,o.2.1,o.2.2])=ext (ext S nx obs) (nx+obs.length) [o.1,o.2.1,o.2.2]:=by
  intro o;have p1:=qU (S:=S) (nx:=nx) (obs:=obs) o.1;have p2:=qU (S:=S) (nx:=nx) (obs:=obs++[o.1]) o.2.1;have p3:=qU (S:=S) (nx:=nx) (obs:=obs++[o.1]++[o.2.1]) o.2.2;have q0:=qy hd;have q1:=qU (S:=ext S nx obs) (nx:=nx+obs.length) (obs:=[]) o.1;have q2:=qU (S:=ext S nx obs) (nx:=nx+obs.length) (obs:=[o.1]) o.2.1;have q3:=qU (S:=ext S nx obs) (nx:=nx+obs.length) (obs:=[o.1,o.2.1]) o.2.2;simp only[Aq,Au,A6,List.append_assoc,List.cons_append,AM,Bs,AQ]at p1 p2 p3 q1 q2 q3;rw[<-p3,<-p2,<-p1,<-q3,<-q2,<-q1,q0];simp only[Nat.add_assoc]
 generalize ext S nx obs=S1 at *;generalize nx+obs.length=m at *;refine uE hd func346 ntmps346 results346 ?_;refine DK ?_;refine DK ?_;intro mv hv;refine jd 1 0 449 2 rfl rfl λrv=>?_
 refine zj ⟨_,_,rfl,⟨hv,mv,(.map mv [],.cells hv 445 [.sl (m+2) rv 2 0 0,.mp m mv],.cells rv 449 []),rfl,?_,(e _).symm⟩,λo=>.inl DC⟩;intro T h1 h2 h3;refine⟨[],⟨⟨λ_=>none,⟨⟨rv,h2,[],h3,[],rfl⟩,⟨[],h1,Zei _ _⟩,⟨by omega,by omega,by omega⟩,by simp⟩,⟨λi hi=>by simp at hi,λ_ _=>rfl⟩⟩,λk k0 kn=>by simp at kn⟩,.refl _,by simp[vH]⟩
open Go Hp
@[simp] theorem Zwg(a b c:Ob)(l:List Ob)(o:Ob × Ob × Ob):ZC (a :: b :: c :: l) 0 o=o.1 :: o.2.1 :: o.2.2 :: l:=rfl
open Go Hp
instance:Enc (Int × Int):=⟨λx=>[I x.1,I x.2],2,λ_=>rfl,λ_=>rfl⟩
@[simp] theorem Zwh(s:Int × Int):Enc.enc s=[I s.1,I s.2]:=rfl
@[simp high] theorem Zwi(l:zM Int):(l.flatMap Enc.enc).length=l.length*2:=qO l
@[simp high] theorem Zwj(l:zM Int):(l.flatMap Enc.enc).take (l.length*2)=l.flatMap Enc.enc:=Yd l
open Go Hp
structure Deed where
 kind:Int
 id:Int
 w:Int
instance:Enc Deed:=⟨λd=>[I d.kind,I d.id,I d.w],3,λ_=>rfl,λ_=>rfl⟩
@[simp] theorem Zwk(d:Deed):Enc.enc d=[I d.kind,I d.id,I d.w]:=rfl
@[simp high] theorem Zwl(l:List Deed):(l.flatMap Enc.enc).length=l.length*3:=qO l
@[simp high] theorem Zwm(l:List Deed):(l.flatMap Enc.enc).take (l.length*3)=l.flatMap Enc.enc:=Yd l
open Go Hp Go.Sort
def uf(a b:Int):Int:=if a<b then -1 else if b<a then 1 else 0
def wY(l:List Int)(i:Nat):Int × Int:=((i:Int),l.getD i 0)
def wE(l:List Int)(i j:Fin l.length):Int:=if uf (l.getD i 0) (l.getD j 0)=0 then uf (i.val:Int) j.val else uf (l.getD i 0) (l.getD j 0)
theorem Xy(l:List Int)(i j:Fin l.length):ltOf (wE l) i j=vG (wY l i) (wY l j):=by grind[ltOf,wE,uf,il,wY]
theorem W5(l:List Int):SWO (ltOf (wE l)):=by
 have H:=Z2 uX;refine⟨λx=>?_,λx y z h1 h2=>?_,λx y z h1 h2=>?_⟩
 ·rw[Xy];exact H.irr _
 ·rw[Xy]at *;exact H.tr _ _ _ h1 h2
 ·rw[Xy]at *;cases h:vG (wY l x) (wY l z) with
  | false=>rfl
  | true =>
   exfalso;cases h3:vG (wY l y) (wY l x) with
   | true=>have hh:vG (wY l y) (wY l z)=true:=H.tr _ _ _ h3 h;simp_all
   | false =>
    have e:=H.tot _ _ h1 h3
    simp_all
theorem Zet(l:List Int):∀x y,ltOf (wE l) x y=false->ltOf (wE l) y x=false->x=y:=by
 intro x y h1 h2;rw[Xy]at h1 h2;have:=(Z2 uX).tot _ _ h1 h2;have:(x.val:Int)=y.val:=congrArg Prod.fst this;omega
def QG(l:List Int):List (Fin l.length):=(List.finRange l.length).mergeSort λx y=>!(ltOf (wE l)) y x
theorem Za4(l:List Int):(QG l).Perm (List.finRange l.length):=B5 _ _
theorem ZkT(l:List Int):((QG l).map λi:Fin l.length=>wY l i.val).Perm ((List.range l.length).map (wY l)):=by
 refine((Za4 l).map _).trans ?_;have e:(List.finRange l.length).map (λi:Fin l.length=>wY l i.val)=(List.range l.length).map (wY l):=by
  apply Bg
  ·simp
  ·simp
 rw[e]
theorem ZkU(l:List Int):(QG l).Nodup:=(Za4 l).nodup_iff.2 (List.nodup_finRange _)
theorem ZkV(l:List Int):vH ((QG l).map λi:Fin l.length=>wY l i.val):=by
 have H:=Z2 uX;have h1:(QG l).Pairwise λa b=>(!(ltOf (wE l)) b a)=true:=by
  refine Cy ?_ ?_ _
  ·intro a b c h1 h2;simp only[Cg]at *;exact(W5 l).ntrans c b a h2 h1
  ·intro a b;simp only[Dq,Cg];cases h:ltOf (wE l) b a with
   | false=>exact .inl rfl
   | true =>
    refine .inr ?_;cases h2:ltOf (wE l) a b with
    | false=>rfl
    | true=>have:=(W5 l).trans _ _ _ h h2;rw[(W5 l).irrefl]at this;cases this
 have h2:=List.Pairwise.and h1 (ZkU l);unfold vH;refine List.Pairwise.map _ ?_ h2;rintro a b ⟨h3,h4⟩;have h3':ltOf (wE l) b a=false:=by simpa using h3
 rw[<-Xy];cases h:ltOf (wE l) a b with
 | true=>rfl
 | false=>exact absurd (Zet l a b h h3') h4
def vI(l:List Int):List Int:=(QG l).map λi=>(i.val:Int)
theorem Za5(l:List Int):(vI l).length=l.length:=by
 unfold vI;rw[List.length_map,(Za4 l).length_eq];simp
theorem ZkW{l:List Int}{z:Int}(h:z∈vI l):0<=z/\z<l.length:=by
 obtain⟨i,_,rfl⟩:=Ar.1 h;have:=i.isLt;omega
end Go.Proofs.YtcocagkbfpgmiaaGreatDoor.Pv
namespace Go.Proofs.YtcocagkbfpgmiaaGreatDoor.Hp
section
variable {α:Type} {lt:α->α->Bool}
def Sd(lt:α->α->Bool)(l:List α):Prop:=l.Pairwise λa b=>lt a b=true
theorem ZkX(rows:List (List α))(i:Nat)(y:α)(tl:List α)(h:rows[i]?=some (y :: tl)):rows.flatten.Perm (y :: (rows.set i tl).flatten):=by
 induction rows generalizing i with
 | nil=>simp at h
 | cons r rows ih =>
  cases i with
  | zero =>
   simp_all
  | succ i =>
   simp only[Ba]at h;have:=ih i h;simp only[BH,AR];exact(this.append_left r).trans List.perm_middle
theorem ZkY(H:Str lt){P:List α}(hP:Sd lt P){rows:List (List α)}(hr:∀r∈rows,Sd lt r){k:Nat}(hp:rows.flatten.Perm (P.drop k)){i:Nat}{y:α}{tl:List α}(hi:rows[i]?=some (y :: tl))
  (hmin:∀(j:Nat) z tz,rows[j]?=some (z :: tz)->j≠i->lt y z=true) :
  P[k]?=some y/\(rows.set i tl).flatten.Perm (P.drop (k+1))/\∀r∈rows.set i tl,Sd lt r:=by
 have hfs:=ZkX rows i y tl hi;have hsi:Sd lt (y :: tl):=hr _ (Ab hi)
 -- y is the least of what is left
 have hle:∀z∈rows.flatten,z=y\/lt y z=true:=by
  intro z hz;obtain⟨r,hrm,hzr⟩:=BE.1 hz;obtain⟨j,hj⟩:=Bb.1 hrm
  by_cases e:j=i
  ·subst e;rw[hi]at hj;cases hj;rcases Aw.1 hzr with e | e
   ·exact .inl e
   ·exact .inr ((Bc.1 hsi).1 z e)
  ·cases r with
   | nil=>cases hzr
   | cons a ar =>
    have h1:=hmin j a ar hj e;rcases Aw.1 hzr with e2 | e2
    ·simp_all
    ·exact .inr (H.tr _ _ _ h1 ((Bc.1 (hr _ hrm)).1 z e2))
 have hyP:y∈P.drop k:=hp.subset (hfs.symm.subset B8);cases hd:P.drop k with
 | nil=>simp_all
 | cons x rest =>
  have hPd:Sd lt (x :: rest):=by rw[<-hd];exact List.Pairwise.sublist (List.drop_sublist k P) hP
  have hx:x=y:=by
   rw[hd]at hyP;rcases Aw.1 hyP with e | e
   ·exact e.symm
   ·have h1:=(Bc.1 hPd).1 y e;rcases hle x (hp.symm.subset DJ) with h | h
    ·exact h
    ·have:=H.tr _ _ _ h1 h;rw[H.irr]at this;cases this
  subst hx;have hk:P[k]?=some x:=by
   have:(P.drop k)[0]?=some x:=by rw[hd];rfl
   rwa[AK,Bs]at this
  have hd1:P.drop (k+1)=rest:=by
   have:P.drop (k+1)=(P.drop k).drop 1:=by rw[List.drop_drop]
   rw[this,hd];rfl
  refine⟨hk,?_,λr hrm=>?_⟩
  ·rw[hd1];rw[hd]at hp;exact List.Perm.cons_inv (hfs.symm.trans hp)
  ·rcases BB hrm with h | h
   ·exact hr r h
   ·rw[h];exact(Bc.1 hsi).2
theorem ZkZ{P:List α}{rows:List (List α)}{k:Nat}(hp:rows.flatten.Perm (P.drop k))(hk:k<=P.length)(h0:∀r∈rows,r=[]):k=P.length:=by
 have:rows.flatten=[]:=List.flatten_eq_nil_iff.2 h0;rw[this]at hp;have:=hp.length_eq;simp at this;omega
theorem Zeu(H:Str lt):∀{a b:List α},a.Perm b->Sd lt a->Sd lt b->a=b
 | [],b,h,_,_=>by simp_all
 | x :: a,[],h,_,_=>by simp_all
 | x :: a,y :: b,h,ha,hb=>by
  have ha':=Bc.1 ha;have hb':=Bc.1 hb;have e:x=y:=by
   rcases Aw.1 (h.subset (B8)) with e | hx
   ·exact e
   ·rcases Aw.1 (h.symm.subset (B8)) with e | hy
    ·exact e.symm
    ·have:=H.tr _ _ _ (ha'.1 y hy) (hb'.1 x hx);rw[H.irr]at this;cases this
  subst e;rw[Zeu H (List.Perm.cons_inv h) ha'.2 hb'.2]
theorem Zk0(H:Str lt)(l:List α)(hn:l.Nodup):Sd lt (l.mergeSort λx y=>!lt y x):=by
 have h1:(l.mergeSort λx y=>!lt y x).Pairwise λa b=>(!lt b a)=true:=by
  refine Cy ?_ ?_ _
  ·intro a b c h1 h2;simp only[Cg]at *;cases e:lt c a with
   | false=>rfl
   | true =>
    exfalso;cases e2:lt b c with
    | true=>have:=H.tr _ _ _ e2 e;simp_all
    | false=>have e3:=H.tot _ _ e2 h2;simp_all
  ·intro a b;simp only[Dq,Cg];cases e:lt b a with
   | false=>simp
   | true =>
    refine .inr ?_;cases e2:lt a b with
    | false=>rfl
    | true=>have:=H.tr _ _ _ e e2;rw[H.irr]at this;cases this
 have h2:=List.Pairwise.and h1 ((B5 l _).nodup_iff.2 hn);refine List.Pairwise.imp ?_ h2;rintro a b ⟨h3,h4⟩;cases e:lt a b with
 | true=>rfl
 | false=>exact absurd (H.tot _ _ e (by simpa using h3)) h4
end
end Go.Proofs.YtcocagkbfpgmiaaGreatDoor.Hp
namespace Go.Proofs.YtcocagkbfpgmiaaGreatDoor.Pv
open Go Hp
def ug(x:Inst)(a b:Int):Int:=arc x (a+1) 0+arc x 0 (b+1)-arc x (a+1) (b+1)
structure Pr where
 a:Int
 b:Int
 s:Int
deriving DecidableEq
def xZ(p q:Pr):Bool:=if p.s=q.s then (if p.a=q.a then decide (p.b<q.b) else decide (p.a<q.a)) else decide (q.s<p.s)
theorem Za6:Str xZ:=by
 refine⟨λa=>by simp[xZ],λa b c h1 h2=>?_,λa b h1 h2=>?_⟩
 ·grind[xZ]
 ·obtain⟨a1,a2,a3⟩:=a;obtain⟨b1,b2,b3⟩:=b
  grind[xZ]
def jK(x:Inst)(c:List Int)(a:Int):List Pr:=(c.filter λb=>decide (b≠a)).map λb=>⟨a,b,ug x a b⟩
def uF(x:Inst)(c:List Int):List Pr:=c.flatMap (jK x c)
def qQ(x:Inst)(c:List Int):List Pr:=(uF x c).mergeSort λp q=>!xZ q p
theorem W6{x:Inst}{c:List Int}{p:Pr}:p∈uF x c<->p.a∈c/\p.b∈c/\p.b≠p.a/\p.s=ug x p.a p.b:=by
 unfold uF jK;simp only[BY,Ar,Bi,decide_eq_true_eq];constructor
 ·grind
 ·rintro⟨ha,hb,hne,hs⟩;exact⟨p.a,ha,p.b,⟨hb,hne⟩,by rw[<-hs]⟩
theorem Zev{x:Inst}{c:List Int}(h:c.Nodup):(uF x c).Nodup:=by
 unfold uF;unfold List.Nodup;rw[List.pairwise_flatMap]
 grind[jK,List.Pairwise.imp]
theorem Za7{x:Inst}{c:List Int}(h:c.Nodup):Sd xZ (qQ x c):=Zk0 Za6 _ (Zev h)
theorem QH(x:Inst)(c:List Int):(qQ x c).Perm (uF x c):=B5 _ _
theorem Zk1{x:Inst}{c:List Int}(h:c.Nodup):(qQ x c).length=c.length*(c.length-1):=by
 rw[(QH x c).length_eq];unfold uF;rw[List.length_flatMap];have:c.map (λa=>(jK x c a).length)=c.map λ_=>c.length-1:=by
  refine Bd λa ha=>?_
  unfold jK;rw[List.length_map];have:=List.Nodup.erase_eq_filter h a;have h2:=C9 ha;rw[this]at h2;rw[<-h2];congr 1;refine List.filter_congr λb _=>?_
  by_cases e:b=a<;>simp[e]
 simp_all[List.map_const']
theorem Zk2{x:Inst}{c:List Int}(h:c.Nodup){l:List Pr}(hp:l.Perm (uF x c))(hs:Sd xZ l):l=qQ x c :=
 Zeu Za6 (hp.trans (QH x c).symm) hs (Za7 h)
theorem Zk3{x:Inst}{c d:List Int}(hc:c.Nodup)(hd:d.Nodup)(h:c.Perm d):(uF x c).Perm (uF x d):=by simp_all[CY,Zev,W6]
theorem Zk4{x:Inst}{c d:List Int}(hc:c.Nodup)(hd:d.Nodup)(h:c.Perm d):qQ x c=qQ x d :=
 Zk2 hd ((QH x c).trans (Zk3 hc hd h)) (Za7 hc)
open Go Hp
def yQ:Nat->List (List Pr)->zM Int
 | _,[]=>[]
 | i,[] :: rows=>yQ (i+1) rows
 | i,(p :: _) :: rows=>((i:Int),-p.s) :: yQ (i+1) rows
theorem Jy:∀(rows:List (List Pr)) (i:Nat) (x:Int × Int),x∈yQ i rows<->∃(k:Nat) (p:Pr) (tl:List Pr),rows[k]?=some (p :: tl)/\x=(((i+k:Nat):Int),-p.s)
 | [],i,x=>by simp[yQ]
 | [] :: rows,i,x=>by
  rw[yQ,Jy rows (i+1) x];constructor
  ·rintro⟨k,p,tl,h,rfl⟩;exact⟨k+1,p,tl,by simpa using h,by rw[show i+1+k=i+(k+1) by omega]⟩
  grind
 | (q :: ql) :: rows,i,x=>by
  rw[yQ,Aw,Jy rows (i+1) x];constructor
  ·rintro(rfl | ⟨k,p,tl,h,rfl⟩)
   ·exact⟨0,q,ql,rfl,rfl⟩
   ·exact⟨k+1,p,tl,by simpa using h,by rw[show i+1+k=i+(k+1) by omega]⟩
  grind
theorem W7:∀(rows:List (List Pr)) (i k:Nat) (p:Pr) (tl:List Pr),k<rows.length->(yQ i (rows.set k (p :: tl))).Perm ((((i+k:Nat):Int),-p.s) :: yQ i (rows.set k []))
 | [],_,_,_,_,h=>by simp at h
 | r :: rows,i,0,p,tl,_=>by simp[yQ]
 | [] :: rows,i,k+1,p,tl,h=>by
  have:=W7 rows (i+1) k p tl (by simpa using h)
  grind[yQ]
 | (q :: ql) :: rows,i,k+1,p,tl,h=>by
  have:=W7 rows (i+1) k p tl (by simpa using h)
  grind[yQ]
theorem Zk5{rows:List (List Pr)}{k:Nat}{p:Pr}{tl:List Pr}(h:rows[k]?=some (p :: tl)):(yQ 0 rows).Perm ((((k:Nat):Int),-p.s) :: yQ 0 (rows.set k [])):=by grind[W7,List.set_getElem_self]
theorem W8:∀(rows:List (List Pr)) (i:Nat),(yQ i rows).length<=rows.length
 | [],_=>by simp[yQ]
 | [] :: rows,i=>by have:=W8 rows (i+1);grind[yQ]
 | (q :: ql) :: rows,i=>by have:=W8 rows (i+1);simp_all[yQ]
structure Rows' (c:List Int) (rows:List (List Pr)):Prop where
 len:rows.length=c.length
 a:∀(i:Nat) r,rows[i]?=some r->∀p∈r,c[i]?=some p.a
theorem Zk6{c:List Int}(hc:c.Pairwise (· < ·)){rows:List (List Pr)}(hr:Rows' c rows){x:Int × Int}{r:zM Int}(hs:vH (x :: r))(hp:(yQ 0 rows).Perm (x :: r)):
  ∃(i:Nat) (y:Pr) (tl:List Pr),x=((i:Int),-y.s)/\rows[i]?=some (y :: tl)/\r.Perm (yQ 0 (rows.set i []))/\∀(j:Nat) z tz,rows[j]?=some (z :: tz)->j≠i->xZ y z=true:=by
 obtain⟨i,y,tl,hi,ex⟩:=(Jy rows 0 x).1 (hp.symm.subset B8);rw[AQ]at ex;subst ex;refine⟨i,y,tl,rfl,hi,(List.Perm.cons_inv ((Zk5 hi).symm.trans hp)).symm,λj z tz hj hne=>?_⟩;have hz:(((j:Nat):Int),-z.s)∈yQ 0 rows:=(Jy rows 0 _).2 ⟨j,z,tz,hj,by simp⟩;rcases Aw.1 (hp.subset hz) with e | e
 ·grind
 ·have h1:=(Bc.1 hs).1 _ e;have ay:=hr.a i _ hi y DC;have az:=hr.a j _ hj z DC
  grind[il,xZ,List.pairwise_iff_getElem]
open Go Hp
def qI(l:List Pr):List Int:=l.map λp=>-p.s
def vJ(l:List Pr)(i:Int):Pr:=l.getD i.toNat ⟨0,0,0⟩
def x7(x:Inst)(c:List Int)(a:Int):List Pr:=(vI (qI (jK x c a))).map (vJ (jK x c a))
theorem Zk7(l:List Int):(vI l).Perm ((List.range l.length).map λi:Nat=>(i:Int)):=by
 have h:=(ZkT l).map (·.1);rw[Cu,Cu]at h;exact h
theorem Zk8(l:List Pr):((vI (qI l)).map (vJ l)).Perm l:=by
 refine((Zk7 _).map _).trans ?_;have:((List.range (qI l).length).map λi:Nat=>(i:Int)).map (vJ l)=l:=by
  rw[Cu];apply Bg
  ·simp[qI]
  ·simp_all[vJ]
 rw[this]
theorem Zk9{l:List Pr}(h:∀(i j:Nat) p q,i<j->l[i]?=some p->l[j]?=some q->p.a=q.a/\p.b<q.b):Sd xZ ((vI (qI l)).map (vJ l)):=by
 have hs:=ZkV (qI l);unfold vI;rw[Cu];unfold vH at hs;rw[CF]at hs;unfold Sd;rw[CF];refine List.Pairwise.imp ?_ hs;intro i j hij;have hn:(qI l).length=l.length:=by simp[qI]
 have hi:i.val<l.length:=by have:=i.isLt;omega
 have hj:j.val<l.length:=by have:=j.isLt;omega
 have gi:l[i.val]?=some l[i.val]:=Ad hi;have gj:l[j.val]?=some l[j.val]:=Ad hj;have wi:(qI l).getD i.val 0=-(l[i.val]).s:=by simp[qI,Aa,hi]
 have wj:(qI l).getD j.val 0=-(l[j.val]).s:=by simp[qI,Aa,hj]
 have pi:vJ l (i.val:Int)=l[i.val]:=by simp[vJ,Aa,hi]
 have pj:vJ l (j.val:Int)=l[j.val]:=by simp[vJ,Aa,hj]
 grind[il,wY,xZ]
theorem Zla{x:Inst}{c:List Int}(hc:c.Pairwise (· < ·))(a:Int):∀(i j:Nat) p q,i<j->(jK x c a)[i]?=some p->(jK x c a)[j]?=some q->p.a=q.a/\p.b<q.b:=by
 have h:(jK x c a).Pairwise λp q=>p.a=q.a/\p.b<q.b:=by
  unfold jK;rw[CF];exact List.Pairwise.imp (λh=>⟨rfl,h⟩) (List.Pairwise.filter _ hc)
 grind[List.pairwise_iff_getElem]
theorem Za8(x:Inst)(c:List Int)(a:Int):(x7 x c a).Perm (jK x c a):=Zk8 _
theorem Zlb{x:Inst}{c:List Int}(hc:c.Pairwise (· < ·))(a:Int):Sd xZ (x7 x c a):=Zk9 (Zla hc a)
theorem Zlc{x:Inst}{c:List Int}(hc:c.Pairwise (· < ·)):Rows' c (c.map (x7 x c))/\(∀r∈c.map (x7 x c),Sd xZ r)/\(c.map (x7 x c)).flatten.Perm (qQ x c):=by
 refine⟨⟨by simp,λi r hr p hp=>?_⟩,λr hr=>?_,?_⟩
 ·grind[Za8,jK]
 ·grind[Zlb]
 ·refine List.Perm.trans ?_ (QH x c).symm;unfold uF;rw[<-List.flatMap_def];have main:∀l:List Int,(l.flatMap (x7 x c)).Perm (l.flatMap (jK x c)):=by
   intro l
   induction l with
   | nil=>simp
   | cons a l ih=>grind[Za8]
  exact main c
theorem Zld{x:Inst}{c:List Int}(hc:c.Pairwise (· < ·)){rows:List (List Pr)}{k:Nat}(h1:Rows' c rows)(h2:∀r∈rows,Sd xZ r)(h3:rows.flatten.Perm ((qQ x c).drop k)){it:Int × Int}{r:zM Int}(hs:vH (it :: r))(hp:(yQ 0 rows).Perm (it :: r)):
  ∃(i:Nat) (y:Pr) (tl:List Pr),it=((i:Int),-y.s)/\rows[i]?=some (y :: tl)/\r.Perm (yQ 0 (rows.set i []))/\(qQ x c)[k]?=some y/\Rows' c (rows.set i tl)/\(∀r∈rows.set i tl,Sd xZ r)/\(rows.set i tl).flatten.Perm ((qQ x c).drop (k+1)):=by
 have hn:c.Nodup:=List.Pairwise.imp (λh e=>by omega) hc;obtain⟨i,y,tl,e1,e2,e3,e4⟩:=Zk6 hc h1 hs hp;obtain⟨m1,m2,m3⟩:=ZkY Za6 (Za7 hn) h2 h3 e2 e4;refine⟨i,y,tl,e1,e2,e3,m1,⟨by rw[BJ];exact h1.len,λj r hr p hpr=>?_⟩,m3,m2⟩;rw[Bz]at hr;split at hr
 ·rename_i e;subst e;split at hr
  ·cases hr;exact h1.a i _ e2 p (CP _ hpr)
  ·cases hr
 ·exact h1.a j r hr p hpr
open Go Hp
instance:Inhabited Pr:=⟨⟨0,0,0⟩⟩
instance:Enc Pr:=⟨λp=>[I p.a,I p.b,I p.s],3,λ_=>rfl,λ_=>rfl⟩
@[simp] theorem Zwn(p:Pr):Enc.enc p=[I p.a,I p.b,I p.s]:=rfl
@[simp high] theorem Zwo(l:List Pr):(l.flatMap Enc.enc).length=l.length*3:=qO l
@[simp high] theorem Zwp(l:List Pr):(l.flatMap Enc.enc).take (l.length*3)=l.flatMap Enc.enc:=Yd l
def jf(x:Inst):Prop:=∀a b,0<=arc x a b/\arc x a b<=2147483648
theorem Za9{x:Inst}(h:jf x)(a b:Int):-2147483648<=ug x a b/\ug x a b<=4294967296:=by
 have h1:=h (a+1) 0;have h2:=h 0 (b+1);have h3:=h (a+1) (b+1);unfold ug;omega
theorem Zle(x:Inst)(a b:Int)(hx:jf x)(ha:y9 a)(hb:y9 b):Pure prog 365 [.agg (zD x),I a,I b] (I (ug x a b)):=by
 have w1:=QC ha;have w2:=QC hb;have h1:=hx (a+1) 0;have h2:=hx 0 (b+1);have h3:=hx (a+1) (b+1);have w3:IntKind.i64.wrap (arc x (a+1) 0+arc x 0 (b+1))=arc x (a+1) 0+arc x 0 (b+1):=wr _ DB DB;have w4:IntKind.i64.wrap (arc x (a+1) 0+arc x 0 (b+1)-arc x (a+1) (b+1))=ug x a b:=wr _ DB DB;refine zx func365 ntmps365 results365 λS nx hd=>?_
 refine DK ?_;intro v0;refine ze (zB none (Row.pures [0,1,2,3,4,5,6,7,8,9,10,11,12,13,14,15,16] .done) mixed (zN w1 w2 w3 w4) ?_);refine zP (wC _ _ _) (zN w1 w2 w3 w4) ?_;refine zP (wC _ _ _) (zN w1 w2 w3 w4) ?_;refine zP (wC _ _ _) (zN w1 w2 w3 w4) ?_;exact zj (zm hd rfl rfl)
open Go
theorem Zew{vs:Array Value}(h:2=vs.size):∃u v,vs=#[u,v]:=by
 match vs,h with
 | ⟨[u,v]⟩,_=>simp
theorem Zlf{C:Ctx}{S:Store}{w:World}{v:Value}(h:Rel C S w (.sc (.slice none 0 0)) v):v=.slice none 0 0:=by cases h;rfl
theorem Zlg(n:Nat)(h0:0<n)(hn:n<=1048576)(S:Store)(nx:Nat)(hd:zX nx S):
  Spec prog 370 [.sc (.slice none 0 0),I n] S (λp S'=>∃v,p=.sl nx v 2 0 0/\S'=S.set nx (.cells v 100 [])):=by
 refine⟨qb func370 DG rfl,?_⟩;intro C w vs hS hl hr;obtain⟨u,v,rfl⟩:=Zew hl;obtain rfl:=Zlf (hr 0 _ u rfl rfl);obtain rfl:=QD (hr 1 _ v rfl rfl);obtain⟨i0,hi0⟩:=BV.1 ZaM;have hz:=ZdU;have hc:=ZaL;have hb:=ZdT;simp only[Program.zeroOf,Program.cellsOf,Program.bytesOf',hi0,Dg,A5,Option.getD_some,Option.some.injEq]at hz hc hb;refine(slices_Grow_stop i0 _ hi0 hz DB n w h0 (by rw[hb];omega) DB).mono ?_;rintro e w' ⟨rfl,rfl⟩;have hfr:Fresh C S nx C.clock:=.clock C (hd nx (Af _));obtain⟨d1,d2⟩:=hS.drew;obtain⟨t1,t2⟩:=d1.object' hfr 100 ((#[]:Array Value)++Builtin.zeroCells (Value.agg #[.int .i64 0,.int .i64 0]).cells (0+n-0)++Builtin.zeroCells (Value.agg #[.int .i64 0,.int .i64 0]).cells (grownCap w (0+n) 0 100-(0+n))) [] DC (λi v hi=>by simp at hi) (λi p v hp=>by simp at hp);have hge:=grownCap_ge w (0+n) 0 100;simp only[AQ]at hge;refine⟨_,_,_,_,rfl,⟨C.clock,rfl,rfl⟩,Xi C S w _ _ _ _ _ _ _ _ rfl (Ca _) (Ca _) (grownCap_le_maxLen w _ _ _ (by unfold maxLen;omega)) ?_,t1,d2.trans t2⟩
 grind[size_zeroCells,Value.cells]
theorem Zlh(ls:List (List Stop))(hls:ls.length<=1048576)(h0:0<ls.flatten.length)(hn:ls.flatten.length<=1048576):Pure prog 350 [L ls] (L ls.flatten):=by
 refine zx func350 ntmps350 results350 λS nx hd=>?_
 refine DK ?_;refine DK ?_
 repeat apply ze
 refine zg ?_;refine zn (zJ (λs:Nat × Nat=>s.1<=ls.length/\s.2=(ls.take s.1).flatten.length) (λ(k,n)=>[(0,L ls),(3,I (n:Int)),(9,L ls),(10,I ls.length),(11,I k)]) (λ_=>[]) (λs=>ls.length-s.1) (0,0) [] ⟨by simp,by simp⟩ DC DC ?_);rintro⟨k,n⟩ ⟨hk,ho⟩;simp only at hk ho ⊢;refine DK ?_;refine ze (zz rfl (λhc=>?_) (λhc=>?_))
 ·simp at hc;obtain⟨t,tl,a1,a2,a3,e0⟩:=zL rfl ls k hc;have hs1:(ls.take (k+1)).flatten.length=n+t.length:=by rw[a3,ho];simp
  have hs2:(ls.take (k+1)).flatten.length<=ls.flatten.length:=by
   conv=>rhs;rw[<-List.take_append_drop (k+1) ls,List.flatten_append,Aq]
   omega
  have w1:IntKind.i64.wrap ((n:Int)+(t.length:Nat))=(n:Int)+(t.length:Nat):=wr _ DB DB;have w2:¬((n:Int)+(t.length:Nat)<0):=DB
  refine zk (ze (zn (ze (zi [] (zt e0 hc) ?_))));refine ze (zi [] w1 ?_);refine ze (zi [] w2 ?_);refine zp rfl (zk (zg ?_));exact zv (k+1,n+t.length) [] ⟨hc,hs1.symm⟩ DB (by simp[zA k (by omega)]) rfl DC
 ·simp at hc;obtain rfl:k=ls.length:=DB
  rw[Ag]at ho;rw[<-ho]at h0;have hn':n<=1048576:=DB
  clear ho;refine zC (DK ?_);refine λhsuf=>((Zlg n h0 hn' _ _ jU).mono ?_).v
  rintro _ _ ⟨v1,rfl,rfl⟩;refine⟨_,_,qU _,zQ hsuf ?_⟩
  repeat apply ze
  refine zg ?_;refine zn (zJ (λs:Nat × List Stop × Nat=>s.1<=ls.length/\s.2.1=(ls.take s.1).flatten) (λ(k,out,v)=>[(6,.sl nx v 2 0 out.length),(25,L ls),(26,I ls.length),(27,I k)]) (λ(k,out,v)=>[.cells v 100 (out.flatMap Enc.enc)]) (λs=>ls.length-s.1) (0,[],v1) [] ⟨by simp,by simp⟩ DC DC ?_);rintro⟨k,out,v⟩ ⟨hk,ho⟩;simp only at hk ho ⊢;refine DK ?_;refine ze (zz rfl (λhc=>?_) (λhc=>?_))
  ·simp at hc;obtain⟨t,tl,a1,a2,a3,e0⟩:=zL rfl ls k hc;have hs1:(ls.take (k+1)).flatten=out++t:=by rw[a3,ho];simp
   have hs2:(ls.take (k+1)).flatten.length<=ls.flatten.length:=by
    conv=>rhs;rw[<-List.take_append_drop (k+1) ls,List.flatten_append,Aq]
    omega
   rw[hs1]at hs2;simp only[Aq]at hs2;refine zk (ze (zn (ze (zi [] (zt e0 hc) ?_))));refine zg ?_;refine⟨by omega,?_⟩;refine zg ?_;exact zv (k+1,out++t,v+1) [] ⟨hc,hs1.symm⟩ DB (by simp[zA k (by omega)]) rfl DC
  ·simp at hc;obtain rfl:k=ls.length:=DB
   rw[Ag]at ho;refine zC (yb 0 rfl ?_);refine DK ?_;exact zj (zm hd DD (by simp[zq,ho]))
open Go Hp
def uG(T:zr)(c:Int):Nat:=T.findIdx λt=>t.any λs=>decide (s.c=c)
def YR(a:zO):Option Int:=a[a.length-1]?.map (·.c)
def QI(b:zO):Option Int:=b[0]?.map (·.c)
def qr(x:Inst)(num:Int)(p:Pr)(i k:Nat)(a b:zO):Bool :=
 decide (i≠k) && decide (YR a=some p.a) && decide (QI b=some p.b) && !(decide (p.s<=0) && decide (num<=x.veh)) && decide (zV x (a++b)=0)
def Xz(x:Inst)(st:zr × Int)(p:Pr)(i k:Nat):zr × Int :=
 bif qr x st.2 p i k (st.1.getD i []) (st.1.getD k []) then ((st.1.set i (st.1.getD i []++st.1.getD k [])).set k [],st.2-1) else st
def qW(x:Inst)(st:zr × Int)(p:Pr):zr × Int:=Xz x st p (uG st.1 p.a) (uG st.1 p.b)
def Zba(x:Inst)(ss:List Stop):zr × Int:=(qQ x (ss.map (·.c))).foldl (qW x) (ss.map λs=>[s],(ss.length:Int))
def wF(x:Inst)(ss:List Stop):zr:=(Zba x ss).1.filter λt=>!t.isEmpty
structure JI (ss:List Stop) (T:zr) (g:Int->Option Int):Prop where
 len:T.length=ss.length
 perm:T.flatten.Perm ss
 g:∀(i:Nat) t s,T[i]?=some t->s∈t->g s.c=some (i:Int)
theorem JI.place{ss:List Stop}{T:zr}{g:Int->Option Int}(h:JI ss T g){i:Nat}{t:zO}{s:Stop}(hi:T[i]?=some t)(hs:s∈t):uG T s.c=i:=by
 have hex:∃t∈T,(t.any λs'=>decide (s'.c=s.c))=true:=⟨t,Ab hi,B0.2 ⟨s,hs,by simp⟩⟩;have hlt:uG T s.c<T.length:=List.findIdx_lt_length_of_exists hex;have hq:=List.findIdx_getElem (w:=hlt);obtain⟨s',h1,h2⟩:=B0.1 hq;have h2':s'.c=s.c:=by simpa using h2
 have e1:=h.g (uG T s.c) _ s' (Ad hlt) h1;have e2:=h.g i t s hi hs
 grind
theorem JI.there{ss:List Stop}{T:zr}{g:Int->Option Int}(h:JI ss T g){c:Int}(hc:c∈ss.map (·.c)):∃(i:Nat) (t:zO) (s:Stop),T[i]?=some t/\s∈t/\s.c=c/\g c=some (i:Int)/\uG T c=i:=by
 obtain⟨s,hs,rfl⟩:=Ar.1 hc;obtain⟨t,ht,hst⟩:=BE.1 (h.perm.symm.subset hs);obtain⟨i,hi⟩:=Bb.1 ht;exact⟨i,t,s,hi,hst,rfl,h.g i t s hi hst,h.place hi hst⟩
theorem XA{T:zr}:∀{i:Nat} {a:zO},T[i]?=some a->T.flatten.Perm (a++(T.set i []).flatten):=by
 induction T with
 | nil=>simp
 | cons t T ih =>
  intro i a h;cases i<;>grind
theorem Zli{T:zr}{i:Nat}(b:zO)(h:i<T.length):(T.set i b).flatten.Perm (b++(T.set i []).flatten):=by
 have:=XA (T:=T.set i b) (i:=i) (a:=b) (by simp[h])
 simp_all
theorem Zlj{T:zr}{i k:Nat}{a b:zO}(hi:T[i]?=some a)(hk:T[k]?=some b)(hne:i≠k):((T.set i (a++b)).set k []).flatten.Perm T.flatten:=by
 have hil:=(Ac.1 hi).1;rw[List.set_comm _ _ hne];have h1:=Zli (T:=T.set k []) (i:=i) (a++b) (by simpa using hil);have h2:=XA hk;have h3:=XA (T:=T.set k []) (i:=i) (a:=a) (by rw[AU (λe=>hne e.symm)];exact hi)
 grind
def YS(g:Int->Option Int)(b:zO)(i:Nat)(j:Nat):Int->Option Int:=λc=>if c∈(b.take j).map (·.c) then some (i:Int) else g c
theorem Zlk(g:Int->Option Int)(b:zO)(i:Nat):YS g b i 0=g:=by funext c;simp[YS]
theorem Zll{g:Int->Option Int}{b:zO}{i j:Nat}{s:Stop}(h:b.take (j+1)=b.take j++[s]):qM (YS g b i j) s.c (some (i:Int))=YS g b i (j+1):=by grind[qM,YS]
theorem JI.join{ss:List Stop}{T:zr}{g:Int->Option Int}(h:JI ss T g){i k:Nat}{a b:zO}(hi:T[i]?=some a)(hk:T[k]?=some b)(hne:i≠k):JI ss ((T.set i (a++b)).set k []) (YS g b i b.length):=by
 have hil:=(Ac.1 hi).1;have hkl:=(Ac.1 hk).1;refine⟨by simp[h.len],(Zlj hi hk hne).trans h.perm,λi' t s ht hs=>?_⟩;unfold YS;rw[Ag]
 by_cases e1:k=i'
 ·simp_all
 ·rw[AU e1]at ht
  by_cases e2:i=i'
  ·subst e2;rw[AS hil]at ht;cases ht
   by_cases e3:s.c∈b.map (·.c)
   ·rw[if_pos e3]
   ·rw[if_neg e3];rcases AG.1 hs with hs | hs
    ·exact h.g i a s hi hs
    grind
  ·rw[AU e2]at ht;have h1:=h.g i' t s ht hs;rw[if_neg]
   ·exact h1
   ·intro e3;obtain⟨s',hs',e4⟩:=Ar.1 e3;have h2:=h.g k b s' hk hs'
    grind
theorem JI.nil:JI [] [] (λ_=>none):=⟨rfl,.refl _,λi t s h=>by simp at h⟩
theorem JI.snoc{ss:List Stop}{T:zr}{g:Int->Option Int}(h:JI ss T g)(s:Stop)(hs:s.c ∉ ss.map (·.c)):JI (ss++[s]) (T++[[s]]) (qM g s.c (some (ss.length:Int))):=by
 refine⟨by simp[h.len],by simpa using h.perm.append_right [s],λi t s' ht hst=>?_⟩;unfold qM;rcases Be i T.length with hl | hl
 ·rw[An hl]at ht;have h1:s'∈ss:=h.perm.subset (BE.2 ⟨t,Ab ht,hst⟩);rw[if_neg]
  ·exact h.g i t s' ht hst
  simp_all
 ·rw[Ai hl]at ht;have hi:i-T.length=0:=by
   have:=(Ac.1 ht).1;simp at this;omega
  rw[hi]at ht;simp at ht;subst ht;simp at hst;subst hst;rw[if_pos rfl,<-h.len]
  grind
open Go Hp
theorem W9{P:Program}{r:Rd}{n N:Nat}{Q:Exit->(Nat->PV)->Store->Prop}{F:Nat->PV}{c:Code}{T:Store}{o ver e0:Nat}{cs:List PV}(i:Nat)(hs:T o=.cells ver e0 cs)(hi:cs[i]?=some (.sc (.slice none 0 0)))
  (h:PW P r n N c Q F (T.set o (.cells ver e0 (cs.set i (.lst 0 []))))):PW P r n N c Q F T:=by
 refine Z8 (F':=F) (S':=T.set o (.cells ver e0 (cs.set i (.lst 0 [])))) (λC w a st=>?_) h;have:=st.sim.relabel (cs':=cs.set i (.lst 0 [])) hs DC (by
  intro k p' hp';rw[Bz]at hp';split at hp'
  ·rename_i hij;subst hij;split at hp'
   ·cases hp';refine .inr ⟨_,hi,λv hv=>?_⟩;cases hv;exact .lst0
   ·cases hp'
  ·exact .inl hp')
 exact⟨C,⟨this.1,st.size,λk=>(st.fr k).mono this.2,r.keep this.2 st.v⟩,this.2⟩
abbrev Jz(x:Inst)(tid tv n:Nat)(num:Int)(mid mv:Nat):List PV:=[I x.days,I x.veh,I x.cap,I x.len,L x.cust,L x.dist,.sl tid tv 1 0 n,I num,.mp mid mv]
theorem Zbb(cs:List PV)(k:Nat)(x:PV)(h:k<cs.length):yd cs k [x]=cs.set k x:=by simp_all[yd,Ax]
theorem Zex(T:zr):T.flatMap Enc.enc=T.map λt=>L t:=by induction T<;>simp_all
theorem yU{S:Store}{nx id:Nat}{o:Ob}(hd:zX nx S)(h:S id=o)(hne:o≠.dead):id<nx:=by
 rcases Be id nx with q | q
 ·exact q
 ·rw[hd id q]at h;simp_all
theorem Zlm(x:Inst)(ss:List Stop)(T:zr)(g:Int->Option Int)(num:Int)(es:List (Value × PV)){S:Store}{jid jv tid tv mid mv:Nat}(hx:x.cust.length<=1048576)(hss:ss.length<=1000)(hnum:-1048576<=num/\num<=1048576)(hI:JI ss T g)(hm:MapIs qH I es g)
  (hj:S jid=.cells jv 387 (Jz x tid tv ss.length num mid mv)) (ht:S tid=.cells tv 40 (T.flatMap Enc.enc)) (hmid:S mid=.map mv es) (d1:jid≠tid) (d2:jid≠mid) (d3:tid≠mid)
  (p:Pr) (hpa:p.a∈ss.map (·.c)) (hpb:p.b∈ss.map (·.c)) :
  Spec prog 332 [.ptr jid jv 0,.agg [I p.a,I p.b,I p.s]] S (λ_ S'=>∃es' g',MapIs qH I es' g'/\JI ss (qW x (T,num) p).1 g' /\
   S'=((S.set jid (.cells jv 387 (Jz x tid tv ss.length (qW x (T,num) p).2 mid mv))).set tid (.cells tv 40 ((qW x (T,num) p).1.flatMap Enc.enc))).set mid (.map mv es')):=by
 obtain⟨i,a,sa,hia,hsa,hsac,hga,hpi⟩:=hI.there hpa;obtain⟨k,b,sb,hkb,hsb,hsbc,hgb,hpk⟩:=hI.there hpb;have hkey:KeyOk (.int .i64) qH:=QE .i64;obtain⟨ra,fa1,fa2,fa3,fa4,fa5⟩:=hm.find hkey p.a;obtain⟨rb,fb1,fb2,fb3,fb4,fb5⟩:=hm.find hkey p.b;obtain⟨ja,rfl⟩:=fa3 _ hga;obtain⟨jb,rfl⟩:=fb3 _ hgb;refine yi func332 ntmps332 results332 λnx hd=>?_
 have hlj:jid<nx:=yU hd hj DC;have hlt:tid<nx:=yU hd ht DC;have hlm:mid<nx:=yU hd hmid DC;have xj:=λobs=>zE (S:=S) (obs:=obs) hlj
 have xt:=λobs=>zE (S:=S) (obs:=obs) hlt
 have xm:=λobs=>zE (S:=S) (obs:=obs) hlm
 refine DK ?_;intro v0;have hil:=(Ac.1 hia).1;have hkl:=(Ac.1 hkb).1;have hgi:T.getD i []=a:=by rw[Aa,hia];rfl
 have hgk:T.getD k []=b:=by rw[Aa,hkb];rfl
 have hdef:qW x (T,num) p=bif qr x num p i k a b then ((T.set i (a++b)).set k [],num-1) else (T,num):=by
  unfold qW Xz;simp only[hpi,hpk,hgi,hgk]
 have hstay:qr x num p i k a b=false->∃es' g',MapIs qH I es' g'/\JI ss (qW x (T,num) p).1 g' /\
   S=((S.set jid (.cells jv 387 (Jz x tid tv ss.length (qW x (T,num) p).2 mid mv))).set tid (.cells tv 40 ((qW x (T,num) p).1.flatMap Enc.enc))).set mid (.map mv es'):=by
  intro hc;rw[hdef,hc];refine⟨es,g,hm,hI,?_⟩;simp only[cond_false];rw[Ju S jid _ hj,Ju S tid _ ht,Ju S mid _ hmid]
 have hal2:a.length<=1000:=by
  have h1:=(XA hia).length_eq;have h2:=hI.perm.length_eq;rw[Aq]at h1;omega
 have hbl2:b.length<=1000:=by
  have h1:=(XA hkb).length_eq;have h2:=hI.perm.length_eq;rw[Aq]at h1;omega
 obtain⟨m,hal⟩:∃m,a.length=m+1:=⟨a.length-1,by cases a with | nil=>cases hsa | cons _ _=>simp⟩;have hb0:0<b.length:=by cases b with | nil=>cases hsb | cons _ _=>simp
 obtain⟨la,tla,la1,la2,la3,la4,la5⟩:=el 2 rfl a m DB;obtain⟨fb,b',hbc⟩:∃fb b',b=fb :: b':=by cases b with | nil=>cases hsb | cons x y=>simp
 have hend:YR a=some la.c:=by unfold YR;rw[hal,BW,la1];rfl
 have hhead:QI b=some fb.c:=by rw[hbc];rfl
 obtain⟨ai,tai,i1,i2,i3,i0⟩:=zL rfl T i hil;rw[hia]at i1;cases i1;obtain⟨bk,tbk,k1,k2,k3,k0⟩:=zL rfl T k hkl;rw[hkb]at k1;cases k1;have hTl:=hI.len;have hil2:i<ss.length:=DB
 have hkl2:k<ss.length:=DB
 refine ze (qE (nx:=nx) (σ:=Unit) (λ_=>True) (λ_=>[(0,.ptr jid jv 0),(3,.ptr nx v0 0),(4,I i),(5,I k)]) (λ_=>S) (λ_=>[.cells v0 392 [I p.a,I p.b,I p.s]]) ?_ ?_)
 ·repeat apply ze
  refine zB none (Row.pures [0,1,2,3,4,5,7,8,9,10,11,12] (.alt 6 (Row.pures [14] (.alt 13 (Row.pures [15] .done) .stop)) (.alt 13 (.alt 6 (Row.pures [14,15] .done) .stop) .stop))) mixed (zS xj xt xm hj ht hmid) ?_;refine⟨?_,?_⟩
  ·refine⟨by rfl,(uW rfl underlying384 underlying3 rfl rfl rfl ((xm _).trans hmid) fa1 z3 ?_)⟩;refine⟨by simp,jp trivial ?_⟩;refine⟨by rfl,(uW rfl underlying384 underlying3 rfl rfl rfl ((xm _).trans hmid) fb1 z3 ?_)⟩;refine⟨by simp,jp trivial ?_⟩;exact zT () [] trivial (by simp[Zs]) rfl DC
  ·refine⟨by rfl,(uW rfl underlying384 underlying3 rfl rfl rfl ((xm _).trans hmid) fb1 z3 ?_)⟩;refine⟨by simp,jp trivial ?_⟩;refine⟨by rfl,(uW rfl underlying384 underlying3 rfl rfl rfl ((xm _).trans hmid) fa1 z3 ?_)⟩;refine⟨by simp,jp trivial ?_⟩;exact zT () [] trivial (by simp[Zs]) rfl DC
 intro _ _;refine ze (zB none (Row.pures [0,1,2,3,4,5,6,7,8,9,10,11,12,13,14,15] .done) mixed (zS xj xt hj ht i0 (zN k0 hil2 hkl2 hTl)) ?_);have wm:IntKind.i64.wrap (m:Int)=m:=wr _ DB DB;have hm1:m<a.length:=DB
 refine ze (qE (nx:=nx) (σ:=Unit) (λ_=>¬i=k/\la.c=p.a/\fb.c=p.b) (λ_=>[(0,.ptr jid jv 0),(3,.ptr nx v0 0),(4,I i),(5,I k),(6,L a),(7,L b)]) (λ_=>S) (λ_=>[.cells v0 392 [I p.a,I p.b,I p.s]]) ?_ ?_)
 ·by_cases h1:i=k
  ·have hc:qr x num p i k a b=false:=by simp[qr,h1]
   refine ze (zB none (Row.pures [0,1,2,3,4,5,6,7,8,9,10,11,12,13,14,15,16,17,18,19,20,21,22,23] .done) mixed (zt h1 zy) ?_);exact zo rfl (zj ⟨_,S,rfl,hstay hc,zU hd⟩)
  have h1':¬(i:Int)=(k:Int):=DB
  have hm2:(m:Int)<(m:Int)+1:=DB
  by_cases h2:la.c=p.a
  case neg =>
   have hc:qr x num p i k a b=false:=by simp[qr,hend,h2]
   refine ze (zB none (Row.pures [0,1,2,3,4,5,6,7,8,9,10,11,12,13,14,15,16,17,18,19,20,21,22,23] .done) mixed (zS h1' h2 hal wm hm2 (zF la4 la5 zy)) ?_);exact zo rfl (zj ⟨_,S,rfl,hstay hc,zU hd⟩)
  by_cases h3:fb.c=p.b
  case neg =>
   have hc:qr x num p i k a b=false:=by simp[qr,hhead,h3]
   refine ze (zB none (Row.pures [0,1,2,3,4,5,6,7,8,9,10,11,12,13,14,15,16,17,18,19,20,21,22,23] .done) mixed (zS h1' h2 h3 hal wm (yq hm2 la4 la5 hbc zy)) ?_);exact zo rfl (zj ⟨_,S,rfl,hstay hc,zU hd⟩)
  refine ze (zB none (Row.pures [0,1,2,3,4,5,6,7,8,9,10,11,12,13,14,15,16,17,18,19,20,21,22,23] .done) mixed (zS h1' h2 h3 hal wm (yq hm2 la4 la5 hbc zy)) ?_);exact zp rfl (zk (zT () [] ⟨h1,h2,h3⟩ (by simp[hal,hbc]) rfl DC))
 rintro _ ⟨h1,h2,h3⟩;have hN0:-9223372036854775808<=num:=DB
 refine ze (qE (nx:=nx) (σ:=Unit) (λ_=>¬(p.s<=0/\num<=x.veh)) (λ_=>[(0,.ptr jid jv 0),(3,.ptr nx v0 0),(4,I i),(5,I k),(6,L a),(7,L b)]) (λ_=>S) (λ_=>[.cells v0 392 [I p.a,I p.b,I p.s]]) ?_ ?_)
 ·by_cases h4:p.s<=0
  ·by_cases h5:num<=x.veh
   ·have hc:qr x num p i k a b=false:=by simp[qr,h4,h5]
    refine ze (zB none (Row.pures [0,1,2,3,4,5,6,7,8,9,10,11,12,13,14] .done) mixed (yq xj hj h4 h5 zy) ?_);exact zo rfl (zj ⟨_,S,rfl,hstay hc,zU hd⟩)
   ·refine ze (zB none (Row.pures [0,1,2,3,4,5,6,7,8,9,10,11,12,13,14] .done) mixed (yq xj hj h4 h5 zy) ?_);exact zp rfl (zk (zT () [] DB DC rfl DC))
  ·refine ze (zB none (Row.pures [0,1,2,3,4,5,6,7,8,9,10,11,12,13,14] .done) mixed (zt h4 zy) ?_);exact zp rfl (zk (zT () [] DB DC rfl DC))
 intro _ h4;have hcon:=Zlh [a,b] DC DF DF;rw[show [a,b].flatten=a++b from by simp]at hcon;refine DK ?_;refine zu hcon ?_;refine ze (qE (nx:=nx) (σ:=Unit) (λ_=>zV x (a++b)=0) (λ_=>[(0,.ptr jid jv 0),(3,.ptr nx v0 0),(4,I i),(5,I k),(6,L a),(7,L b),(8,L (a++b))]) (λ_=>S) (λ_=>[.cells v0 392 [I p.a,I p.b,I p.s]]) ?_ ?_)
 ·refine ze (zi [] (zt xj hj) ?_);refine zu (Xv x (a++b) hx DF) ?_
  by_cases h5:zV x (a++b)=0
  ·repeat apply ze
   refine zp (by simp[h5]) ?_;exact zk (zT () [] h5 DC rfl DC)
  ·have hc:qr x num p i k a b=false:=by simp[qr,h5]
   refine zo (by simp[h5]) ?_;exact zj ⟨_,S,rfl,hstay hc,zU hd⟩
 intro _ h5;have h4':(decide (p.s<=0) && decide (num<=x.veh))=false:=Bool.eq_false_iff.2 λq=>h4 (by simpa using q)
 have hjoin:qr x num p i k a b=true:=by unfold qr;rw[h4',hend,hhead,h2,h3,h5];simp[h1]
 rw[hdef,hjoin];simp only[cond_true];have yj:=λ(o:Ob) obs=>(zE (S:=S.set mid o) (obs:=obs) hlj).trans ((q10 _ _ _ _ d2).trans hj)
 have ym:=λ(o:Ob) obs=>(zE (S:=S.set mid o) (obs:=obs) hlm).trans (q11 _ _ _)
 repeat apply ze
 refine zg ?_;refine zn (jo (σ:=Nat × List (Value × PV)) (λs=>s.1<=b.length/\MapIs qH I s.2 (YS g b i s.1)) (λs=>[(0,.ptr jid jv 0),(4,I i),(5,I k),(8,L (a++b)),(90,L b),(91,I b.length),(92,I s.1)]) (λs=>S.set mid (.map mv s.2)) (λ_=>[.cells v0 392 [I p.a,I p.b,I p.s]]) (λs=>b.length-s.1) (zT (0,es) [] ⟨by simp,by rw[Zlk];exact hm⟩ DC (Ju S mid _ hmid) DC) ?_);rintro⟨j,es2⟩ ⟨hjl,hm2'⟩;simp only at hjl hm2' ⊢;refine DK ?_;refine ze (zz rfl (λhq=>?_) (λhq=>?_))
 ·simp at hq;obtain⟨s,tl,a1,a2,a3,e1,e0⟩:=el 2 rfl b j hq;obtain⟨rs,f1,_,_,f4,_⟩:=hm2'.find hkey s.c;have hnew:=f4 (i:Int);rw[Zll a3]at hnew;refine zk (ze (zn (ze (zi [] (zF e1 e0 hq) ?_))));intro v1;refine zB (some [jid,nx+1]) (Row.pures [0,1,2,3,4,5,6] (.alt 7 (.done) .stop)) mixed yj ?_;refine⟨by rfl,(Ya (.inl rfl) underlying384 underlying3 rfl rfl rfl (ym _ _) f1 ?_)⟩;rw[yZ _ hlm,Store.set_set];refine⟨by simp[yH,yj],jp trivial ?_⟩;refine zg ?_;exact zv (j+1,qK (qH s.c) (I i) es2 rs) [_] ⟨hq,hnew⟩ DB (by simp[zA j (by omega)]) rfl DD
 ·simp at hq;obtain rfl:j=b.length:=DB
  refine zC ?_;have yt1:=λ(o:Ob) obs=>(zE (S:=S.set mid o) (obs:=obs) hlt).trans ((q10 _ _ _ _ d3).trans ht)
  have yt2:=λ(o o':Ob) obs=>(zE (S:=(S.set mid o).set tid o') (obs:=obs) hlt).trans (q11 _ _ _)
  have yj2:=λ(o o':Ob) obs=>(zE (S:=(S.set mid o).set tid o') (obs:=obs) hlj).trans ((q10 _ _ _ _ d1).trans ((q10 _ _ _ _ d2).trans hj))
  have hlen1:(T.flatMap Enc.enc).length=ss.length:=by rw[jI,hTl]
  have hs1:=Zbb (T.flatMap Enc.enc) i (L (a++b)) DB;have hs2:=Zbb ((T.flatMap Enc.enc).set i (L (a++b))) k (.sc (.slice none 0 0)) DF;have hlt1:¬nx<=tid:=DB
  have hlj1:¬nx<=jid:=DB
  have wn:IntKind.i64.wrap (num-1)=num-1:=wr _ DB DB;refine ze (zB (some [jid]) (Row.pures [0,1,2,3,4,5,6,7,8,9,10,11] (.alt 12 (Row.pures [13] (.alt 14 (.done) .stop)) .stop)) mixed (zS yj yt1 yt2 yj2 hs1 (zS hs2 hil2 hkl2 hlen1 hlt1 hTl)) ?_);refine⟨by omega,by omega,?_⟩;have hcs:((((T.flatMap Enc.enc).set i (L (a++b))).set k (.sc (.slice none 0 0))).set k (.lst 0 []))=((T.set i (a++b)).set k []).flatMap Enc.enc:=by
   rw[List.set_set,Zex,Zex,List.map_set,List.map_set];rfl
  refine W9 (o:=tid) k (yt2 _ _ _) (by rw[AS (by simp;omega)]) ?_;rw[yZ _ hlt,Store.set_set,hcs];generalize ((T.set i (a++b)).set k []).flatMap Enc.enc=cs' at *;refine zi [] (zF yj2 hlj1 wn) ?_;have e1:∀(o o' o'':Ob),((S.set mid o).set tid o').set jid o''=((S.set jid o'').set tid o').set mid o:=by
   intro o o' o'';rw[Store.set_comm _ jid tid _ _ (λe=>d1 e.symm),Store.set_comm _ jid mid _ _ (λe=>d2 e.symm),Store.set_comm _ tid mid _ _ (λe=>d3 e.symm)]
  rw[e1];have hdd:∀(o o' o'':Ob),zX nx (((S.set jid o'').set tid o').set mid o):=by
   intro o o' o'' q hq;rw[q10 _ _ _ _ DB,q10 _ _ _ _ DB,q10 _ _ _ _ DB];exact hd q hq
  exact⟨_,_,rfl,⟨es2,_,hm2',hI.join hia hkb h1,rfl⟩,zU (hdd _ _ _)⟩
open Go Go.Shelf Go.RowKit Go.Lib Go.Sort
def Se:Store:=λ_=>.dead
def Ce:Ctx:=⟨λ_=>none,0,0⟩
theorem Zln(w:World):Sim Ce Se w :=
 ⟨λ_ h=>absurd rfl h,(λ_ _ h=>by cases h),λ_ _ _ _ _ h=>absurd rfl h,(λ_ _ _ _ h=>by cases h),(λ_ _ _ h=>by cases h)⟩
theorem Zbc(b:Nat):¬Ce.M Se b:=by rintro⟨o,k,h,_⟩;exact h rfl
inductive Fz:PV->Prop where
 | junk:Fz .junk
 | sc (v:Value):Fz (.sc v)
 | agg {cs:List PV} (h:∀p∈cs,Fz p):Fz (.agg cs)
 | lst {n:Nat} {cs:List PV} (h:∀p∈cs,Fz p):Fz (.lst n cs)
 | ip {cs:List PV} (h:∀p∈cs,Fz p):Fz (.ip cs)
theorem Zlo{C:Ctx}{S:Store}{w:World}{p:PV}{v:Value}(h:Rel C S w p v):Fz p->Rel Ce Se w p v:=by
 induction h with
 | junk v=>intro _;exact .junk v
 | sc v=>intro _;exact .sc v
 | agg hl h1 _ ih=>intro hz;cases hz with | agg hz=>exact .agg hl h1 λi c v hc hv=>ih i c v hc hv (hz c (Ab hc))
 | tup hl _ ih=>intro hz;cases hz
 | lst0=>intro _;exact .lst0
 | lst1 hn hm hb hM hs h1 _ ih=>intro hz;cases hz with | lst hz=>exact .lst1 hn hm hb (Zbc _) hs h1 λi c v hc hv=>ih i c v hc hv (hz c (Ab hc))
 | ip hb hM hs h1 _ ih=>intro hz;cases hz with | ip hz=>exact .ip hb (Zbc _) hs h1 λi c v hc hv=>ih i c v hc hv (hz c (Ab hc))
 | nl0=>intro hz;cases hz
 | nl _ _ _ _ _ _ _=>intro hz;cases hz
 | ptr _ _ _=>intro hz;cases hz
 | sl _ _ _=>intro hz;cases hz
 | fn _ _ _ _ _ _=>intro hz;cases hz
 | ifc _ _=>intro hz;cases hz
 | mp _ _ _=>intro hz;cases hz
theorem Zlp{W w':World}{C':Ctx}{S':Store}(h:Step Ce Se W C' S' w'):∃q os',w'=grow (W.drewN q) os':=by
 obtain⟨p,hp⟩:=regrown_of_below (w:=W) (w':=w') ⟨h.os,h.tape.1,h.output,h.size,λb hb=>(h.blocks b hb (Zbc b)).1⟩;have hd:=h.tape.2;rw[hp]at hd;refine⟨p.d-W.drawn,p.os,?_⟩
 simp_all[grow,redrawn,World.drewN]
section
variable {P:Program} {α:Type} [Inhabited α] {val:α->Int}
theorem Zlq{C:Ctx}{S:Store}{w:World}{x:Int}{v:Value}(h:Rel C S w (I x) v):v=.int .i64 x:=by cases h;rfl
abbrev wG(val:α->Int)(x:α):Value:=.int .i64 (val x)
theorem Zlr{g:Nat}{caps:List PV}{cf:α->α->Int}(hg:∀x y:α,Pure P g (I (val x) :: I (val y) :: caps) (I (cf x y)))(cb:Array Value)(hl:caps.length=cb.size){w:World}{blk size:Nat}
  (hr:∀(m:Nat) (os:Array Obj) (dk:Array α),dk.size=size->∀(i:Nat) (c:PV) (v:Value),caps[i]?=some c->cb[i]?=some v->Rel Ce Se (sortWorld (wG val) w blk 0 m dk os) c v):CmpLays1 P g cb (wG val) cf blk 0 size w:=by
 intro m os dk hs x y;refine((hg x y Se).2 Ce (sortWorld (wG val) w blk 0 m dk os) (#[wG val x,wG val y]++cb) (Zln _) DF ?_).mono ?_
 ·intro i c v hc hv
  match i with
  | 0=>rw[Bl DC]at hv;cases hc;cases hv;exact .sc _
  | 1=>rw[Bl DC]at hv;cases hc;cases hv;exact .sc _
  | i+2 =>
   grind
 ·rintro e w' ⟨p,v,S',C',rfl,⟨rfl,rfl⟩,hrel,_,hst⟩;cases hrel
  grind[Zlp]
theorem Zey{C:Ctx}{S:Store}{w:World}(hS:Sim C S w){id ver e b k:Nat}{cs0:List PV}{c:Array Value}(hid:S id=.cells ver e cs0)(g1:C.loc id=some (b,k))(g2:w.heap[b]?=some (.cells c e (0,0)))(g3:c.size=k)(dk:Array α)(hdk:dk.size<=k)(q:Nat)(os:Array Obj):
  Sim (C.at id ver (C.loc id)) (S.set id (.cells ver e (dk.toList.map λx=>I (val x)))) (sortWorld (wG val) w b 0 q dk os) /\
  Step C S w (C.at id ver (C.loc id)) (S.set id (.cells ver e (dk.toList.map λx=>I (val x)))) (sortWorld (wG val) w b 0 q dk os):=by
 have hb:b<w.heap.size:=qn g2;have hh:(sortWorld (wG val) w b 0 q dk os).heap[b]?=some (.cells (putCells (wG val) 0 dk c) e (0,0)):=by
  unfold sortWorld;rw[heap_grow_old _ _ (by simpa using hb)];simp[putRow,mapBlock,Sort.ahead,Br,g2,onCells]
 have hgr:w.grownBy (sortWorld (wG val) w b 0 q dk os) (some b):=by
  refine⟨rfl,rfl,rfl,by simp[sortWorld],λj hj hne=>?_⟩;unfold sortWorld;rw[heap_grow_old _ _ (by simpa using hj)];have:b≠j:=λe=>hne (by rw[e])
  simp[putRow,mapBlock,Sort.ahead,Br,this]
 have hcell:∀i,i<dk.size->∀v,(putCells (wG val) 0 dk c)[i]?=some v->v=wG val dk[i]!:=by
  intro i hi v hv;have hic:i<c.size:=DB
  simp[putCells,hi,hic]at hv;rw[<-hv,getElem!_pos dk i hi]
 refine hS.turn (l:=C.loc id) (ver':=ver) (cs':=dk.toList.map λx=>I (val x)) hid (Af _) (λ_=>rfl) ⟨by simp_all,CO _ _⟩
  (.inr ⟨b,k,_,g1,.inr (by rw[g1];rfl),hh,by simp_all[putCells],by simpa using hdk,λi v hi hv=>?_,λi p v hp hv=>?_⟩)
 ·rw[hcell i (by simpa using hi) v hv];rfl
 ·have hi:i<dk.size:=by have:=(Ac.1 hp).1;simpa using this
  rw[hcell i hi v hv];rw[Ah,Array.getElem?_toList,A4 hi]at hp;simp only[A5,Option.some.injEq]at hp;rw[<-hp,getElem!_pos dk i hi];exact .sc _
theorem Zls{ρ:Ren}(L:SlLaysF.n6 P ρ)(hE:qg P (ρ.f 6)){S:Store}{id ver:Nat}{f:PV}:Spec P (ρ.f 6) [.sl id ver 1 0 0,f] S (λp S'=>S'=S):=by
 refine⟨hE,?_⟩;intro C w vs hS hl hr;obtain⟨v0,v1,rfl⟩:∃v0 v1,vs=#[v0,v1]:=by
  match vs,hl with
  | ⟨[a,b]⟩,_=>simp
 have hv0:=hr 0 _ v0 rfl rfl;cases hv0 with
 | sl h1 h2 h3 =>
  obtain⟨a,cap,rfl,q1,q2,q3,q4⟩:=h1;refine(AnyF.slices_SortFunc_none { L with } a cap _ w).mono ?_;rintro e w' ⟨rfl,rfl⟩;exact⟨.junk,_,S,C,rfl,rfl,.junk _,hS,.refl _ _ _⟩
theorem Zlt{ρ:Ren}(L:SlLaysF.n6 P ρ)(hE:qg P (ρ.f 6)){S:Store}{id ver e:Nat}(zs:List α)(hid:S id=.cells ver e (zs.map λx=>I (val x)))(hn:zs.length<=1048576)
  {g:Nat} (hG:qg P g) {caps:List PV} (hz:∀p∈caps,Fz p) (cf:α->α->Int) (hO:SWO (ltOf cf)) (hT:∀x y,(ltOf cf) x y=false->(ltOf cf) y x=false->x=y)
  (hg:∀x y:α,Pure P g (I (val x) :: I (val y) :: caps) (I (cf x y))) :
  Spec P (ρ.f 6) [.sl id ver 1 0 zs.length,.fn (.func g) [] caps] S (λp S'=>S'=S.set id (.cells ver e ((zs.mergeSort λx y=>!(ltOf cf) y x).map λx=>I (val x)))):=by
 refine⟨hE,?_⟩;intro C w vs hS hl hr;obtain⟨v0,v1,rfl⟩:∃v0 v1,vs=#[v0,v1]:=by
  match vs,hl with
  | ⟨[a,b]⟩,_=>simp
 have hv0:=hr 0 _ v0 rfl rfl;have hv1:=hr 1 _ v1 rfl rfl;cases hv1 with
 | @fn _ _ _ fv cv hf hc hh' hcap =>
 obtain rfl:fv=#[]:=DI
 cases hv0 with
 | sl h1 h2 h3 =>
  obtain⟨a,cap,rfl,q1,q2,q3,q4⟩:=h1
  by_cases h0:zs=[]
  ·subst h0;refine(AnyF.slices_SortFunc_none { L with } a cap _ w).mono ?_;rintro e w' ⟨rfl,rfl⟩;refine⟨.junk,_,S,C,rfl,?_,.junk _,hS,.refl _ _ _⟩
   grind[Store.set,List.mergeSort_nil]
  ·have hpos:0<zs.length:=BQ.2 h0;rcases hS.cells id ver _ _ hid with ⟨hn',hnil⟩ | ⟨b,k,c,g1,g2,g3,g4,g5,g6⟩
   ·simp_all
   ·have ha:a=some ⟨b,0,none⟩:=by
     rcases (h3 ver (by rw[hid];rfl)).2 rfl with ⟨z1,_⟩ | ⟨b',k',a',cap',z1,z2,z3,z4⟩
     ·omega
     ·grind
    subst ha;rw[List.length_map]at g4 g5;have hcells:∀i (hi:i<zs.length),c[i]?=some (wG val zs[i]):=by
     intro i hi;have hi':i<c.size:=DB
     have e1:(zs.map λx=>I (val x))[i]?=some (I (val zs[i])):=by simp[hi]
     have e2:c[i]?=some c[i]:=DC
     rw[e2,Zlq (g6 i _ _ e1 e2)]
    have hH:Holds (wG val) w b 0 zs.toArray:=by
     intro j hj;have hj':j<zs.length:=by simpa using hj
     refine⟨?_,by grind[World.frozen?]⟩;simp only[World.cell?,g2,AQ,CA,AP,if_false];rw[hcells j hj',getElem!_pos zs.toArray j hj];simp
    have hlays:CmpLays1 P g cv (wG val) cf b 0 zs.toArray.size w:=by
     refine Zlr hg cv DB λm os dk hs i p v hp hv=>?_
     obtain⟨_,st⟩:=Zey (val:=val) hS hid g1 g2 g3 dk (by rw[hs];omega) m os;exact Zlo ((hcap i p v hp hv).mono st) (hz p (Ab hp))
    have hk:=Any.slices_SortFunc_total L (wG val) (λ_=>rfl) cf hO g cv b 0 cap zs.toArray w hG hlays hH (qn g2) DF hT;simp only[BG]at hk;refine hk.mono ?_;rintro e w' ⟨rfl,m,os,rfl⟩;obtain⟨t1,t2⟩:=Zey (val:=val) hS hid g1 g2 g3 (zs.mergeSort λx y=>!(ltOf cf) y x).toArray (by simpa using g4) m os;exact⟨.junk,_,_,_,rfl,rfl,.junk _,t1,t2⟩
end
open Go
theorem Zez(x:Int):Pure prog 303 [I x] (B false):=by
 refine zx func303 ntmps303 results303 λS nx hd=>?_
 refine DK ?_;refine DK ?_;exact DL hd
theorem ZeA(x y:Int):Pure prog 376 [I x,I y] (I (uf x y)):=by
 refine zx func376 ntmps376 results376 λS nx hd=>?_
 refine DK ?_;refine DK ?_;refine zu (Zez x) ?_;refine DK ?_;refine zu (Zez y) ?_
 repeat apply ze
 refine zg ?_;refine zp DC ?_;refine zk ?_
 repeat apply ze
 refine zg ?_;refine zp DC ?_;refine zk ?_
 by_cases h1:x<y
 ·repeat apply ze
  refine zi [] h1 ?_;refine zo (by simp[h1]) ?_;refine DK ?_;exact zj (zm hd DD (by simp[uf,h1,zq]))
 repeat apply ze
 refine zi [] h1 ?_;refine zp (by simp[h1]) ?_;refine zk ?_
 by_cases h2:y<x
 ·repeat apply ze
  refine zi [] h2 ?_;refine zo (by simp[h2]) ?_;refine DK ?_;exact zj (zm hd DD (by simp[uf,h1,h2,zq]))
 repeat apply ze
 refine zi [] h2 ?_;refine zp (by simp[h2]) ?_;refine zk (DK ?_);exact zj (zm hd DD (by simp[uf,h1,h2,zq]))
theorem Zlu(x y:Int):Pure prog 375 [.lst 2 [I x,I y]] (I (if x=0 then y else x)):=by
 refine zx func375 ntmps375 results375 λS nx hd=>?_
 refine DK ?_;refine DK ?_
 repeat apply ze
 refine zg ?_;refine zn (zJ (λs:Nat=>s<=2/\(0<s->x=0)/\(1<s->y=0)) (λk=>[(3,I 0),(6,.lst 2 [I x,I y]),(7,I 2),(8,I k)]) (λ_=>[]) (λs=>2-s) 0 [] DC DC DC ?_);rintro k ⟨hk,hk1,hk2⟩
 match k,hk,hk1,hk2 with
 | 0,_,_,_ =>
  refine DK ?_;refine ze (zo DC ?_);refine zk (ze (zn (DK ?_)))
  by_cases hx:x=0
  ·refine ze (zi [] hx ?_);refine zp (by simp[hx]) ?_;refine zk (zg ?_);exact zv 1 [] ⟨by omega,λ_=>hx,by omega⟩ DB (by simp[hx];rfl) rfl DC
  ·refine ze (zi [] hx ?_);refine zo (by simp[hx]) ?_;refine DK ?_;exact zj (zm hd DD (by simp[hx,zq]))
 | 1,_,hk1,_ =>
  have hx:=hk1 DB;refine DK ?_;refine ze (zo DC ?_);refine zk (ze (zn (DK ?_)))
  by_cases hy:y=0
  ·refine ze (zi [] hy ?_);refine zp (by simp[hy]) ?_;refine zk (zg ?_);exact zv 2 [] ⟨by omega,λ_=>hx,λ_=>hy⟩ DB (by simp[hy];rfl) rfl DC
  ·refine ze (zi [] hy ?_);refine zo (by simp[hy]) ?_;refine DK ?_;exact zj (zm hd DD (by simp[hx,zq]))
 | 2,_,hk1,hk2 =>
  refine DK ?_;refine ze (zp DC ?_);refine zC (DK ?_);exact zj (zm hd DD (by simp[hk1 (by omega),hk2 (by omega),zq]))
theorem Zlv(l:List Int)(i j:Fin l.length)(hn:l.length<=1048576):Pure prog 374 [I i.val,I j.val,.ip [L l]] (I (wE l i j)):=by
 obtain⟨a,tl,a1,a2,a3,e0⟩:=zL rfl l i.val i.isLt;obtain⟨b,tl2,b1,b2,b3,e1⟩:=zL rfl l j.val j.isLt;have hi:=i.isLt;have hj:=j.isLt;have ha:l.getD i.val 0=a:=by rw[Aa,a1];rfl
 have hb:l.getD j.val 0=b:=by rw[Aa,b1];rfl
 have hor:=Zlu (uf a b) (uf i.val j.val);have hres:wE l i j=if uf a b=0 then uf (i.val:Int) j.val else uf a b:=by unfold wE;rw[ha,hb]
 rw[hres];refine zx func374 ntmps374 results374 λS nx hd=>?_
 refine DK ?_;refine ze (zB none (Row.pures [0,1,2,3,4,5,6,7,8,9,10,11,12,13,14] .done) mixed (zN hi hj e0 e1) ?_);refine zP (ZeA a b) (zN hi hj e0 e1) ?_;refine zP (ZeA i.val j.val) trivial ?_;refine zP (hor) trivial ?_;exact DL hd
theorem Zbd(l:List Int):l.flatMap Enc.enc=l.map I:=by induction l<;>simp_all
theorem Zlw(l:List Int):∀p∈[PV.ip [L l]],Fz p:=by
 intro p hp;simp only[AZ]at hp;subst hp;refine .ip λq hq=>?_
 simp only[AZ]at hq;subst hq;refine .lst λr hr=>?_
 rw[Zbd]at hr;obtain⟨x,_,rfl⟩:=Ar.1 hr;exact .sc _
def wZ(n k:Nat):List Int:=(List.range n).map λi=>if i<k then (i:Int) else 0
theorem Zlx(n k:Nat):(wZ n k).length=n:=by simp[wZ]
theorem Zly(n:Nat):wZ n 0=List.replicate n 0:=by
 apply Bg
 ·simp[wZ]
 ·intro i h1 h2;simp[wZ]
theorem Zlz(n k:Nat)(h:k<n):(wZ n k).set k (k:Int)=wZ n (k+1):=by
 apply Bg
 ·simp[wZ]
 ·intro i h1 h2;rw[CN];simp only[wZ,Ct,Cx]
  by_cases e:k=i
  ·subst e;rw[if_pos rfl,if_pos DB]
  ·rw[if_neg e]
   by_cases h3:i<k
   ·rw[if_pos h3,if_pos DB]
   ·rw[if_neg h3,if_neg DB]
theorem ZlA(n:Nat):wZ n n=(List.finRange n).map λx=>(x.val:Int):=by
 apply Bg
 ·simp[wZ]
 ·intro i h1 h2;have:i<n:=by simpa[wZ] using h1
  simp[wZ,this]
theorem ZeB{α:Type}(l:List α)(f:α->Int):(l.map f).flatMap Enc.enc=l.map λx=>I (f x):=by induction l<;>simp_all
theorem ZlB(n:Nat):yR n (.int .i64 0)=(List.replicate n (0:Int)).flatMap Enc.enc:=by
 induction n with
 | zero=>simp
 | succ n ih=>rw[YJ,ih,Bu];simp[qZ,Value.cells]
theorem ZlC(l:List Int)(k:Nat)(v:Int)(h:k<l.length):yd (l.flatMap Enc.enc) k [I v]=(l.set k v).flatMap Enc.enc:=by
 rw[Zbd,Zbd,yd,List.map_set,Ax,if_pos (by simpa using h)];simp
theorem ZlD(l:List Int)(hn:l.length<=1048576):Pure prog 366 [L l] (L (vI l)):=by
 have hE:qg prog 373:=qb func373 DG rfl;have hG:qg prog 374:=qb func374 DG rfl;refine zx func366 ntmps366 results366 λS nx hd=>?_
 refine DK ?_;intro v0;refine DK ?_;refine⟨by omega,λv1=>?_⟩
 repeat apply ze
 refine zg ?_;refine zn (zJ (λs:Nat=>s<=l.length) (λk=>[(1,.ptr nx v0 0),(3,.sl (nx+1) v1 1 0 l.length),(9,I l.length),(10,I k)]) (λk=>[.cells v0 26 [L l],.cells v1 3 ((wZ l.length k).flatMap Enc.enc)]) (λs=>l.length-s) 0 [] DC DC (by simp[Zly,ZlB]) ?_);rintro k hk;refine DK ?_;refine ze (zz rfl (λhc=>?_) (λhc=>?_))
 ·simp at hc;have hl1:=Zlx l.length k;have hsp:=ZlC (wZ l.length k) k k DB;rw[Zlz _ _ hc]at hsp;refine zk (ze (zn (DK ?_)));refine zi [] (zF hc hl1 hsp) ?_;refine⟨by omega,?_⟩;refine zg ?_;exact zv (k+1) [] hc DB (by simp[zA k (by omega)]) rfl DC
 ·simp at hc;obtain rfl:k=l.length:=DB
  refine zC ?_;rw[ZlA,ZeB];refine xI 0 rfl ?_;refine DK ?_
  by_cases h0:l.length=0
  ·obtain rfl:l=[]:=Ap h0;refine λhsuf=>((Zls laysSlF6_f373 hE).mono ?_).v
   rintro _ _ rfl;refine⟨_,_,rfl,zQ hsuf ?_⟩;refine yb 1 rfl ?_;refine DK ?_;have hs0:vI []=[]:=Ap (Za5 []);exact zj (zm hd DD (by rw[hs0];rfl))
  ·haveI:Inhabited (Fin l.length):=⟨⟨0,by omega⟩⟩
   have hs:=λS id ver hid=>Zlt (S:=S) (id:=id) (ver:=ver) (e:=3) (val:=λi:Fin l.length=>(i.val:Int)) laysSlF6_f373 hE (List.finRange l.length) hid DF hG (Zlw l) (wE l) (W5 l) (Zet l) (λx y=>Zlv l x y hn)
   rw[List.length_finRange]at hs;have hfl:=ZeB (QG l) (λi=>(i.val:Int));have hsl:=Za5 l;refine λhsuf=>((hs _ (nx+1) v1 (by rw[z7];rfl)).mono ?_).v
   rintro _ _ rfl;refine⟨_,_,yh _ DB DC,?_⟩;rw[show (((List.finRange l.length).mergeSort λx y=>!(ltOf (wE l)) y x).map λx=>I (x.val:Int))=(vI l).flatMap Enc.enc from hfl.symm];refine jy [] (show nx+1-nx=1 from by omega) hsuf ?_;refine yb 1 rfl ?_;refine ze (zi [] hsl ?_);exact zj (zm hd DD (by simp[zq,hsl]))
open Go Hp
theorem ZlE(x:Inst)(c:List Int)(a b:Int):jK x (c++[b]) a=jK x c a++(if b≠a then [⟨a,b,ug x a b⟩] else []):=by
 unfold jK
 by_cases h:b=a<;>simp[h]
theorem ZlF(x:Inst)(c:List Int)(a:Int):(jK x c a).length<=c.length:=by
 unfold jK;rw[List.length_map];exact Bx _ _
theorem ZlG(l:List Pr)(p:Pr):qI (l++[p])=qI l++[-p.s]:=by simp[qI]
theorem ZlH(l:List Pr):(qI l).length=l.length:=by simp[qI]
theorem ZlI(x:Inst)(c:List Int)(a:Int)(hx:jf x)(hc:c.length<=1048576)(hs:∀b∈c,y9 b)(ha:y9 a):Pure prog 347 [.agg (zD x),L c,I a] (L (x7 x c a)):=by
 refine zx func347 ntmps347 results347 λS nx hd=>?_
 refine DK ?_;intro v0;refine DK ?_;refine ze (qL 7 392 3 rfl λv1=>?_);refine zg ?_;refine ze (qL 8 3 1 rfl λv2=>?_);refine DK ?_;refine zn (zJ (λs:Nat × List Pr × Nat × Nat=>s.1<=c.length/\s.2.1=jK x (c.take s.1) a) (λ(k,ps,v1,v2)=>[(1,L c),(2,I a),(3,.ptr nx v0 0),(7,.sl (nx+1) v1 3 0 ps.length),(8,.sl (nx+2) v2 1 0 ps.length),(15,L c),(16,I c.length),(17,I k)]) (λ(k,ps,v1,v2)=>[.cells v0 25 (zD x),.cells v1 392 (ps.flatMap Enc.enc),.cells v2 3 ((qI ps).flatMap Enc.enc)]) (λs=>c.length-s.1) (0,[],v1,v2) [] (by simp[jK]) DC (by simp[qI]) ?_);rintro⟨k,ps,v1,v2⟩ ⟨hk,ho⟩;simp only at hk ho ⊢;have hpl:ps.length<=k:=by rw[ho];refine AB (ZlF _ _ _) ?_;simp;omega
 have hnl:=ZlH ps;refine DK ?_;refine ze (zz rfl (λhq=>?_) (λhq=>?_))
 ·simp at hq;obtain⟨b,tl,a1,a2,a3,e0⟩:=zL rfl c k hq;have hb:=hs b (Ab a1);have hsv:=Za9 hx a b;have w5:IntKind.i64.wrap (-ug x a b)=-ug x a b:=wr _ DB DB;have hsn:=ZlE x (c.take k) a b;rw[<-a3,<-ho]at hsn;refine zk (ze (zn (ze (zi [] (zt e0 hq) ?_))));refine DK ?_;refine zz rfl (λhne=>?_) (λhne=>?_)
  ·simp at hne;rw[if_pos hne]at hsn;refine DK ?_;refine zu (Zle x a b hx ha hb) ?_;intro v3;refine DK ?_;refine⟨by omega,?_⟩;have htk:List.take ps.length ((qI ps).flatMap Enc.enc)=(qI ps).flatMap Enc.enc:=by rw[<-hnl];exact Zjf _
   have hnf:((qI ps).flatMap Enc.enc).length=ps.length:=by rw[je,hnl]
   refine zi [] (zF w5 htk hnf) ?_;refine⟨by omega,?_⟩;refine zg ?_;exact zv (k+1,ps++[⟨a,b,ug x a b⟩],v1+1,v2+1) [_] ⟨hq,hsn.symm⟩ DF (by simp[zA k (by omega)]) rfl (by simp[ZlG];rfl)
  ·simp at hne;rw[if_neg (by simp[hne]),AF]at hsn;refine zk (zg ?_);exact zv (k+1,ps,v1,v2) [] ⟨hq,hsn.symm⟩ DF (by simp[zA k (by omega)]) rfl DC
 ·simp at hq;obtain rfl:k=c.length:=DB
  rw[Ag]at ho;refine zC (yb 1 rfl ?_);refine yb 2 rfl ?_;refine DK ?_;refine ze (qL 12 392 3 rfl λv3=>?_);have hrw:x7 x c a=(vI (qI ps)).map (vJ ps):=by rw[ho];rfl
  rw[hrw];have hsl:=Za5 (qI ps);have hmem:∀z∈vI (qI ps),0<=z/\z<ps.length:=λz h=>by have:=ZkW h;omega
  have hcall:=ZlD (qI ps) DB;rw[show L (qI ps)=PV.lst ps.length ((qI ps).flatMap Enc.enc) from by rw[<-hnl]]at hcall;generalize qI ps=ns at *;refine ze (zi [] hnl ?_);refine zu hcall ?_;generalize vI ns=is at *;refine zn (zJ (λs:Nat × List Pr × Nat=>s.1<=is.length/\s.2.1=(is.take s.1).map (vJ ps)) (λ(k,os,v)=>[(7,L ps),(12,.sl (nx+3) v 3 0 os.length),(43,L is),(44,I is.length),(45,I k)]) (λ(k,os,v)=>[.cells v0 25 (zD x),.dead,.dead,.cells v 392 (os.flatMap Enc.enc)]) (λs=>is.length-s.1) (0,[],v3) [] DC (by simp[hnl]) DC ?_);rintro⟨k,os,v⟩ ⟨hk,ho2⟩;simp only at hk ho2 ⊢;refine DK ?_;refine ze (zz rfl (λhq=>?_) (λhq=>?_))
  ·simp at hq;obtain⟨i,tl,a1,a2,a3,e0⟩:=zL rfl is k hq;obtain⟨q1,q2⟩:=hmem i (Ab a1);obtain⟨j,rfl⟩:∃j:Nat,i=j:=⟨i.toNat,by omega⟩;have hj:j<ps.length:=DB
   obtain⟨p,tp,b1,b2,b3,e1,e2⟩:=el 3 rfl ps j hj;have hg:vJ ps (j:Int)=p:=by simp[vJ,Aa,b1]
   have hgs:(is.take (k+1)).map (vJ ps)=os++[p]:=by rw[a3,ho2];simp[hg]
   have hgl:os.length=k:=by rw[ho2];simp;omega
   refine zk (ze (zn (ze (zi [] (zt e0 hq) ?_))));refine zi [] (zF e1 e2 hj) ?_;refine⟨by omega,?_⟩;refine zg ?_;exact zv (k+1,os++[p],v+1) [] ⟨hq,hgs.symm⟩ DF (by simp[zA k (by omega)]) rfl DC
  ·simp at hq;obtain rfl:k=is.length:=DB
   rw[Ag]at ho2;refine zC (yb 3 rfl ?_);refine DK ?_;exact zj (zm hd DD (by simp[zq,ho2]))
open Go Hp
@[simp] theorem Zwq(d1 d2 a b c:Ob)(l:List Ob)(o:Ob × Ob × Ob):ZC (d1 :: d2 :: a :: b :: c :: l) 2 o=d1 :: d2 :: o.1 :: o.2.1 :: o.2.2 :: l:=rfl
theorem HX.srt{o:Ob × Ob × Ob}{a hv mv:Nat}{r:zM Int}(h:HX o a hv mv r):vH r:=by
 obtain⟨_,_,_,h⟩:=h (λi=>if i=a then o.1 else if i=a+1 then o.2.1 else o.2.2) DC DC DC;exact h
theorem ZlJ{id:Int}{r:zM Int}(h:∀x∈r,x.1≠id):jV id r=false:=by grind[jV]
def XB(p:Pr):List PV:=[.agg [I p.a,I p.b,I p.s]]
def jW(x:Inst)(c:List Int)(k:Nat):List (List Pr):=(c.take k).map (x7 x c)
theorem ZeC(x:Inst)(c:List Int):jW x c 0=[]:=by simp[jW]
theorem ZlK{x:Inst}{c:List Int}{k:Nat}{a:Int}(h:c.take (k+1)=c.take k++[a]):jW x c (k+1)=jW x c k++[x7 x c a]:=by simp[jW,h]
theorem ZlL(x:Inst)(c:List Int):jW x c c.length=c.map (x7 x c):=by simp[jW]
theorem ZeD(x:Inst)(c:List Int)(k:Nat)(h:k<=c.length):(jW x c k).length=k:=by simp_all[jW]
def uh(rows:List (List Pr))(n:Nat):List PV:=rows.flatMap Enc.enc++List.replicate (n-rows.length) (.sc (.slice none 0 0))
theorem ZeE(rows:List (List Pr))(n:Nat)(h:rows.length<=n):(uh rows n).length=n:=by simp_all[uh]
theorem ZlM(n:Nat):uh [] n=yR n (.slice none 0 0):=by
 unfold uh;simp only[Cm,AM,A6,Dy]
 induction n<;>simp_all[YJ,Bu]
theorem ZlN(rows:List (List Pr)):uh rows rows.length=rows.flatMap Enc.enc:=by simp[uh]
theorem ZlO(rows:List (List Pr))(n:Nat)(r:List Pr)(h:rows.length<n):yd (uh rows n) rows.length [L r]=uh (rows++[r]) n:=by
 unfold uh yd;have h1:(rows.flatMap Enc.enc).length=rows.length:=jI rows;obtain⟨m,hm⟩:∃m,n-rows.length=m+1:=⟨n-rows.length-1,by omega⟩;rw[hm,Bu];rw[BD DB,Ae DB];rw[Cs,A7 DC];simp[h1,show n-(rows.length+1)=m by omega]
theorem ZlP(rows:List (List Pr))(n:Nat)(r:List Pr):(uh (rows++[r]) n)[rows.length]?=some (L r):=by
 unfold uh;rw[Al,List.append_assoc,Ai (by rw[jI];exact Af _),jI];simp
theorem ZlQ(rows:List (List Pr))(k:Nat)(r:List Pr)(h:k<rows.length):yd (rows.flatMap Enc.enc) k [L r]=(rows.set k r).flatMap Enc.enc:=by
 have e:∀l:List (List Pr),l.flatMap Enc.enc=l.map λr=>L r:=λl=>by induction l<;>simp_all
 rw[e,e,yd,List.map_set,Ax,if_pos (by simpa using h)];simp
theorem Va:∀(rows:List (List Pr)) (i:Nat) (r:List Pr),yQ i (rows++[r])=yQ i rows++yQ (i+rows.length) [r]
 | [],i,r=>by simp[yQ]
 | [] :: rows,i,r=>by
  simp only[List.cons_append,yQ,Au];rw[Va rows (i+1) r,show i+1+rows.length=i+(rows.length+1) by omega]
 | (p :: l) :: rows,i,r=>by
  simp only[List.cons_append,yQ,Au];rw[Va rows (i+1) r,show i+1+rows.length=i+(rows.length+1) by omega]
theorem ZlR(rows:List (List Pr)):yQ 0 (rows++[[]])=yQ 0 rows:=by rw[Va];simp[yQ]
theorem ZlS(rows:List (List Pr))(p:Pr)(tl:List Pr):(yQ 0 (rows++[p :: tl])).Perm (((rows.length:Int),-p.s) :: yQ 0 rows):=by
 rw[Va];simp only[yQ,AQ];exact CJ
theorem ZeF{rows:List (List Pr)}{k:Nat}(h:rows.getD k []=[]){r:zM Int}(hp:r.Perm (yQ 0 rows)):jV (k:Int) r=false:=by
 refine ZlJ λx hx e=>?_
 obtain⟨j,p,tl,hj,rfl⟩:=(Jy rows 0 x).1 (hp.subset hx);simp only[AQ]at e;have:j=k:=DB
 subst this;rw[Aa,hj]at h;cases h
theorem ZlT(x:Inst)(ss:List Stop):Pure prog 331 [.agg (zD x),L ss] (.fn (.func 345) [] [.ip [L ss],.ip (zD x)]):=by
 refine zx func331 ntmps331 results331 λS nx hd=>?_
 refine DK ?_;intro v0 v1;refine DK ?_;refine xI 0 rfl ?_;refine xI 1 rfl ?_;exact DL hd
theorem ZlU(x:Inst)(ss:List Stop)(hx:jf x)(hss:ss.length<=1048576)(hs:∀s∈ss,y9 s.c)(hnd:(ss.map (·.c)).Nodup):YM prog 345 [.ip [L ss],.ip (zD x)] ((qQ x (ss.map (·.c))).map XB):=by
 have hcust:=λS nx hd=>Xr ss hss S nx hd
 obtain⟨zs,hzs⟩:∃zs,zs=ss.map (·.c):=⟨_,rfl⟩;have hzl:ss.length=zs.length:=by rw[hzs];simp
 rw[<-hzs,hzl]at hcust;rw[<-hzs]at hnd ⊢;have hzsm:∀b∈zs,y9 b:=by
  intro b hb;rw[hzs]at hb;obtain⟨s,h1,rfl⟩:=Ar.1 hb;exact hs s h1
 have hz1:=Xt zs;have hz2:=Zea zs;have hz3:=(ZaT zs).2 hnd;have hz4:=YO zs;have hz5:qQ x zs=qQ x (yS zs):=Zk4 hnd hz3 hz2.symm;have hz6:(yS zs).Pairwise (· < ·):=(List.Pairwise.and hz1 hz3).imp λ⟨h1,h2⟩=>by omega
 have hzn:zs.length<=1048576:=DB
 have hcsm:∀b∈yS zs,y9 b:=λb hb=>hzsm b (hz2.subset hb)
 have hsort:=λ(S:Store) (id ver:Nat) (hid:S id=.cells ver 3 (zs.flatMap Enc.enc))=>W0 zs hid hzn
 rw[hz5];generalize yS zs=c at *;clear hzs hz1 hz5;refine Xo func345 DG rfl ntmps345 (congrArg Array.toList results345) DC λl V keep nx J hJd hY A0 hA0=>?_
 refine DK ?_;refine λhsuf=>((hcust _ _ jU).mono ?_).v
 rintro _ _ ⟨v1,rfl,rfl⟩;refine⟨_,_,Jq _,jy [] Nat.add_assoc hsuf ?_⟩;refine DK ?_;refine λhsuf=>((hsort _ _ _ DC).mono ?_).v
 rintro _ _ rfl;refine⟨_,_,yh _ DC DC,zQ hsuf ?_⟩;rw[<-hz4];refine yb 1 rfl ?_;refine DK ?_;refine λhsuf=>(ZkS.mono ?_).v
 rintro p _ ⟨hv,mv,o1,rfl,m1,rfl⟩;refine⟨_,_,rfl,zQ hsuf ?_⟩;simp at m1;refine DK ?_;refine⟨by omega,λv0=>?_⟩
 repeat apply ze
 refine zg ?_;have hpw:∀(row:List Pr) (a:Int),row=x7 x c a->∀p∈row,IntKind.i64.wrap (-p.s)=-p.s:=by
  intro row a e p hp;rw[e]at hp;have h1:=(Za8 x c a).subset hp;unfold jK at h1;obtain⟨b,_,rfl⟩:=Ar.1 h1;have:=Za9 hx a b
  show IntKind.i64.wrap (-ug x a b)=-ug x a b
  exact wr _ DB DB
 refine zn (zJ (λs:Nat × zM Int × (Ob × Ob × Ob) × Nat=>s.1<=c.length/\s.2.1.Perm (yQ 0 (jW x c s.1))/\HX s.2.2.1 (nx+2) hv mv s.2.1) (λ(k,its,o,v)=>[(0,jH l),(2,.ip (zD x)),(4,L c),(5,.ptr (nx+3) hv 0),(6,.sl (nx+5) v 1 0 c.length),(21,L c),(22,I c.length),(23,I k)]) (λ(k,its,o,v)=>[.dead,.dead,o.1,o.2.1,o.2.2,.cells v 429 (uh (jW x c k) c.length)]) (λs=>c.length-s.1) (0,[],o1,v0) [] ⟨by simp,by simp[ZeC,yQ],m1⟩ DC (by simp[ZeC,ZlM]) ?_);rintro⟨k,its,o,v⟩ ⟨hk,hp,hm⟩;simp only at hk hp hm ⊢;refine DK ?_;refine ze (zz rfl (λhq=>?_) (λhq=>?_))
 ·simp at hq;obtain⟨a,tl,a1,a2,a3,e0⟩:=zL rfl c k hq;have hkl:=ZeD x c k DB;have hks:=ZlK (x:=x) a3;have hput:=ZlO (jW x c k) c.length (x7 x c a) DB;have hat:=ZlP (jW x c k) c.length (x7 x c a);have hrl:=ZeE (jW x c k) c.length DB;have hrl2:=ZeE (jW x c k++[x7 x c a]) c.length DF;rw[hkl]at hput hat;have hno:jV (k:Int) its=false:=ZeF (k:=k) (rows:=jW x c k) (by rw[Aa,Ak (by omega)];rfl) hp;have hil:its.length<=k:=by rw[hp.length_eq];exact AB (W8 _ _) DB
  refine zk (ze (zn (ze (zi [] (zt e0 hq) ?_))));refine DK ?_;refine qP [] (ZlI x c a hx DB hcsm (hcsm a (Ab a1))) (zF hput hrl hq) ?_;refine⟨by omega,?_⟩;have hw:=hpw (x7 x c a) a rfl;have hsn:=ZlS (jW x c k);have hsn0:=ZlR (jW x c k);generalize hrow:x7 x c a=row at *;have hat2:∀h,(uh (jW x c k++[row]) c.length)[k]'h=L row:=λh=>(Ac.1 hat).2
  refine ze (zi [] (zF hat2 hq hrl2) ?_);cases row with
  | nil =>
   refine zp rfl (zk (zg ?_));refine zv (k+1,its,o,v) [] ⟨hq,?_,hm⟩ DF (by simp[zA k (by omega)]) rfl (by simp[hks]);simp only[hks,hsn0];exact hp
  | cons p rl =>
   have hwp:=hw p DC;refine zo DC ?_;refine zi [] (zN hat2 hq hrl2 hwp) ?_;refine λhsuf=>((Zes (j:=2) hm rfl rfl rfl (k:Int) (-p.s) DB).mono ?_).v
   rintro _ T ⟨rfl,o2,m2,rfl⟩;refine⟨_,_,rfl,?_⟩;rw[hno]at m2;simp only[cond_false]at m2;refine zQ hsuf ?_;refine zg ?_;refine zv (k+1,ZB ((k:Int),-p.s) its,o2,v) [] ⟨hq,?_,m2⟩ DF (by simp[zA k (by omega)]) rfl (by simp[hks]);simp only[hks];have:=hsn p rl;rw[hkl]at this;exact(Xx _ _).trans ((hp.cons _).trans this.symm)
 ·simp at hq;obtain rfl:k=c.length:=DB
  obtain⟨hb1,hb2,hb3⟩:=Zlc (x:=x) hz6;rw[<-ZlL]at hb1 hb2 hb3;have hrl:=ZeD x c c.length (Af _);have hrc:=ZlN (jW x c c.length);rw[hrl]at hrc;rw[hrc];generalize jW x c c.length=rows at *;refine zC (zn (jo (σ:=Nat × Store × List (List Pr) × zM Int × (Ob × Ob × Ob) × Nat) (λs=>s.1<=(qQ x c).length/\J s.1 s.2.1/\Rows' c s.2.2.1/\(∀r∈s.2.2.1,Sd xZ r)/\s.2.2.1.flatten.Perm ((qQ x c).drop s.1)/\s.2.2.2.1.Perm (yQ 0 s.2.2.1)/\HX s.2.2.2.2.1 (nx+2) hv mv s.2.2.2.1) (λs=>[(0,jH l),(5,.ptr (nx+3) hv 0),(6,.sl (nx+5) s.2.2.2.2.2 1 0 c.length)]) (λs=>s.2.1) (λs=>[.dead,.dead,s.2.2.2.2.1.1,s.2.2.2.2.1.2.1,s.2.2.2.2.1.2.2,.cells s.2.2.2.2.2 429 (s.2.2.1.flatMap Enc.enc)]) (λs=>(qQ x c).length-s.1) (zT (0,A0,rows,its,o,v) [] ⟨by simp,hA0,hb1,hb2,by simpa using hb3,hp,hm⟩ DC rfl DC) ?_));rintro⟨i,A,rows,its,o,v⟩ ⟨hi,hJ,hr1,hr2,hr3,hp,hm⟩;simp only at hi hJ hr1 hr2 hr3 hp hm ⊢;have hrl:rows.length=c.length:=hr1.len;have hs:=hm.srt;refine zn (ze (xk [] DG DG λK Gc Gh hK hGc hGh X hX0 hX=>?_));simp -implicitDefEqProofs [hX0,hX]
  try clear hX0 hX X
  refine hGc _ _ _ _ _ _ _ λhsuf=>((ZkR (j:=2) hm rfl rfl rfl).mono ?_).v
  rintro _ T ⟨rfl,o2,m2,rfl⟩;refine⟨_,_,rfl,?_⟩;cases its with
  | nil =>
   clear hGc hGh;clear Gc Gh;refine xH hsuf (D:=[]) DG λGc Gh hGc hGh X hX0 hX=>?_
   simp -implicitDefEqProofs [hX0,hX,QF,zZ,wA];clear hX0 hX X;refine hK _ _ _ ?_;clear hK hGc hGh;clear K Gc Gh;have h0:∀r∈rows,r=[]:=by
    intro r hr;cases r with
    | nil=>rfl
    | cons p tl =>
     obtain⟨j,hj⟩:=Bb.1 hr;have:=(Jy rows 0 ((j:Int),-p.s)).2 ⟨j,p,tl,hj,by rw[AQ]⟩;rw[List.nil_perm.1 hp]at this;cases this
   have hfin:=ZkZ hr3 hi h0
   repeat apply ze
   refine zi [(2,61)] zy ?_;exact zo rfl (zj (uD (hJd _ _ hJ) rfl (by simpa[hfin] using hJ)))
  | cons it r =>
   obtain⟨q,y,tl,e1,e2,e3,e4,e5,e6,e7⟩:=Zld hz6 hr1 hr2 hr3 hs hp.symm;subst e1;have hql:=(Ac.1 e2).1;have hql2:q<c.length:=DB
   obtain⟨y',tr,a1,a2,a3,e0⟩:=zL rfl rows q hql;rw[e2]at a1;cases a1;have hil:=(Ac.1 e4).1;have hyx:((qQ x c).map XB)[i]?=some (XB y):=by rw[Ah,e4];rfl
   clear hGc hGh;clear Gc Gh;refine xH hsuf (D:=[]) DG λGc Gh hGc hGh X hX0 hX=>?_
   simp -implicitDefEqProofs [hX0,hX,QF,zZ,wA];clear hX0 hX X;refine hK _ _ _ ?_;clear hK hGc hGh;clear K Gc Gh
   repeat apply ze
   refine zi [(2,61)] (zN e0 hql2 hrl zy) ?_;refine λhsuf=>Jr rfl rfl rfl (hY _ _ _ _ hyx hJ) ?_
   rintro _ ⟨A',hJ',rfl⟩;refine⟨_,_,rfl,jy [(2,61)] trivial hsuf ?_⟩;refine zp rfl (zk ?_);have hsp:=ZlQ rows q tl hql;have hrl2:(rows.set q tl).length=c.length:=by simp[hrl]
   have hql3:q<(rows.set q tl).length:=DB
   obtain⟨y',tr',a1,a2,a3,e0'⟩:=zL rfl (rows.set q tl) q hql3;rw[AS hql]at a1;cases a1;have hno:jV (q:Int) r=false:=ZeF (rows:=rows.set q []) (by rw[Aa,AS hql];rfl) e3;have hlen:r.length<=1048576:=by rw[e3.length_eq];exact AB (W8 _ _) DF
   have hperm:=λp tz=>W7 rows 0 q p tz hql
   refine ze (zi [] (zN e0 hql2 hrl hsp) ?_);refine⟨by omega,?_⟩;refine ze (zi [] (zF e0' hql2 hrl2) ?_);cases tl with
   | nil =>
    exact zp rfl (zk (zv (i+1,A',rows.set q [],r,o2,v) [] ⟨hil,hJ',e5,e6,e7,e3,m2⟩ DF DC rfl DC))
   | cons z tz =>
    have hzm:z∈(rows.set q (z :: tz)).flatten:=BE.2 ⟨z :: tz,Ab (AS hql),by simp⟩;have hzp:z∈uF x c:=(QH x c).subset (Cb (e7.subset hzm));have hzs:=(W6.1 hzp).2.2.2;have hwz:IntKind.i64.wrap (-z.s)=-z.s:=by
     rw[hzs];have:=Za9 hx z.a z.b;exact wr _ DB DB
    refine zo DC ?_;refine zi [] (zN e0' hql2 hrl2 hwz) ?_;refine λhsuf=>((Zes (j:=2) m2 rfl rfl rfl (q:Int) (-z.s) DF).mono ?_).v
    rintro _ T ⟨rfl,o3,m3,rfl⟩;refine⟨_,_,rfl,?_⟩;simp only[List.tail_cons]at m3;rw[hno]at m3;simp only[cond_false]at m3;refine zQ hsuf ?_;refine zv (i+1,A',rows.set q (z :: tz),ZB ((q:Int),-z.s) r,o3,v) [] ⟨hil,hJ',e5,e6,e7,?_,m3⟩ DF DC rfl DC;have:=hperm z tz;rw[AQ]at this;exact(Xx _ _).trans ((e3.cons _).trans this.symm)
open Go Hp
theorem ZlV{x:Inst}{c:List Int}(h:c.Nodup)(hc:c.length<=1000):(qQ x c).length<=1000000:=by
 rw[Zk1 h];exact AB (Nat.mul_le_mul hc (Nat.sub_le _ _)) (Nat.mul_le_mul_left 1000 hc)
open Go Hp
open Go Hp
def YT(x:Inst)(ss:List Stop)(i:Nat):zr × Int:=((qQ x (ss.map (·.c))).take i).foldl (qW x) (ss.map λs=>[s],(ss.length:Int))
theorem ZlW(x:Inst)(ss:List Stop):YT x ss 0=(ss.map λs=>[s],(ss.length:Int)):=by simp[YT]
theorem ZlX{x:Inst}{ss:List Stop}{i:Nat}{p:Pr}(h:(qQ x (ss.map (·.c)))[i]?=some p):YT x ss (i+1)=qW x (YT x ss i) p:=by
 unfold YT;obtain⟨h1,e⟩:=Ac.1 h;rw[AO h1,e,Bo];rfl
theorem ZlY(x:Inst)(ss:List Stop):YT x ss (qQ x (ss.map (·.c))).length=Zba x ss:=by simp[YT,Zba]
theorem ZlZ(x:Inst)(T:zr)(num:Int)(p:Pr):num-1<=(qW x (T,num) p).2/\(qW x (T,num) p).2<=num:=by
 unfold qW Xz;cases qr x (T,num).2 p (uG (T,num).1 p.a) (uG (T,num).1 p.b) ((T,num).1.getD (uG (T,num).1 p.a) []) ((T,num).1.getD (uG (T,num).1 p.b) [])<;>simp<;>omega
theorem Zl0(x:Inst)(ss:List Stop)(hx:jf x)(hxc:x.cust.length<=1048576)(hss:ss.length<=1000)(hs:∀s∈ss,y9 s.c)(hnd:(ss.map (·.c)).Nodup):Pure prog 316 [.agg (zD x),L ss] (.agg [L (wF x ss)]):=by
 have hpl:=ZlV (x:=x) hnd (by simpa using hss);have hkey:KeyOk (.int .i64) qH:=QE .i64;have hdist:∀k s,ss[k]?=some s->s.c ∉ (ss.take k).map (·.c):=by
  intro k s h hm;obtain⟨s',h1,h2⟩:=Ar.1 hm;obtain⟨j,hj⟩:=Bb.1 h1;rw[BA]at hj;split at hj
  ·rename_i hjk;have e1:(ss.map (·.c))[j]?=some s.c:=by rw[Ah,hj,<-h2];rfl
   have e2:(ss.map (·.c))[k]?=some s.c:=by rw[Ah,h];rfl
   obtain⟨g1,g2⟩:=Ac.1 e1;obtain⟨g3,g4⟩:=Ac.1 e2;exact Bn.1 hnd j k g1 g3 hjk (g2.trans g4.symm)
  ·cases hj
 refine zx func316 ntmps316 results316 λS nx hd=>?_
 refine DK ?_;intro v0 v1;refine DK ?_;intro v2 v3 v4;refine jd 3 6 40 1 rfl rfl λv5=>?_
 repeat apply ze
 refine zg ?_;refine zn (zJ (λs:Nat × zr × List (Value × PV) × (Int->Option Int) × Nat=>s.1<=ss.length/\s.2.1=(ss.take s.1).map (λs=>[s])/\MapIs qH I s.2.2.1 s.2.2.2.1/\JI (ss.take s.1) s.2.1 s.2.2.2.1) (λ(k,T,es,g,v5)=>[(1,L ss),(2,.ptr nx v0 0),(4,.ptr (nx+1) v1 0),(5,.ptr (nx+4) v4 0),(18,L ss),(19,I ss.length),(20,I k)])
  (λ(k,T,es,g,v5)=>[.cells v0 25 (zD x),.cells v1 39 [.sc (.slice none 0 0)],.map v2 es,.cells v3 387 (Jz x (nx+5) v5 k ss.length (nx+2) v2),.cells v4 383 [.ptr (nx+3) v3 0],.cells v5 40 (T.flatMap Enc.enc)]) (λs=>ss.length-s.1) (0,[],[],λ_=>none,v5) [] ⟨by simp,by simp,Zei _ _,by simpa using JI.nil⟩ DC DC ?_)
 rintro⟨k,T,es,g,v5⟩ ⟨hk,hT,hm,hI⟩;simp only at hk hT hm hI ⊢;have hTl:T.length=k:=by rw[hT];simp;omega
 refine DK ?_;refine ze (zz rfl (λhq=>?_) (λhq=>?_))
 ·simp at hq;obtain⟨s,tl,a1,a2,a3,e1,e0⟩:=el 2 rfl ss k hq;obtain⟨rs,f1,_,_,f4,_⟩:=hm.find hkey s.c;have hnew:=f4 (k:Int);have hIn:=hI.snoc s (hdist k s a1);have hkl:(ss.take k).length=k:=DF
  rw[hkl,<-a3]at hIn;have hTs:T++[[s]]=(ss.take (k+1)).map λs=>[s]:=by rw[a3,hT];simp
  have htf:(T.flatMap Enc.enc).take k=T.flatMap Enc.enc:=Ae (by rw[jI];omega);have htl:(T.flatMap Enc.enc).length=k:=by rw[jI,hTl]
  refine zk (ze (zn (ze (zi [] (zF e1 e0 hq) ?_))));intro v6;refine ze (zB (some [nx+4,nx+6]) (Row.pures [0,1,2,3,5,6,7] (.alt 4 (.alt 8 (Row.pures [9,10] (.alt 11 (.done) .stop)) .stop) .stop)) mixed (zt htf htl) ?_);refine⟨⟨by omega,by omega⟩,?_⟩;refine zB (some [nx+3,nx+4,nx+6]) (Row.pures [0,1,2,3,4,5,6] (.alt 7 (.done) .stop)) mixed trivial ?_;refine⟨by rfl,(Ya (.inl rfl) underlying384 underlying3 rfl rfl rfl DC f1 ?_)⟩;rw[yh _ DB DC,show nx+2-nx=2 from by omega];refine⟨by simp[yH],jp trivial ?_⟩;refine zg ?_;exact zv (k+1,T++[[s]],qK (qH s.c) (I k) es rs,qM g s.c (some (k:Int)),v5+1) [_] ⟨hq,hTs,hnew,hIn⟩ DF (by simp[zA k (by omega)]) rfl DD
 ·simp at hq;obtain rfl:k=ss.length:=DB
  rw[Ag]at hT hI;refine zC ?_
  repeat apply ze
  refine zg ?_;refine zu (ZlT x ss) ?_;refine zn (Js (xs:=(qQ x (ss.map (·.c))).map XB) (σ:=zr × Int × List (Value × PV) × (Int->Option Int)) (λi s=>(s.1,s.2.1)=YT x ss i/\i<=(qQ x (ss.map (·.c))).length/\MapIs qH I s.2.2.1 s.2.2.2/\JI ss s.1 s.2.2.2/\(ss.length:Int)-i<=s.2.1/\s.2.1<=ss.length) [(4,.ptr (nx+1) v1 0),(5,.ptr (nx+4) v4 0)] (λ_=>S)
   (λ(T,num,es,g)=>[.cells v0 25 (zD x),.cells v1 39 [.sc (.slice none 0 0)],.map v2 es,.cells v3 387 (Jz x (nx+5) v5 ss.length num (nx+2) v2),.cells v4 383 [.ptr (nx+3) v3 0],.cells v5 40 (T.flatMap Enc.enc)]) (T,(ss.length:Int),es,g)
   (ZlU x ss hx DB hs hnd) rfl (by intro x hx;obtain⟨y,_,rfl⟩:=Ar.1 hx;rfl) DH DC ⟨by rw[ZlW,hT],by simp,hm,hI,by simp,by simp⟩ rfl DC DC ?_ ?_)
  ·clear hm hI hT hTl;rintro l i ⟨T,num,es,g⟩ more y ⟨hst,hi,hm,hI,hn1,hn2⟩ hy;simp only at hst hi hm hI hn1 hn2 ⊢;rw[Ah]at hy;obtain⟨p,hp,rfl⟩:=Am.1 hy;obtain⟨hil,hpi⟩:=Ac.1 hp;have hmem:=W6.1 ((QH x _).subset (Ab hp));have hsucc:=ZlX hp;rw[<-hst]at hsucc;obtain⟨nb1,nb2⟩:=ZlZ x T num p;refine xk [] DG DG λK Gc Gh hK hGc hGh X hX0 hX=>?_
   simp -implicitDefEqProofs [hX0,hX,XB]
   try clear hX0 hX X
   intro v6;refine hK _ _ _ ?_;clear hK hGc hGh;clear K Gc Gh;refine zn (zg ?_);refine λhsuf=>((Zlm x ss T g num es hxc hss DB hI hm (jid:=nx+3) (tid:=nx+5) (mid:=nx+2) (by rw[z7];rfl) (by rw[z7];rfl) (by rw[z7];rfl) DB DB DB p hmem.1 hmem.2.1).mono ?_).v
   rintro _ _ ⟨es2,g2,m2,i2,rfl⟩;refine⟨_,_,(by rw[yh _ (by omega) (by simp),yh _ (by omega) (by simp),yh _ (by omega) (by simp)]),jy [] (zF (show nx+3-nx=3 from by omega) (show nx+5-nx=5 from by omega) (show nx+2-nx=2 from by omega)) hsuf ?_⟩;simp only[jx];exact wB ((qW x (T,num) p).1,(qW x (T,num) p).2,es2,g2) [_] ⟨hsucc.symm,by omega,m2,i2,by simp only;omega,by simp only;omega⟩ rfl DD
  ·clear hm hI hT hTl;rintro⟨T,num,es,g⟩ ⟨hst,-,hm,hI,-,-⟩;simp only[List.length_map]at hst hI ⊢;rw[ZlY]at hst;have hTl:=hI.len;have hjp:wF x ss=T.filter λt=>!t.isEmpty:=by unfold wF;rw[<-hst]
   rw[hjp];refine DK ?_;intro v6;refine jd 6 0 42 1 rfl rfl λv7=>?_
   repeat apply ze
   refine zg ?_;refine zn (zJ (λs:Nat × zr × Nat=>s.1<=T.length/\s.2.1=(T.take s.1).filter λt=>!t.isEmpty) (λ(k,out,v7)=>[(4,.ptr (nx+1) v1 0),(9,.ptr (nx+6) v6 0),(54,.sl (nx+5) v5 1 0 ss.length),(55,I ss.length),(56,I k)]) (λ(k,out,v7)=>[.cells v0 25 (zD x),.cells v1 39 [.sc (.slice none 0 0)],.map v2 es,.cells v3 387 (Jz x (nx+5) v5 ss.length num (nx+2) v2),.cells v4 383 [.ptr (nx+3) v3 0],.cells v5 40 (T.flatMap Enc.enc),.cells v6 39 [.sl (nx+7) v7 1 0 out.length],.cells v7 42 (out.flatMap Enc.enc)]) (λs=>T.length-s.1) (0,[],v7) [] ⟨by simp,by simp⟩ DC DC ?_);rintro⟨k,out,v7⟩ ⟨hk,ho⟩;simp only at hk ho ⊢;have hol:out.length<=k:=by rw[ho];exact AB (Bx _ _) DF
   refine DK ?_;refine ze (zz rfl (λhq=>?_) (λhq=>?_))
   ·simp at hq;obtain⟨t,tl,a1,a2,a3,e0⟩:=zL rfl T k DB;have hfs:(T.take (k+1)).filter (λt=>!t.isEmpty)=out++(if t=[] then [] else [t]):=by
     rw[a3,BX,<-ho];cases t<;>simp
    refine zk (ze (zn (ze (zi [] (zF e0 hq hTl) ?_))));refine DK ?_;cases t with
    | nil =>
     rw[if_pos rfl,AF]at hfs;refine zp DC ?_;refine zk (zg ?_);exact zv (k+1,out,v7) [] ⟨by omega,hfs.symm⟩ DF (by simp[zA k (by omega)]) rfl DC
    | cons s t =>
     rw[if_neg DC]at hfs;refine zo DC ?_;refine zg ?_;refine⟨by omega,?_⟩;refine zg ?_;exact zv (k+1,out++[s :: t],v7+1) [] ⟨by omega,hfs.symm⟩ DF (by simp[zA k (by omega)]) rfl DC
   ·simp at hq;obtain rfl:k=T.length:=DB
    rw[Ag]at ho;refine zC (yb 7 rfl ?_);refine DK ?_;exact zj (zm hd DD (by simp[zq,ho]))
open Go Hp
abbrev yr:PV:=.sc (.slice none 0 0)
open Go Hp
def QJ(pl:PV):Prop:=pl=yr\/∃n cs,pl=.lst n cs
theorem QK(l:List Stop):QJ (L l):=.inr ⟨_,_,rfl⟩
abbrev JA(x:Inst)(b:Int):PV:=.fn (.func 312) [] [.ip (zD x),.ip [I b]]
abbrev fsL(x:Inst)(pl:PV)(b:Int):List PV:=[.fn (.func 313) [] [.ip [pl]],.fn (.func 315) [] [.ip [JA x b],.ip (zD x),.ip [pl]],.fn (.func 317) [] [.ip [JA x b],.ip [pl]],.fn (.func 318) [] [.ip (zD x),.ip [pl],.ip [JA x b]]]
theorem Zl1(x:Inst)(pl:PV)(b:Int)(hp:QJ pl):Pure prog 285 [.agg (zD x),pl,I b] (.fn (.func 320) [] [.ip [.lst 4 (fsL x pl b)]]):=by
 rcases hp with rfl | ⟨n,cs,rfl⟩
 all_goals
  refine zx func285 ntmps285 results285 λS nx hd=>?_
  refine DK ?_;intro v0 v1 v2;refine xI 0 rfl ?_;refine xI 1 rfl ?_;refine xI 2 rfl ?_;refine DK ?_;intro v3;refine xI 3 rfl ?_;refine DK ?_;intro v4;refine xI 4 rfl ?_;refine DK ?_;exact DL hd
theorem Zl2(pl:PV)(d:zr)(hp:QJ pl)(hA:Pure prog 314 [pl] (.agg [L d])):Pure prog 313 [.ip [pl]] (.tup [.agg [L d],B true]):=by
 rcases hp with rfl | ⟨n,cs,rfl⟩
 all_goals
  refine zx func313 ntmps313 results313 λS nx hd=>?_
  refine DK ?_;intro v0;refine DK ?_;refine zu hA ?_;exact DL hd
theorem Zbf(x:Inst)(b:Int)(d e:zr)(n:Int)(hI:Pure prog 252 [.agg (zD x),.agg [L d],I b] (.tup [.agg [L e],I n])):Pure prog 312 [.agg [L d],.ip (zD x),.ip [I b]] (.agg [L e]):=by
 refine zx func312 ntmps312 results312 λS nx hd=>?_
 refine DK ?_;intro v0 v1;refine DK ?_;refine zu hI ?_;refine DK ?_;exact DL hd
theorem Zl3(x:Inst)(pl:PV)(b:Int)(d e:zr)(n:Int)(hp:QJ pl)(hJ:Pure prog 316 [.agg (zD x),pl] (.agg [L d]))(hI:Pure prog 252 [.agg (zD x),.agg [L d],I b] (.tup [.agg [L e],I n])):Pure prog 315 [.ip [JA x b],.ip (zD x),.ip [pl]] (.tup [.agg [L e],B true]):=by
 have hF:=Zbf x b d e n hI;rcases hp with rfl | ⟨n,cs,rfl⟩
 all_goals
  refine zx func315 ntmps315 results315 λS nx hd=>?_
  refine DK ?_;intro v0;refine ze (zB (some []) (Row.pures [0,1,2,3,4] (.alt 5 (Row.pures [6] .done) .stop)) mixed trivial ?_);refine zP (hJ) trivial ?_;refine zP (hF) trivial ?_;exact DL hd
theorem Zl4(x:Inst)(pl:PV)(b:Int)(d e:zr)(n:Int)(hp:QJ pl)(hA:Pure prog 314 [pl] (.agg [L d]))(hI:Pure prog 252 [.agg (zD x),.agg [L d],I b] (.tup [.agg [L e],I n])):Pure prog 317 [.ip [JA x b],.ip [pl]] (.tup [.agg [L e],B true]):=by
 have hF:=Zbf x b d e n hI;rcases hp with rfl | ⟨n,cs,rfl⟩
 all_goals
  refine zx func317 ntmps317 results317 λS nx hd=>?_
  refine DK ?_;intro v0;refine ze (zB (some []) (Row.pures [0,1,2,3] (.alt 4 (Row.pures [5] .done) .stop)) mixed trivial ?_);refine zP (hA) trivial ?_;refine zP (hF) trivial ?_;exact DL hd
theorem ZeG(x:Inst)(pl:PV)(b:Int)(d e:zr)(ok:Bool)(n:Int)(hp:QJ pl)(hR:Pure prog 319 [.agg (zD x),pl] (.tup [.agg [L d],B ok]))(hI:ok=true->Pure prog 252 [.agg (zD x),.agg [L d],I b] (.tup [.agg [L e],I n])):
  Pure prog 318 [.ip (zD x),.ip [pl],.ip [JA x b]] (.tup [.agg [bif ok then L e else yr],B ok]):=by
 rcases hp with rfl | ⟨n,cs,rfl⟩
 all_goals
  cases ok with
  | false =>
   refine zx func318 ntmps318 results318 λS nx hd=>?_
   refine DK ?_;intro v0;refine DK ?_;refine zu hR ?_;intro v1
   repeat apply ze
   refine zg ?_;refine zo rfl (DK ?_);exact DL hd
  | true =>
   have hF:=Zbf x b d e _ (hI rfl);refine zx func318 ntmps318 results318 λS nx hd=>?_
   refine DK ?_;intro v0;refine DK ?_;refine zu hR ?_;intro v1
   repeat apply ze
   refine zg ?_;refine zp rfl (zk (DK ?_));refine zu hF ?_;exact DL hd
theorem Zl5(fs:List PV)(rs:List (Option zr))(hl:rs.length=fs.length)(hn:fs.length<=1000)
  (h:∀(k:Nat) f,fs[k]?=some f->∃fk caps p,f=.fn (.func fk) [] caps/\Pure prog fk caps (.tup [.agg [p],B (rs.getD k none).isSome])/\∀d,rs.getD k none=some d->p=L d) :
  YM prog 320 [.ip [.lst fs.length fs]] ((rs.filterMap id).map λd=>[.agg [L d]]):=by
 refine Xo func320 DG rfl ntmps320 (congrArg Array.toList results320) DC λl V keep nx J hJd hY A0 hA0=>?_
 refine DK ?_;refine zn (jo (σ:=Nat × Store) (λs=>s.1<=fs.length/\J ((rs.take s.1).filterMap id).length s.2) (λs=>[(0,jH l),(7,.lst fs.length fs),(8,I fs.length),(9,I s.1)]) (λs=>s.2) (λs=>[]) (λs=>fs.length-s.1) (zT (0,A0) [] (by simp[hA0]) DC rfl DC) ?_);rintro⟨k,A⟩ ⟨hk,hJ⟩;simp only at hk hJ ⊢;refine DK ?_;refine ze (zz rfl (λhc=>?_) (λhc=>?_))
 ·simp at hc;have e0:fs.drop k=fs[k] :: fs.drop (k+1):=AJ hc;obtain⟨fk,caps,p,hf,hP,hd⟩:=h k fs[k] (Ad hc);rw[hf]at e0;have hkr:k<rs.length:=DB
  have htk:rs.take (k+1)=rs.take k++[rs[k]]:=AO hkr;have hg:rs.getD k none=rs[k]:=by rw[Aa,Ad hkr];rfl
  rw[hg]at hP hd;refine zk (ze (zn (ze (zi [] (zt e0 hc) ?_))));cases hr:rs[k] with
  | none =>
   rw[hr]at hP htk;simp only[CA]at hP;have hlen:((rs.take (k+1)).filterMap id).length=((rs.take k).filterMap id).length:=by rw[htk];simp
   refine DK ?_;refine zu hP ?_;intro v0;refine ze (zi [(1,19)] zy ?_);refine zp rfl (zk (zg ?_));exact zv (k+1,A) [_] ⟨hc,by rw[hlen];exact hJ⟩ DF (by simp[zA k (by omega)]) rfl DD
  | some d =>
   obtain rfl:=hd d hr;rw[hr]at hP htk;simp only[Option.isSome_some]at hP;have hlen:((rs.take (k+1)).filterMap id).length=((rs.take k).filterMap id).length+1:=by rw[htk];simp
   have hx:((rs.filterMap id).map λd=>[PV.agg [L d]])[((rs.take k).filterMap id).length]?=some [PV.agg [L d]]:=by
    have e1:rs.filterMap id=(rs.take k).filterMap id++(d :: (rs.drop (k+1)).filterMap id):=by
     conv=>lhs;rw[<-List.take_append_drop k rs,AJ hkr,hr]
     simp
    rw[Ah,e1,Ai (Af _),Bp];rfl
   refine DK ?_;refine zu hP ?_;intro v0;refine ze (zi [(1,19)] trivial ?_);refine λhsuf=>Jr rfl rfl rfl (hY _ _ _ _ hx hJ) ?_
   rintro _ ⟨A',hJ',rfl⟩;refine⟨_,_,rfl,jy [(1,19)] trivial hsuf ?_⟩;refine zp rfl (zk (zg ?_));exact zv (k+1,A') [_] ⟨hc,by rw[hlen];exact hJ'⟩ DF (by simp[zA k (by omega)]) rfl DD
 ·simp at hc;obtain rfl:k=fs.length:=DB
  rw[<-hl,Ag]at hJ;refine zC (uD (hJd _ _ hJ) rfl ?_);simpa using hJ
def w8(x:Inst)(st:zr × Int × Bool)(d:zr):zr × Int × Bool:=if yv x d=0 then (if st.2.2=false\/W (yA x d)<st.2.1 then (d,W (yA x d),true) else st) else st
def YU(x:Inst)(ds:List zr):zr × Int × Bool:=ds.foldl (w8 x) ([],0,false)
open Go Hp
theorem Zl6{K:(Nat->PV)->Store->Prop}{Q:Exit->(Nat->PV)->Store->Prop}{i:Nat}{F:Nat->PV}{S:Store}(h:Q (.exit i) F S):Z6 K Q (.exit i) F S:=h
theorem Zl7{Q:Exit->(Nat->PV)->Store->Prop}{i:Nat}{F:Nat->PV}{S:Store}(h:Q .normal F S):jx i Q (.exit i) F S:=by simp[jx,h]
def w9(x:Inst)(e:Int)(ds:List zr):zr × Int:=if e=0 then (bif (YU x ds).2.2 then ((YU x ds).1,0) else ([],14)) else ([],e)
theorem ZeH(x:Inst)(pl:PV)(b e:Int)(ds:List zr)(hp:QJ pl)(hx:x.cust.length<=1048576)(hF:Pure prog 284 [.agg (zD x),pl] (I e))
  (hit:e=0->YM prog 320 [.ip [.lst 4 (fsL x pl b)]] (ds.map λd=>[.agg [L d]])) (hds:e=0->∀d∈ds,DayOk d/\d.flatten.length<=1048576) :
  Pure prog 249 [.agg (zD x),pl,I b] (.tup [.agg [L (w9 x e ds).1],I (w9 x e ds).2]):=by
 have hT:=Zl1 x pl b hp;refine zx func249 ntmps249 results249 λS nx hd=>?_
 refine DK ?_;intro v0 v1
 repeat apply ze
 refine zg ?_;refine zu hF ?_
 by_cases he:e=0
 case neg =>
  refine DK ?_;refine zo (by simp[he]) ?_;refine DK ?_;refine yf 1 0 rfl rfl ?_;exact zj (zm hd DD (by simp[w9,he,zq]))
 subst he;have hit:=hit rfl;have hds:=hds rfl;refine DK ?_;refine zp DC ?_;refine zk (DK ?_);intro v2 v3 v4;refine yf 2 0 rfl rfl ?_
 repeat apply ze
 refine zg ?_;refine zu hT ?_;refine zn (Js (xs:=ds.map λd=>[PV.agg [L d]]) (σ:=zr × Int × Bool) (λi s=>s=(ds.take i).foldl (w8 x) ([],0,false)/\i<=ds.length) [(3,.ptr nx v0 0),(6,.ptr (nx+1) v1 0),(7,I 0),(9,.ptr (nx+2) v2 0),(10,.ptr (nx+3) v3 0),(11,.ptr (nx+4) v4 0)] (λ_=>S)
  (λ(best,least,found)=>[.cells v0 25 (zD x),.cells v1 39 [yr],.cells v2 39 [L best],.cells v3 3 [I least],.cells v4 4 [B found]]) ([],0,false)
  hit rfl (by intro x hx;obtain⟨y,_,rfl⟩:=Ar.1 hx;rfl) DH DC ⟨by simp,by simp⟩ rfl DC DC ?_ ?_)
 ·rintro l i ⟨best,least,found⟩ more y ⟨hst,hi⟩ hy;simp only at hst hi ⊢;rw[Ah]at hy;obtain⟨d,hd',rfl⟩:=Am.1 hy;obtain⟨hil,hdi⟩:=Ac.1 hd';obtain⟨hdo,hdf⟩:=hds d (Ab hd');have hday:=ZaU x d hx hdo.1 hdo.2 hdf;have hcost:=Jx x d hdo;have hsucc:(ds.take (i+1)).foldl (w8 x) ([],0,false)=w8 x (best,least,found) d:=by
   rw[AO hil,hdi,Bo,<-hst];rfl
  unfold w8 at hsucc;simp only at hsucc;refine zg ?_;intro v5;refine zn ?_
  repeat apply ze
  refine zg ?_;refine zu hday ?_
  by_cases h1:yv x d=0
  ·rw[if_pos h1]at hsucc;refine zp (by simp[h1]) ?_;refine zk (DK ?_);refine zu hcost ?_;generalize W (yA x d)=c at *;cases found with
   | false =>
    rw[if_pos (.inl rfl)]at hsucc;refine ze (zi [(2,36)] zy ?_);refine zo rfl (zg ?_);simp only[jx];exact wB (d,c,true) [_] ⟨hsucc.symm,by omega⟩ rfl DD
   | true =>
    by_cases h2:c<least
    ·rw[if_pos (.inr h2)]at hsucc;refine ze (zi [(2,36)] (zt h2 zy) ?_);refine zo rfl (zg ?_);simp only[jx];exact wB (d,c,true) [_] ⟨hsucc.symm,by omega⟩ rfl DD
    ·rw[if_neg (by simp[h2])]at hsucc;refine ze (zi [(2,36)] (zt h2 zy) ?_);refine zp rfl (zk ?_);simp only[jx];exact wB (best,least,true) [_] ⟨hsucc.symm,by omega⟩ rfl DD
  ·rw[if_neg h1]at hsucc;refine zo (by simp[h1]) ?_;refine zC (Zl6 (Zl7 ?_));exact wB (best,least,found) [_] ⟨hsucc.symm,by omega⟩ rfl DD
 ·rintro⟨best,least,found⟩ ⟨hst,-⟩;simp only[List.length_map,Ag]at hst ⊢;have hz:YU x ds=(best,least,found):=hst.symm;cases found with
  | false =>
   repeat apply ze
   refine zg ?_;refine zo rfl (DK ?_);refine yf 1 0 rfl rfl ?_;exact zj (zm hd DD (by simp[w9,hz,zq]))
  | true =>
   repeat apply ze
   refine zg ?_;refine zp rfl (zk (DK ?_));exact zj (zm hd DD (by simp[w9,hz,zq]))
open Go Hp
theorem ZeI(lk:List PV)(s:Stop)(hl:lk.length=13):Pure prog 336 [.agg lk,.agg [I s.c,I s.q]] (.fn (.func 352) [] [.ip [I s.c,I s.q],.ip lk]):=by
 refine zx func336 ntmps336 results336 λS nx hd=>?_
 refine ze (zi [] hl ?_);intro v0 v1;refine DK ?_;refine xI 0 rfl ?_;refine xI 1 rfl ?_;exact DL hd
open Go Go.Lib Go.Proofs
theorem QL:ElemOk prog 40 100 (.agg #[.int .i64 0,.int .i64 0]) 16 :=
 ⟨underlying40,by simp,by simp,by simp,by simp,by omega⟩
theorem ZeJ(a:Addr)(n c:Nat)(w W2:World)(u:Value)(hrz:∀ty,(Builtin.append_ #[40,40] ty #[.slice (some ⟨w.heap.size,0,none⟩) 0 0,.slice (some a) n c]).run prog (w.alloc (.cells #[] 100))=.ok u W2):
  Calls prog 290 #[.slice (some a) n c] w λe w'=>e=.returned u/\w'=W2:=by
 have mixed:prog.follows .mixedOrders=true:=DE
 have q22:∀(w:World) (a:Option Addr) (n c n' c':Nat),(binOp .eql 40 (.slice a n c) (.slice none n' c')).run prog w=.ok (.bool a.isNone) w:=λw a n c n' c'=>Lib.run_eql_slice_nil w _ _ a n c n' c' underlying40
 go_enter func290,ntmps290
 go_wp2_with (at_builtin;refine Lib.wpList_append_run _ rfl _ _ _ _ rfl _ _ rfl rfl _ _ (hrz _) ?_)
 go_wp2
 go_ret
 exact⟨rfl,rfl⟩
theorem Zl8(n c:Nat)(w:World):
  Calls prog 290 #[.slice none n c] w λe w'=>e=.returned (.slice none 0 0)/\w'=w:=by
 have mixed:prog.follows .mixedOrders=true:=DE
 have q22:∀(w:World) (a:Option Addr) (n c n' c':Nat),(binOp .eql 40 (.slice a n c) (.slice none n' c')).run prog w=.ok (.bool a.isNone) w:=λw a n c n' c'=>Lib.run_eql_slice_nil w _ _ a n c n' c' underlying40
 go_enter func290,ntmps290
 go_wp2
 go_ret
 exact⟨rfl,rfl⟩
theorem Zbg(l:List Stop)(h0:0<l.length)(hn:l.length<=1048576)(S:Store)(nx:Nat)(hd:S nx=.dead):
  Spec prog 290 [L l] S (λp S'=>∃v,p=.sl nx v 2 0 l.length/\S'=S.set nx (.cells v 100 (l.flatMap Enc.enc))):=by
 refine⟨qb func290 DG rfl,?_⟩;intro C w vs hS hl hr;obtain⟨u,rfl⟩:=ZaQ hl;have hu:Rel C S w (.lst l.length (l.flatMap Enc.enc)) u:=hr 0 _ u rfl rfl;obtain⟨a,cap,rfl⟩:∃a cap,u=.slice (some a) l.length cap:=by
  generalize hq:l.flatMap Enc.enc=cs at hu;generalize l.length=n at *;cases hu with
  | lst0=>omega
  | lst1=>exact⟨_,_,rfl⟩
 obtain⟨k1,j1,m1⟩:=hS.alloc (.cells #[] 100);have hc:prog.cellsOf 100=2:=DC
 obtain⟨news,hsrc,hrel,_⟩:=WJ (P:=prog) (sz:=2) (m:=l.length) (ds:=l.flatMap Enc.enc) k1 (by simp[Zq]) (hu.mono j1);rw[<-hc]at hsrc;have hrun:=λty=>WI (P:=prog) (ty:=ty) (b:=some ⟨w.heap.size,0,none⟩) (k:=0) (cap:=0) (olds:=[]) QL.ty QL.pos QL.zero QL.bytes hsrc (run_firstCells_some _ _ 0 ⟨w.heap.size,0,none⟩ 0 0 [] DC DC) DB DB QL.bpos
 simp only[AQ]at hrun;refine(ZeJ a l.length cap w _ _ hrun).mono ?_;rintro e w' ⟨rfl,rfl⟩;have hge:=grownCap_ge (w.alloc (.cells #[] 100)) l.length 0 100;obtain⟨d1,d2⟩:=k1.drew;have hfr:Fresh C S nx C.clock:=.clock C hd;have hra:=Xj (cs:=[]) (vs:=[]) (by simp[RelL]) hrel (Builtin.zeroCells (Value.agg #[.int .i64 0,.int .i64 0]).cells (grownCap (w.alloc (.cells #[] 100)) l.length 0 100-l.length)).toList;simp only[AM]at hra;have hget:∀i:Nat,(([]:List Value).toArray++news.toArray++Builtin.zeroCells (Value.agg #[.int .i64 0,.int .i64 0]).cells (grownCap (w.alloc (.cells #[] 100)) l.length 0 100-l.length):Array Value)[i]?=(news++(Builtin.zeroCells (Value.agg #[.int .i64 0,.int .i64 0]).cells (grownCap (w.alloc (.cells #[] 100)) l.length 0 100-l.length)).toList)[i]?:=by
  intro i;rw[<-Array.getElem?_toList];simp
 obtain⟨t1,t2⟩:=d1.object' hfr 100 (([]:List Value).toArray++news.toArray++Builtin.zeroCells (Value.agg #[.int .i64 0,.int .i64 0]).cells (grownCap (w.alloc (.cells #[] 100)) l.length 0 100-l.length)) (l.flatMap Enc.enc) (by have:=hra.1;simp at this ⊢;omega) (λi v hi hv=>hra.2.1 i v hi (by rw[<-hget];exact hv)) (λi p v hp hv=>(hra.2.2 i p v hp (by rw[<-hget];exact hv)).mono d2);refine⟨_,_,_,_,rfl,⟨C.clock,rfl,rfl⟩,Xi C S _ _ _ _ _ _ _ _ _ rfl hge (AB hn (by unfold jT;omega)) (grownCap_le_maxLen _ _ _ _ (by unfold maxLen;omega)) ?_,t1,j1.trans (d2.trans t2)⟩;have:=hsrc.size;simp only[Ch,size_zeroCells,BG,this,hc];simp[Value.cells];omega
theorem Vb(l:List Stop)(hn:l.length<=1048576):Pure prog 290 [L l] (L l):=by
 by_cases h0:0<l.length
 ·exact WS 0 (λS nx hd=>Zbg l h0 hn S nx (hd nx (Af _))) DC
 ·obtain rfl:l=[]:=Ap DB;intro S;refine⟨qb func290 DG rfl,?_⟩;intro C w vs hS hl hr;obtain⟨u,rfl⟩:=ZaQ hl;have hu:Rel C S w (.lst 0 []) u:=hr 0 _ u rfl rfl;obtain⟨a,cap,rfl⟩:∃a cap,u=.slice a 0 cap:=by
   cases hu with
   | lst0=>exact⟨_,_,rfl⟩
   | lst1=>exact⟨_,_,rfl⟩
  cases a with
  | none =>
   refine(Zl8 0 cap w).mono ?_;rintro e w' ⟨rfl,rfl⟩;exact⟨_,_,_,_,rfl,⟨rfl,rfl⟩,.lst0,hS,.refl _ _ _⟩
  | some a =>
   obtain⟨k1,j1,m1⟩:=hS.alloc (.cells #[] 100);have hc:prog.cellsOf 100=2:=DC
   obtain⟨news,hsrc,hrel,_⟩:=WJ (P:=prog) (sz:=2) (m:=0) (ds:=[]) k1 (by simp[Zq]) (hu.mono j1);have hne:news=[]:=Ap (by rw[hsrc.size,CI]);subst hne;rw[<-hc]at hsrc;have hrun:=λty=>Zau (P:=prog) (ty:=ty) (b:=some ⟨w.heap.size,0,none⟩) (k:=0) (cap:=0) QL.ty QL.pos hsrc (Af 0)
   refine(ZeJ a 0 cap w _ _ hrun).mono ?_;rintro e w' ⟨rfl,rfl⟩;exact⟨_,_,_,_,rfl,⟨rfl,rfl⟩,.lst0,k1,j1⟩
theorem Zl9{S:Store}{id ver:Nat}(cs:List Stop)(s:Stop)(hn:cs.length<=1000000)(hid:S id=.cells ver 100 (cs.flatMap Enc.enc)):
  Spec prog 338 [.sl id ver 2 0 cs.length,I cs.length,L [s]] S (λp S'=>p=.sl id (ver+1) 2 0 (cs.length+1)/\S'=S.set id (.cells (ver+1) 100 ((cs++[s]).flatMap Enc.enc))):=by
 refine yi func338 ntmps338 results338 λnx hd=>?_
 have hlt:id<nx:=by
  rcases Be id nx with h | h
  ·exact h
  ·have:=hd id h;rw[hid]at this;cases this
 have hx:=λobs=>(zE (S:=S) (obs:=obs) hlt).trans hid
 have hlt1:¬nx<=id:=DB
 refine ze (zi [] hx ?_);refine ze (zi [] hx ?_);refine ze (zi [] hx ?_)
 repeat apply ze
 refine zi [] hx ?_;refine zp rfl (zk (ze (zi [] hx ?_)))
 repeat apply ze
 refine zi [] hx ?_;refine zo rfl (ze (zi [] (zt hx hlt1) ?_));refine⟨by omega,?_⟩;have hdd:∀(o:Ob),zX nx (S.set id o):=by
  intro o q hq;rw[q10 _ _ _ _ DB];exact hd q hq
 exact zj ⟨_,_,by simp;rfl,⟨by simp[zq],by simp⟩,zU (hdd _)⟩
theorem Zma{S:Store}{id ver:Nat}(cs:List Stop)(i:Nat)(s:Stop)(hi:i<=cs.length)(hn:cs.length<=1000000)(hid:S id=.cells ver 100 (cs.flatMap Enc.enc)):
  Spec prog 338 [.sl id ver 2 0 cs.length,I i,L [s]] S (λp S'=>p=.sl id (ver+1) 2 0 (cs.length+1)/\S'=S.set id (.cells (ver+1) 100 ((cs.take i++s :: cs.drop i).flatMap Enc.enc))):=by
 by_cases h:i=cs.length
 ·subst h;rw[Ag,BF];exact Zl9 cs s hn hid
 ·exact Zj9 cs i s DB hn hid
open Go Go.Proofs
def QM(d:zr)(t nx:Nat)(k:Nat)(ts:List PV)(ob:Ob):Prop :=
 ts.length=k/\(k<=t->ts=(d.take k).flatMap Enc.enc/\ob=.dead) /\
 (t<k->∃v l,d[t]?=some l/\ts=((d.take k).flatMap Enc.enc).set t (.sl (nx+4) v 2 0 l.length)/\ob=.cells v 100 (l.flatMap Enc.enc))
theorem Zmb{d:zr}{t nx k:Nat}{ts:List PV}{ob:Ob}(h:QM d t nx k ts ob)(hk:k<d.length)(ht:k≠t):QM d t nx (k+1) (ts++[L d[k]]) ob:=by
 obtain⟨h1,h2,h3⟩:=h;have e:d.take (k+1)=d.take k++[d[k]]:=AO hk;refine⟨by simp[h1],λhkt=>?_,λhkt=>?_⟩
 ·obtain⟨a,b⟩:=h2 DB;exact⟨by rw[e,a,Al];rfl,b⟩
 ·obtain⟨v,l,a,b,c⟩:=h3 DB;refine⟨v,l,a,?_,c⟩;rw[b,e,Al,List.set_append_left _ _ (by rw[jI];simp;omega)];rfl
theorem Zmc{d:zr}{t nx:Nat}{ts:List PV}{ob:Ob}(h:QM d t nx t ts ob)(hk:t<d.length)(v:Nat):QM d t nx (t+1) (ts++[.sl (nx+4) v 2 0 d[t].length]) (.cells v 100 (d[t].flatMap Enc.enc)):=by
 obtain⟨h1,h2,h3⟩:=h;have e:d.take (t+1)=d.take t++[d[t]]:=AO hk;refine⟨by simp[h1],λhkt=>by omega,λ_=>⟨v,d[t],Ad hk,?_,rfl⟩⟩;obtain⟨a,-⟩:=h2 (Af _);have hl:((d.take t).flatMap Enc.enc).length=t:=by rw[jI];simp;omega
 rw[a,e,Al,Bw _ _ DB,hl,Bp];rfl
theorem Zbh(d:zr)(t:Nat)(hd0:d.length<=1048576)(hd1:∀l∈d,l.length<=1048576)(ht:∀l,d[t]?=some l->0<l.length)(S:Store)(nx:Nat)(hd:zX nx S):
  Spec prog 337 [.agg [L d]] S (λp S'=>∃v ts ob,QM d t nx d.length ts ob/\p=.agg [.sl (nx+3) v 1 0 d.length]/\S'=(S.set (nx+3) (.cells v 42 ts)).set (nx+4) ob):=by
 refine uE hd func337 ntmps337 results337 ?_;refine DK ?_;intro v0 v1;refine DK ?_;intro v2;refine jd 2 0 42 1 rfl rfl λv3=>?_
 repeat apply ze
 refine zg ?_
 show PW _ _ _ _ _ _ _ (ext _ _ _)
 rw[ZdN 1];refine zn (zJ (λ(s:Nat × List PV × Ob × Nat × Nat)=>s.1<=d.length/\QM d t nx s.1 s.2.1 s.2.2.1) (λ(k,ts,ob,v2,v3)=>[(2,.ptr (nx+1) v1 0),(3,.ptr (nx+2) v2 0),(7,L d),(8,I d.length),(9,I k)]) (λ(k,ts,ob,v2,v3)=>[.cells v0 39 [L d],.cells v1 39 [yr],.cells v2 39 [.sl (nx+3) v3 1 0 k],.cells v3 42 ts,ob]) (λs=>d.length-s.1) (0,[],.dead,v2,v3) [] ⟨by simp,by simp[QM]⟩ DC DC ?_);rintro⟨k,ts,ob,v2,v3⟩ ⟨hk,hI⟩;simp only at hk hI ⊢;have htl:=hI.1;have htk:ts.take k=ts:=Ae DB;refine DK ?_;refine ze (zz rfl (λhc=>?_) (λhc=>?_))
 ·simp at hc;obtain⟨l,tl,a1,a2,a3,e0⟩:=zL rfl d k hc;obtain⟨hkl,rfl⟩:=Ac.1 a1;have hk1:1<=d.length-k:=DB
  refine zk (ze (zn (ze (zi [] (zF hc e0 hk1) ?_))));intro v5
  by_cases hkt:k=t
  ·subst hkt;have hcl:=Zbg d[k] (ht _ a1) (hd1 _ (A8 hkl));obtain rfl:=(hI.2.1 (Af _)).2;refine zB (some [nx+5]) (Row.pures [0,2,3] (.alt 1 (.alt 4 (Row.pures [5,6] (.alt 7 (Row.pures [8] (.alt 9 (.done) .stop)) .stop)) .stop) (.alt 4 (Row.pures [5,6] (.alt 1 (.alt 7 (Row.pures [8] (.alt 9 (.done) .stop)) .stop) .stop)) .stop))) mixed (zt htl htk) ?_;refine⟨?_,?_⟩
   all_goals
    skip
    refine((hcl _ (nx+4) DC).mono ?_).v;rintro _ _ ⟨v4,rfl,rfl⟩;rw[yh _ DB DC,AE];refine⟨by simp[yH],jp (zt htl htk) ?_⟩;refine⟨by omega,?_⟩;refine zg ?_;exact zv (k+1,_,_,v2,v3+1) [_] ⟨hc,Zmc hI hkl v4⟩ DF (by simp[zA k (by omega)]) rfl DD
  ·have hcl:=Vb d[k] (hd1 _ (A8 hkl));refine zB (some [nx+5]) (Row.pures [0,2,3,4,5,6] (.alt 1 (.alt 7 (Row.pures [8] (.alt 9 (.done) .stop)) .stop) .stop)) mixed (zt htl htk) ?_;refine zP (hcl) (zt htl htk) ?_;refine⟨by omega,?_⟩;refine zg ?_;exact zv (k+1,_,_,v2,v3+1) [_] ⟨hc,Zmb hI hkl hkt⟩ DF (by simp[zA k (by omega)]) rfl DD
 ·simp at hc;obtain rfl:k=d.length:=DB
  refine zC (DK ?_);refine zj ⟨_,(S.set (nx+3) (.cells v3 42 ts)).set (nx+4) ob,by simp;rfl,⟨v3,ts,ob,hI,rfl,rfl⟩,?_⟩;intro o
  by_cases h4:o=nx+4
  ·subst h4;exact .inl (by rw[q11];simp)
  by_cases h3:o=nx+3
  ·subst h3;exact .inl (by rw[q10 _ _ _ _ h4,q11];simp)
  rw[q10 _ _ _ _ h4,q10 _ _ _ _ h3];exact zU hd o
theorem Zmd(d:zr)(hd0:d.length<=1048576)(hd1:∀l∈d,l.length<=1048576):Pure prog 337 [.agg [L d]] (.agg [L d]):=by
 refine ZdM (k:=d.length) (sz:=1) (e:=42) (cs:=d.flatMap Enc.enc) 3 (λS nx hd=>(Zbh d d.length hd0 hd1 DC S nx hd).mono ?_) DC;rintro _ _ ⟨v,ts,ob,⟨h1,h2,-⟩,rfl,rfl⟩;obtain⟨rfl,rfl⟩:=h2 (Af _);rw[Ag];refine⟨v,rfl,?_⟩;funext o
 by_cases h4:o=nx+4
 ·subst h4;rw[q11,q10 _ _ _ _ DB,hd _ DB]
 ·rw[q10 _ _ _ _ h4]
theorem Zme(d:zr)(t:Nat)(l:zO)(hd0:d.length<=1048576)(hd1:∀l∈d,l.length<=1048576)(ht:d[t]?=some l)(hl:0<l.length)(S:Store)(nx:Nat)(hd:zX nx S):
  Spec prog 337 [.agg [L d]] S (λp S'=>∃v w,p=.agg [.sl (nx+3) v 1 0 d.length] /\
   S'=(S.set (nx+3) (.cells v 42 ((d.flatMap Enc.enc).set t (.sl (nx+4) w 2 0 l.length)))).set (nx+4) (.cells w 100 (l.flatMap Enc.enc))):=by
 refine(Zbh d t hd0 hd1 (λm hm=>by rw[ht]at hm;cases hm;exact hl) S nx hd).mono ?_;rintro _ _ ⟨v,ts,ob,⟨h1,-,h3⟩,rfl,rfl⟩;obtain⟨w,m,hm,rfl,rfl⟩:=h3 (Ac.1 ht).1;rw[ht]at hm;cases hm;rw[Ag];exact⟨v,w,rfl,rfl⟩
open Go Go.Proofs
def jr(x:Inst)(t:zO):Int:=W (yE x (t.map (·.c)))
def jg(t:zO):Int:=W (zY t)
def yV(x:Inst)(d:zr):Nat:=(d.filter λt=>decide (zV x t≠0)).length
theorem Zmf(x:Inst)(d e:zr):yV x (d++e)=yV x d+yV x e:=by simp[yV]
theorem Zmg(x:Inst)(t:zO):yV x [t]=if zV x t=0 then 0 else 1:=by
 by_cases h:zV x t=0<;>simp[yV,h]
theorem ZeK(x:Inst)(d:zr):yV x d<=d.length:=Bx _ _
abbrev uY(x:Inst)(d:zr):List PV:=[I x.days,I x.veh,I x.cap,I x.len,L x.cust,L x.dist,L d,L (yS (d.flatten.map (·.c))),B (decide (¬(yS (d.flatten.map (·.c))).Nodup)),L (d.map (zV x)),I (yV x d),L (d.map jg),L (d.map (jr x))]
theorem ZeL(x:Inst)(d:zr)(hx:x.cust.length<=1048576)(hdo:DayOk d)(hf:d.flatten.length<=1048576):Pure prog 333 [.agg (zD x),.agg [L d]] (.agg (uY x d)):=by
 have h1:=Zd9 d hdo.1 hf;have h2:=Zeh d.flatten hf;have h3:=Zeg (yS (d.flatten.map (·.c))) (by rw[YO,List.length_map];exact hf) (Xt _);generalize hon:yS (d.flatten.map (·.c))=on at *;generalize htw:decide (¬on.Nodup)=tw at *;refine zx func333 ntmps333 results333 λS nx hd=>?_
 refine DK ?_;intro v0 v1 v2;refine ze (zB (some [nx,nx+1]) (Row.pures [0,1,2,3,4,5] (.alt 6 (.alt 7 (.done) .stop) .stop)) mixed trivial ?_);refine zP (h1) trivial ?_;refine zP (h2) trivial ?_;intro v3;refine DK ?_;refine zu h3 ?_
 repeat apply ze
 refine zg ?_;refine jd 3 9 47 1 rfl rfl λv4=>?_
 refine jd 3 11 3 1 rfl rfl λv5=>?_
 refine jd 3 12 3 1 rfl rfl λv6=>?_
 refine zn (zJ (λ(k,v4,v5,v6)=>k<=d.length) (λ(k,v4,v5,v6)=>[(2,.ptr nx v0 0),(4,.ptr (nx+2) v2 0),(5,.ptr (nx+3) v3 0),(20,L d),(21,I d.length),(22,I k)])
  (λ(k,v4,v5,v6)=>[.cells v0 25 (zD x),.cells v1 39 [L d],.cells v2 395 [I 0,I 0,I 0,I 0,yr,yr,yr,yr,B false,yr,I 0,yr,yr],
   .cells v3 395 [I x.days,I x.veh,I x.cap,I x.len,L x.cust,L x.dist,L d,L on,B tw,.sl (nx+4) v4 1 0 k,I (yV x (d.take k)),.sl (nx+5) v5 1 0 k,.sl (nx+6) v6 1 0 k],
   .cells v4 47 (((d.map (zV x)).take k).flatMap Enc.enc),.cells v5 3 (((d.map jg).take k).flatMap Enc.enc),.cells v6 3 (((d.map (jr x)).take k).flatMap Enc.enc)]) (λs=>d.length-s.1) (0,v4,v5,v6) [] DC DC (by simp[yV]) ?_)
 rintro⟨k,v4,v5,v6⟩ hk;simp only at hk ⊢;refine DK ?_;refine ze (zz rfl (λhc=>?_) (λhc=>?_))
 ·simp at hc;obtain⟨t,tl,a1,a2,a3,e0⟩:=zL rfl d k hc;have hk1:1<=d.length-k:=DB
  have htm:=Ab a1;have hm:=Xv x t hx (hdo.t t htm);have hl:=Zd8 t (hdo.t t htm);have hw:=Xs x t (hdo.t t htm) (hdo.s t htm);have b1:yV x (d.take (k+1))=yV x (d.take k)+if zV x t=0 then 0 else 1:=by rw[a3,Zmf,Zmg]
  have b2:=ZeK x (d.take k);rw[As]at b2;have b3:=hdo.n;have b4:=Nat.min_le_left k d.length;have f1:(((d.map (zV x)).take (k+1)).flatMap Enc.enc:List PV)=((d.map (zV x)).take k).flatMap Enc.enc++[I (zV x t)]:=by rw[<-List.map_take,<-List.map_take,a3];simp
  have f2:(((d.map jg).take (k+1)).flatMap Enc.enc:List PV)=((d.map jg).take k).flatMap Enc.enc++[I (W (zY t))]:=by rw[<-List.map_take,<-List.map_take,a3];simp[jg]
  have f3:(((d.map (jr x)).take (k+1)).flatMap Enc.enc:List PV)=((d.map (jr x)).take k).flatMap Enc.enc++[I (W (yE x (t.map (·.c))))]:=by rw[<-List.map_take,<-List.map_take,a3];simp[jr]
  have l1:(((d.map (zV x)).take k).flatMap Enc.enc:List PV).length=k:=by rw[je,As,List.length_map];omega
  have l2:(((d.map jg).take k).flatMap Enc.enc:List PV).length=k:=by rw[je,As,List.length_map];omega
  have l3:(((d.map (jr x)).take k).flatMap Enc.enc:List PV).length=k:=by rw[je,As,List.length_map];omega
  generalize ((d.map (zV x)).take k).flatMap Enc.enc=c1 at *;generalize ((d.map jg).take k).flatMap Enc.enc=c2 at *;generalize ((d.map (jr x)).take k).flatMap Enc.enc=c3 at *;have t1:c1.take k=c1:=Ae DB;have t2:c2.take k=c2:=Ae DB;have t3:c3.take k=c3:=Ae DB;generalize yV x (d.take k)=bn at *;have wb:IntKind.i64.wrap ((bn:Int)+1)=((bn+1:Nat):Int):=zA bn DB;generalize zV x t=mt at *;generalize W (zY t)=lt at *;generalize W (yE x (t.map (·.c)))=wt at *;refine zk (ze (zn (ze (zi [] (zF hc e0 hk1) ?_))));intro v7;refine DK ?_;refine zu hm ?_
  repeat apply ze
  refine zg ?_;refine qE (nx:=nx) (λ_:Unit=>True) (λ_=>[(2,.ptr nx v0 0),(4,.ptr (nx+2) v2 0),(5,.ptr (nx+3) v3 0),(7,.ptr (nx+7) v7 0),(8,I mt),(20,L d),(21,I d.length),(22,I k)]) (λ_=>S) (λ_=>[.cells v0 25 (zD x),.cells v1 39 [L d],.cells v2 395 [I 0,I 0,I 0,I 0,yr,yr,yr,yr,B false,yr,I 0,yr,yr],
   .cells v3 395 [I x.days,I x.veh,I x.cap,I x.len,L x.cust,L x.dist,L d,L on,B tw,.sl (nx+4) v4 1 0 k,I (bn+(if mt=0 then 0 else 1):Nat),.sl (nx+5) v5 1 0 k,.sl (nx+6) v6 1 0 k],
   .cells v4 47 c1,.cells v5 3 c2,.cells v6 3 c3,.cells v7 42 [L t]]) ?_ ?_
  ·repeat apply ze
   refine zz rfl (λhq=>?_) (λhq=>?_)
   ·simp at hq;rw[if_neg hq];refine zi [] wb ?_;exact zT () [] trivial DC rfl DC
   ·simp at hq;rw[if_pos hq];exact zk (zT () [] trivial DC rfl DC)
  ·rintro⟨⟩ -;refine ze (zi [] (zt t1 l1) ?_);refine⟨by omega,?_⟩;refine ze (zB (some [nx+7]) (Row.pures [0,2,3,4] (.alt 1 (.alt 5 (Row.pures [6] (.alt 7 (.done) .stop)) .stop) .stop)) mixed (zt t2 l2) ?_);refine zP (hl) (zt t2 l2) ?_;refine⟨by omega,?_⟩;refine zB (some [nx,nx+7]) (Row.pures [0,2,3,4,5] (.alt 1 (.alt 6 (Row.pures [7] (.alt 8 (.done) .stop)) .stop) .stop)) mixed (zt t3 l3) ?_;refine zP (hw) (zt t3 l3) ?_;refine⟨by omega,?_⟩;refine zg ?_;exact zv (k+1,v4+1,v5+1,v6+1) [_] DF DF (by simp[zA k (by omega)]) rfl (by simp only[f1,f2,f3,b1];simp;rfl)
 ·simp at hc;obtain rfl:k=d.length:=DB
  refine zC (DK ?_);refine yb 6 rfl ?_;refine yb 5 rfl ?_;refine yb 4 rfl ?_;have g1:(d.map (zV x)).take d.length=d.map (zV x):=Ae DC;have g2:(d.map jg).take d.length=d.map jg:=Ae DC;have g3:(d.map (jr x)).take d.length=d.map (jr x):=Ae DC;exact zj (zm hd DD (by simp[zq,g1,g2,g3];simp[<-hon,<-htw]))
open Go Go.Proofs
def Vc(P:Program)(k:FuncId)(args:Nat->List PV)(xs:List (List PV))(ret:PV):Prop :=
 qg P k/\∀(l:Nat) (V:Ctx->Store->World->Prop) (_:∀{C C':Ctx} {S S':Store} {w w':World},Step C S w C' S' w'->V C S w->V C' S' w') (m:Nat) (J:Nat->Store->Prop),(∀i A,J i A->zX m A) ->
  (∀i A obs x,xs[i]?=some x->J i A->PYield P V l x (ext A m obs) (λT=>∃A',J (i+1) A'/\T=ext A' m obs)) ->
  ∀A,J 0 A->PCallsV P V k (args l) A (λp T=>p=ret/\J xs.length T)
theorem ZeM {P : Program} {N : Nat} {f : FuncId} {fn : Func} {c : Code} {rs : List ResultVar} {args : Nat → List PV} {xs : List (List PV)} {ret : PV} (hf : P.funcs[f]? = some fn) (hname : (fn.name == "runtime.NumGoroutine") = false) (hb : fn.body = some c) (hN : fn.ntmps = N) (hrs : fn.results.toList = rs) (hargs : ∀ l, (args l).length ≤ N)
  (h:∀(l:Nat) (V:Ctx->Store->World->Prop) (keep:∀{C C':Ctx} {S S':Store} {w w':World},Step C S w C' S' w'->V C S w->V C' S' w') (nx:Nat) (J:Nat->Store->Prop),(∀i A,J i A->zX nx A) ->
   (∀i A obs x,xs[i]?=some x->J i A->PYield P V l x (ext A nx obs) (λT=>∃A',J (i+1) A'/\T=ext A' nx obs)) ->
   ∀A,J 0 A->PW P ⟨none,V,keep⟩ 0 N c (uV P rs (λp T=>p=ret/\J xs.length T)) (ud (args l)) (ext A nx [])):Vc P f args xs ret:=by
 refine⟨qb hf hname hb,λl V keep m J hJ hY A hA=>?_⟩;have:=h l V keep m J hJ hY A hA;rw[qy (hJ 0 A hA)]at this;exact Zaq hf hb hN hrs (hargs l) this
theorem PYield.mono{P:Program}{V:Ctx->Store->World->Prop}{l:Nat}{args:List PV}{S:Store}{Q Q':Store->Prop}(h:PYield P V l args S Q)(hq:∀T,Q T->Q' T):PYield P V l args S Q':=by
 intro C w vs h1 h2 h3 h4;obtain⟨fn,tmps,assign,body,hy,hR⟩:=h C w vs h1 h2 h3 h4;refine⟨fn,tmps,assign,body,hy,hR.mono ?_⟩;rintro e w' ⟨S',C',a,b,c⟩;exact⟨S',C',a,hq _ b,c⟩
theorem ZeN{P:Program}{k:FuncId}{args:Nat->List PV}{xs:List (List PV)}{ret:PV}(h:Vc P k args xs ret){V:Ctx->Store->World->Prop}(keep:∀{C C':Ctx} {S S':Store} {w w':World},Step C S w C' S' w'->V C S w->V C' S' w')
  {l nx:Nat} {J:Nat->Store->Prop} {ys:List (List PV)} (hY:∀i A obs x,ys[i]?=some x->J i A->PYield P V l x (ext A nx obs) (λT=>∃A',J (i+1) A'/\T=ext A' nx obs))
  (off:Nat) (hxs:∀i x,xs[i]?=some x->ys[off+i]?=some x) {A:Store} (hJ:J off A) (obs:List Ob) :
  SpecV P V k (args l) (ext A nx obs) (λp T=>∃A',p=ret/\J (off+xs.length) A'/\T=ext A' nx obs):=by
 refine⟨h.1,(h.2 l V keep (nx+obs.length) (λi T=>∃A',J (off+i) A'/\T=ext A' nx obs) ?_ ?_ (ext A nx obs) ⟨A,hJ,rfl⟩).mono ?_⟩
 ·rintro i T ⟨A',_,rfl⟩;exact jU
 ·rintro i T more x hx ⟨A1,hJ1,rfl⟩;rw[WU _ _ rfl];refine(hY (off+i) A1 (obs++more) x (hxs i x hx) hJ1).mono ?_;rintro T ⟨A',hA',rfl⟩;exact⟨ext A' nx obs,⟨A',hA',rfl⟩,(WU _ _ rfl).symm⟩
 ·rintro p T ⟨rfl,A',hA',rfl⟩;exact⟨A',rfl,hA',rfl⟩
theorem Vd{P:Program}{nx:Nat}{F:Nat->PV}{obs:List Ob}{rs:List ResultVar}{ps:List PV}{J:Store->Prop}{A:Store}{ret:PV}(hd:zX nx A)(h1:xW P F (ext A nx obs) rs=some ps)(h2:zq ps=ret)(hJ:J A):
  ∃ps S',xW P F (ext A nx obs) rs=some ps/\(zq ps=ret/\J S')/\∀o,S' o=ext A nx obs o\/S' o=.dead:=⟨ps,A,h1,⟨h2,hJ⟩,zU hd⟩
theorem ZeO{α:Type}{f:Nat->Option α}{n k:Nat}{v:α}(hk:k<n)(hf:f k=some v):((List.range n).filterMap f)[((List.range k).filterMap f).length]?=some v:=by
 obtain⟨m,rfl⟩:∃m,n=k+(m+1):=⟨n-k-1,by omega⟩;rw[C5,BR,Ai (Af _),Bp,CC];simp[hf]
theorem ZeP{α:Type}{f:Nat->Option α}{k:Nat}(hf:f k=none):((List.range (k+1)).filterMap f).length=((List.range k).filterMap f).length:=by
 rw[AT,BR];simp[hf]
theorem ZeQ{α:Type}{f:Nat->Option α}{k:Nat}{v:α}(hf:f k=some v):((List.range (k+1)).filterMap f).length=((List.range k).filterMap f).length+1:=by
 rw[AT,BR];simp[hf]
structure Spot where
 t:Nat
 p:Nat
 m:Int
abbrev uZ(s:Spot):List PV:=[.agg [I s.t,I s.p,I s.m]]
def ve(l:zO)(i:Nat):Int:=if i=0 then 0 else (l.getD (i-1) default).c+1
def ui(l:zO)(i:Nat):Int:=if i<l.length then (l.getD i default).c+1 else 0
def uk(x:Inst)(l:zO)(s:Stop)(i:Nat):Int:=W (W (arc x (ve l i) (s.c+1)+arc x (s.c+1) (ui l i))-arc x (ve l i) (ui l i))
def ul(x:Inst)(t:Nat)(l:zO)(w:Int)(s:Stop)(i:Nat):Option Spot:=if W (w+uk x l s i)<=x.len then some ⟨t,i,uk x l s i⟩ else none
def uH(x:Inst)(t:Nat)(l:zO)(fl bad ll w:Int)(s:Stop):List Spot :=
 if 0<bad-(if fl=13 then 1 else 0)\/x.cap<W (ll+s.q) then [] else (List.range (l.length+1)).filterMap (ul x t l w s)
abbrev um(x:Inst)(d:zr)(on:List Int)(tw:Bool)(fs:List Int)(bad:Int)(ls ws:List Int):List PV:=[I x.days,I x.veh,I x.cap,I x.len,L x.cust,L x.dist,L d,L on,B tw,L fs,I bad,L ls,L ws]
theorem Zmh(x:Inst)(d:zr)(on:List Int)(tw:Bool)(fs:List Int)(bad:Nat)(ls ws:List Int)(t:Nat)(l:zO)(s:Stop)(fl ll w:Int)(hbad:bad<=1048576)(hdn:d.length<=1048576)(hd:d[t]?=some l)(hfs:fs[t]?=some fl)(hls:ls[t]?=some ll)(hws:ws[t]?=some w)
  (hfn:fs.length=d.length) (hln:ls.length=d.length) (hwn:ws.length=d.length) (hb:fl=13->0<bad) (hll:l.length<=1048576) (hsl:∀s∈l,y9 s.c) (hss:y9 s.c) :
  Vc prog 354 (λy=>[.agg (um x d on tw fs bad ls ws),I t,.agg [I s.c,I s.q],jH y]) ((uH x t l fl bad ll w s).map uZ) (B true):=by
 refine ZeM func354 DG rfl ntmps354 (congrArg Array.toList results354) DC λy V keep nx J hJd hY A0 hA0=>?_
 have ht:t<d.length:=(Ac.1 hd).1;obtain⟨fl',tf,a1,-,-,ef⟩:=zL rfl fs t DB;obtain⟨ll',tl,a2,-,-,elo⟩:=zL rfl ls t DB;obtain⟨w',tw',a3,-,-,ew⟩:=zL rfl ws t DB;obtain⟨l',td,a4,-,-,ed⟩:=zL rfl d t ht;obtain rfl:fl=fl':=by rw[hfs]at a1;exact Option.some.inj a1
 obtain rfl:ll=ll':=by rw[hls]at a2;exact Option.some.inj a2
 obtain rfl:w=w':=by rw[hws]at a3;exact Option.some.inj a3
 obtain rfl:l=l':=by rw[hd]at a4;exact Option.some.inj a4
 have h1:1<=fs.length-t:=DB
 have h2:1<=ls.length-t:=DB
 have h3:1<=ws.length-t:=DB
 have h4:1<=d.length-t:=DB
 have g1:t<fs.length:=DB
 have g2:t<ls.length:=DB
 have g3:t<ws.length:=DB
 refine DK ?_;intro v0 v1;refine DK ?_
 repeat apply ze
 refine zi [] (zF ef h1 g1) ?_;obtain⟨oth,hoth⟩:∃oth:Int,oth=bad-(if fl=13 then 1 else 0):=⟨_,rfl⟩;refine qE (nx:=nx) (λ_:Unit=>True) (λ_=>[(1,I t),(3,jH y),(4,.ptr nx v0 0),(6,.ptr (nx+1) v1 0),(9,I oth)]) (λ_=>A0) (λ_=>[.cells v0 395 (um x d on tw fs bad ls ws),.cells v1 100 [I s.c,I s.q]]) ?_ ?_
 ·repeat apply ze
  refine zz rfl (λhq=>?_) (λhq=>?_)
  ·simp at hq;have hb':=hb hq;rw[if_pos hq]at hoth;have wb:IntKind.i64.wrap ((bad:Int)-1)=oth:=by rw[hoth,wr _ DB DB]
   refine zi [] wb ?_;exact zT () [] trivial DC rfl DC
  ·simp at hq;rw[if_neg hq]at hoth;obtain rfl:oth=bad:=DB
   exact zk (zT () [] trivial DC rfl DC)
 ·rintro⟨⟩ -;have hout:∀(h:0<oth\/x.cap<W (ll+s.q)),uH x t l fl bad ll w s=[]:=λh=>by unfold uH;rw[if_pos (by rw[hoth]at h;exact h)]
  by_cases ho:0<oth
  ·rw[hout (.inl ho)]at hY ⊢
   repeat apply ze
   refine zB (some [nx,nx+1]) (Row.pures [0,1,2,3,4,5,6,7,8,9,10,11,12,13,14,15] .done) mixed (zt ho zy) ?_;refine zo rfl (DK ?_);exact zj (Vd (hJd _ _ hA0) DD (by simp[zq]) hA0)
  by_cases hcap:x.cap<W (ll+s.q)
  ·rw[hout (.inr hcap)]at hY ⊢
   repeat apply ze
   refine zB (some [nx,nx+1]) (Row.pures [0,1,2,3,4,5,6,7,8,9,10,11,12,13,14,15] .done) mixed (zS ho hcap elo h2 g2 zy) ?_;refine zo rfl (DK ?_);exact zj (Vd (hJd _ _ hA0) DD (by simp[zq]) hA0)
  have hz:uH x t l fl bad ll w s=(List.range (l.length+1)).filterMap (ul x t l w s):=by unfold uH;rw[if_neg (by rw[<-hoth];simp[ho,hcap])]
  clear hout;rw[hz]at hY ⊢
  repeat apply ze
  refine zB (some [nx,nx+1]) (Row.pures [0,1,2,3,4,5,6,7,8,9,10,11,12,13,14,15] .done) mixed (yq ho hcap elo h2 g2) ?_;refine zp rfl (zk ?_);have wc:IntKind.i64.wrap (s.c+1)=s.c+1:=wr _ (by unfold y9 at hss;omega) (by unfold y9 at hss;omega);refine ze (zB (some [nx,nx+1]) (Row.pures [0,1,2,3,4,5,6,7,8,9,10,11] .done) mixed (zN ed h4 ht wc) ?_);have wl:IntKind.i64.wrap ((l.length:Int)+1)=((l.length+1:Nat):Int):=zA _ DB
  repeat apply ze
  refine zi [] wl ?_;refine zn (jo (σ:=Nat × Store) (λs'=>s'.1<=l.length+1/\J ((List.range s'.1).filterMap (ul x t l w s)).length s'.2) (λs'=>[(1,I t),(3,jH y),(4,.ptr nx v0 0),(6,.ptr (nx+1) v1 0),(10,L l),(11,I (s.c+1)),(54,I ((l.length+1:Nat):Int)),(55,I s'.1)]) (λs'=>s'.2)
   (λ_=>[.cells v0 395 (um x d on tw fs bad ls ws),.cells v1 100 [I s.c,I s.q]]) (λs'=>l.length+1-s'.1) (zT (0,A0) [] (by simpa using hA0) DC rfl DC) ?_)
  rintro⟨k,A⟩ ⟨hk,hJ⟩;simp only at hk hJ ⊢;refine DK ?_;refine ze (zz rfl (λhc=>?_) (λhc=>?_))
  ·simp at hc;refine zk (ze (zn (DK ?_)));refine DK ?_
   repeat apply ze
   refine zg ?_;refine qE (nx:=nx) (λ_:Unit=>True) (λ_=>[(1,I t),(3,jH y),(4,.ptr nx v0 0),(6,.ptr (nx+1) v1 0),(10,L l),(11,I (s.c+1)),(12,I k),(13,I (ve l k)),(14,I 0),(54,I ((l.length+1:Nat):Int)),(55,I k)]) (λ_=>A) (λ_=>[.cells v0 395 (um x d on tw fs bad ls ws),.cells v1 100 [I s.c,I s.q]]) ?_ ?_
   ·repeat apply ze
    refine zz rfl (λhk0=>?_) (λhk0=>?_)
    ·simp at hk0;obtain⟨j,rfl⟩:∃j,k=j+1:=⟨k-1,by omega⟩;obtain⟨p,tp,p1,-,-,-,ep⟩:=el 2 rfl l j DB;have wj:IntKind.i64.wrap (j:Int)=(j:Int):=wr _ DB DB;have hjl:j<l.length:=DB
     have hj2:2<=l.length*2-j*2:=DB
     have hsm:=hsl p (Ab p1);have wp:IntKind.i64.wrap (p.c+1)=p.c+1:=wr _ (by unfold y9 at hsm;omega) (by unfold y9 at hsm;omega);have hah:ve l (j+1)=p.c+1:=by unfold ve;rw[if_neg DB,BW,Aa,p1];rfl
     refine zi [] (yq wj ep wp hjl hj2) ?_;exact zT () [] trivial (by simp[hah]) rfl DC
    ·simp at hk0;subst hk0;exact zk (zT () [] trivial (by simp[ve]) rfl DC)
   ·rintro⟨⟩ -
    repeat apply ze
    refine zg ?_;refine qE (nx:=nx) (λ_:Unit=>True) (λ_=>[(1,I t),(3,jH y),(4,.ptr nx v0 0),(6,.ptr (nx+1) v1 0),(10,L l),(11,I (s.c+1)),(12,I k),(13,I (ve l k)),(14,I (ui l k)),(54,I ((l.length+1:Nat):Int)),(55,I k)]) (λ_=>A) (λ_=>[.cells v0 395 (um x d on tw fs bad ls ws),.cells v1 100 [I s.c,I s.q]]) ?_ ?_
    ·repeat apply ze
     refine zz rfl (λhk0=>?_) (λhk0=>?_)
     ·simp at hk0;obtain⟨p,tp,p1,-,-,-,ep⟩:=el 2 rfl l k hk0;have hj2:2<=l.length*2-k*2:=DB
      have hsm:=hsl p (Ab p1);have wp:IntKind.i64.wrap (p.c+1)=p.c+1:=wr _ (by unfold y9 at hsm;omega) (by unfold y9 at hsm;omega);have hah:ui l k=p.c+1:=by unfold ui;rw[if_pos hk0,Aa,p1];rfl
      refine zi [] (zN ep wp hk0 hj2) ?_;exact zT () [] trivial (by simp[hah]) rfl DC
     ·simp at hk0;exact zk (zT () [] trivial (by simp[ui];omega) rfl DC)
    ·rintro⟨⟩ -;have q1:=wC x (ve l k) (s.c+1);have q2:=wC x (s.c+1) (ui l k);have q3:=wC x (ve l k) (ui l k);have hmo:W (W (arc x (ve l k) (s.c+1)+arc x (s.c+1) (ui l k))-arc x (ve l k) (ui l k))=uk x l s k:=rfl;refine ze (zB (some [nx,nx+1]) (Row.pures [0,1,2,3,4,5,6,7,8,9,10,11,12,13,14,15,16,17] .done) mixed trivial ?_);refine zP (q1) trivial ?_;refine zP (q2) trivial ?_;refine zP (q3) hmo ?_
     by_cases hf:W (w+uk x l s k)<=x.len
     ·have hsp:ul x t l w s k=some ⟨t,k,uk x l s k⟩:=by unfold ul;rw[if_pos hf]
      have hat:=ZeO (n:=l.length+1) DB hsp;have hnx:=ZeQ hsp;have hy:(((List.range (l.length+1)).filterMap (ul x t l w s)).map uZ)[((List.range k).filterMap (ul x t l w s)).length]?=some (uZ ⟨t,k,uk x l s k⟩):=by rw[Ah,hat];rfl
      refine ze (zB (some [nx,nx+1]) (Row.pures [0,1,2,3,4,5,6,7,8,9,10,11,12,13,14,15,16] (.alt 17 (Row.pures [18,19] .done) .stop)) mixed (yq hmo ew h3 g3 hf) ?_);refine⟨by rfl,(Jr rfl rfl rfl (hY _ _ _ _ hy hJ) ?_)⟩;rintro _ ⟨A',hJ',rfl⟩;refine⟨by simp[yH],jp trivial ?_⟩;refine zp rfl (zk (zg ?_));exact zv (k+1,A') [] ⟨by show k+1<=_;omega,by rw[hnx];exact hJ'⟩ DF (by simp[zA k (by omega)]) rfl DC
     ·have hsp:ul x t l w s k=none:=by unfold ul;rw[if_neg hf]
      have hnx:=ZeP hsp;refine ze (zB (some [nx,nx+1]) (Row.pures [0,1,2,3,4,5,6,7,8,9,10,11,12,13,14,15,16,17,18,19] .done) mixed (zS hmo ew h3 g3 hf zy) ?_);refine zp rfl (zk (zg ?_));exact zv (k+1,A) [] ⟨by show k+1<=_;omega,by rw[hnx];exact hJ⟩ DF (by simp[zA k (by omega)]) rfl DC
  ·simp at hc;obtain rfl:k=l.length+1:=DB
   refine zC (DK ?_);exact zj (Vd (hJd _ _ hJ) DD (by simp[zq]) (by simpa using hJ))
open Go
theorem Ve:∀(d:zr),(∀t∈d,t≠[])->d.length<=d.flatten.length
 | [],_=>by simp
 | t :: d,h=>by
  have:=Ve d λt ht=>h t (by simp[ht])
  have h1:t.length≠0:=by simpa using h t DC
  rw[BH,Aq,Au];omega
theorem Yf{d:zr}{t:zO}(h:t∈d):t.Sublist d.flatten:=by
 obtain⟨a,b,rfl⟩:=List.append_of_mem h;rw[List.flatten_append,BH];exact(List.sublist_append_left t b.flatten).trans (List.sublist_append_right a.flatten _)
theorem Zmi{a b:List Int}(h:a.Perm b):a.sum=b.sum:=by
 induction h with
 | nil=>rfl
 | cons x _ ih=>simp[ih]
 | swap x y l=>simp;omega
 | trans _ _ ih1 ih2=>exact ih1.trans ih2
theorem vf(x:Inst)(d:zr):yv x d=0<->(∀t∈d,zV x t=0)/\(d.flatten.map (·.c)).Nodup/\(d.length:Int)<=x.veh:=by
 unfold yv;cases hf:d.find? (λt=>zV x t != 0) with
 | some t =>
  have h1:=List.find?_some hf;have h2:=List.mem_of_find?_eq_some hf;simp only;constructor
  ·intro e;simp[e]at h1
  ·rintro⟨h,_⟩;exact h t h2
 | none =>
  rw[List.find?_eq_none]at hf;simp only;constructor
  ·intro e;refine⟨λt ht=>by simpa using hf t ht,?_⟩;split at e
   ·cases e
   ·split at e
    ·cases e
    ·rename_i h1 h2;exact⟨by simpa using h1,by omega⟩
  ·rintro⟨_,h1,h2⟩;rw[if_neg (by simpa using h1),if_neg DB]
theorem JB(x:Inst)(t:zO):zV x t=0<->qV x t=true/\(t.map (·.c)).Nodup/\W (zY t)<=x.cap/\W (yE x (t.map (·.c)))<=x.len:=by
 unfold zV;constructor
 ·intro e;split at e
  ·cases e
  ·split at e
   ·cases e
   ·split at e
    ·cases e
    ·split at e
     ·cases e
     ·rename_i h1 h2 h3 h4;exact⟨by simpa using h1,by simpa using h2,by omega,by omega⟩
 ·rintro⟨h1,h2,h3,h4⟩;rw[if_neg (by simp[h1]),if_neg (by simpa using h2),if_neg DB,if_neg DB]
theorem Zbi{t:zO}(h:∀s∈t,0<=s.q/\s.q<=2147483648):0<=zY t/\zY t<=2147483648*t.length:=by
 induction t with
 | nil=>simp[zY]
 | cons s t ih =>
  have:=ih λa ha=>h a (by simp[ha])
  have:=h s DC;simp only[zY,AD,Ck,Au]at *;omega
theorem Zmj(a b:zO):zY (a++b)=zY a+zY b:=by simp[zY]
open Go Go.Proofs
def qc(x:Inst)(d:zr)(s:Stop):List Spot :=
 if zV x [s]=1\/s.c∈d.flatten.map (·.c)\/¬(d.flatten.map (·.c)).Nodup\/x.veh<d.length then []
 else ((List.range d.length).flatMap λt=>uH x t (d.getD t []) (zV x (d.getD t [])) (yV x d) (jg (d.getD t [])) (jr x (d.getD t [])) s) ++
  (if yV x d=0/\zV x [s]=0/\(d.length:Int)<x.veh then [⟨d.length,0,W (yE x [s.c])⟩] else [])
def Yg(st:Spot × Bool)(b:Spot):Spot × Bool:=if st.2=false\/b.m<st.1.m then (b,true) else st
def u5(l:List Spot):Spot × Bool:=l.foldl Yg (⟨0,0,0⟩,false)
def jX(l:zO)(i:Nat)(s:Stop):zO:=l.take i++s :: l.drop i
def jz(d:zr)(b:Spot)(s:Stop):zr:=if b.t=d.length then d++[[s]] else d.set b.t (jX (d.getD b.t []) b.p s)
def yO(x:Inst)(d:zr)(s:Stop):zr × Bool:=bif (u5 (qc x d s)).2 then (jz d (u5 (qc x d s)).1 s,true) else (d,false)
theorem ZeR:∀(l:List Spot) (st:Spot × Bool),(l.foldl Yg st).2=true->(l.foldl Yg st)=st\/(l.foldl Yg st).1∈l
 | [],st,_=>.inl rfl
 | b :: l,st,h=>by
  rw[AY]at h ⊢;rcases ZeR l _ h with e | e
  ·by_cases hq:st.2=false\/b.m<st.1.m
   ·right;rw[e];unfold Yg;rw[if_pos hq];simp
   ·left;rw[e];unfold Yg;rw[if_neg hq]
  simp_all
theorem Vf{l:List Spot}(h:(u5 l).2=true):(u5 l).1∈l:=by grind[ZeR,u5]
theorem Zmk{x:Inst}{t:Nat}{l:zO}{fl bad ll w:Int}{s:Stop}{b:Spot}(h:b∈uH x t l fl bad ll w s):¬(0<bad-(if fl=13 then 1 else 0))/\W (ll+s.q)<=x.cap/\b∈(List.range (l.length+1)).filterMap (ul x t l w s):=by simp_all[uH]
theorem XC{x:Inst}{d:zr}{s:Stop}{b:Spot}(h:b∈qc x d s):
  zV x [s]≠1/\s.c ∉ d.flatten.map (·.c)/\(d.flatten.map (·.c)).Nodup/\(d.length:Int)<=x.veh /\
  ((∃l,d[b.t]?=some l/\b.p<=l.length/\¬(0<(yV x d:Int)-(if zV x l=13 then 1 else 0))/\W (jg l+s.q)<=x.cap/\b.m=uk x l s b.p/\W (jr x l+b.m)<=x.len) \/
   (b=⟨d.length,0,W (yE x [s.c])⟩/\yV x d=0/\zV x [s]=0/\(d.length:Int)<x.veh)):=by
 unfold qc at h;split at h
 ·cases h
 ·rename_i hq;have q1:zV x [s]≠1:=λe=>hq (.inl e)
  have q2:s.c ∉ d.flatten.map (·.c):=λe=>hq (.inr (.inl e))
  have q3:(d.flatten.map (·.c)).Nodup:=Classical.byContradiction λe=>hq (.inr (.inr (.inl e)))
  have q4:(d.length:Int)<=x.veh:=by
   rcases Int.lt_or_le x.veh d.length with e | e
   ·exact absurd (.inr (.inr (.inr e))) hq
   ·exact e
  refine⟨q1,q2,q3,q4,?_⟩;rw[AG]at h;rcases h with h | h
  ·left;obtain⟨t,ht,hb⟩:=BY.1 h;rw[AH]at ht;have hd:d[t]?=some (d.getD t []):=by rw[Aa,Ad ht];rfl
   obtain⟨w1,w2,hb⟩:=Zmk hb;obtain⟨i,hi,he⟩:=B7.1 hb;rw[AH]at hi;unfold ul at he
   by_cases hlen:W (jr x (d.getD t [])+uk x (d.getD t []) s i)<=x.len
   ·rw[if_pos hlen]at he;cases he;exact⟨_,hd,by simp only;omega,w1,w2,rfl,hlen⟩
   ·rw[if_neg hlen]at he;cases he
  simp_all
def y0(a:Int):List Int->Int
 | []=>a
 | c :: l=>y0 (c+1) l
def Vg:List Int->Int
 | []=>0
 | c :: _=>c+1
theorem ZeS(x:Inst)(c:Int)(r:List Int):∀(p:List Int) (a:Int),xX x a (p++c :: r)=xX x a (p++r)+(arc x (y0 a p) (c+1)+arc x (c+1) (Vg r)-arc x (y0 a p) (Vg r))
 | [],a=>by cases r<;>grind[xX,y0,Vg]
 | e :: p,a=>by
  simp only[List.cons_append,xX,y0];rw[ZeS x c r p (e+1)];omega
theorem ZeT:∀(p:List Int) (a:Int),y0 a p=if p.length=0 then a else (p.getD (p.length-1) 0)+1
 | [],a=>by simp[y0]
 | [c],a=>by simp[y0]
 | c :: e :: p,a=>by
  simp only[y0];rw[show y0 (e+1) p=y0 (c+1) (e :: p) from rfl,ZeT (e :: p) (c+1)];simp
theorem Zml(l:zO)(i:Nat)(h:i<l.length):(l.map (·.c)).getD i 0=(l.getD i default).c:=DJ
theorem Zmm(x:Inst)(l:zO)(s:Stop)(i:Nat)(h0:l≠[])(hi:i<=l.length):
  yE x ((jX l i s).map (·.c))=yE x (l.map (·.c))+(arc x (ve l i) (s.c+1)+arc x (s.c+1) (ui l i)-arc x (ve l i) (ui l i)):=by
 unfold yE jX;rw[if_neg DC,if_neg (by simpa using h0)];rw[List.map_append,AD,ZeS,<-List.map_append,List.take_append_drop];have e1:y0 0 ((l.take i).map (·.c))=ve l i:=by
  rw[ZeT];unfold ve;rw[List.length_map,As]
  by_cases hz:i=0
  ·rw[if_pos DB,if_pos hz]
  ·rw[if_neg DB,if_neg hz,Zml _ _ (by rw[As];omega)];rw[Aa,Aa,AI DB,show min i l.length-1=i-1 from by omega]
 grind[Vg,ui,List.drop_eq_getElem_cons]
theorem ZeU(x:Inst)(l:zO)(s:Stop)(i:Nat)(h0:l≠[])(hi:i<=l.length):jr x (jX l i s)=W (jr x l+uk x l s i):=by
 unfold jr uk
 grind[Zmm,IntKind.wrap_i64]
theorem ZeV(l:zO)(s:Stop)(i:Nat):jg (jX l i s)=W (jg l+s.q):=by grind[jg,Zw,zY,jX,List.take_append_drop]
theorem XE(l:zO)(s:Stop)(i:Nat):(jX l i s).Perm (s :: l):=by grind[jX,List.take_append_drop]
theorem Zbj{α:Type}:∀(d:List (List α)) (t:Nat) (l m:List α) (s:α),d[t]?=some l->m.Perm (s :: l)->(d.set t m).flatten.Perm (s :: d.flatten)
 | [],t,l,m,s,h,_=>by simp at h
 | a :: d,0,l,m,s,h,hm=>by
  simp at h;subst h;simp only[AW,BH];exact(hm.append_right _)
 | a :: d,t+1,l,m,s,h,hm=>by
  simp only[Ba]at h;simp only[AR,BH];exact((Zbj d t l m s h hm).append_left a).trans List.perm_middle
theorem Zbk{x:Inst}{d:zr}{s:Stop}{b:Spot}(h:b∈qc x d s):(jz d b s).flatten.Perm (s :: d.flatten):=by
 obtain⟨-,-,-,-,h⟩:=XC h;unfold jz
 grind[Zbj,XE]
theorem Zbl{x:Inst}{d:zr}{s:Stop}(h:(yO x d s).2=true):(yO x d s).1.flatten.Perm (s :: d.flatten):=by grind[yO,Zbk,Vf]
theorem ZeW{x:Inst}{d:zr}{s:Stop}(h:(yO x d s).2=false):(yO x d s).1=d:=by grind[yO]
theorem Zmn{x:Inst}{a b:zO}(h:a.Perm b):qV x a=qV x b:=by
 unfold qV;have h1:a.all (jq x)=b.all (jq x):=by
  rw[Dr,Az,Az];exact⟨λq s hs=>q s (h.symm.subset hs),λq s hs=>q s (h.subset hs)⟩
 have h2:a.isEmpty=b.isEmpty:=by
  cases a with
  | nil=>simp_all
  | cons a l =>
   grind
 rw[h1,h2]
theorem Vh{x:Inst}{t:zO}(h:qV x t=true):t≠[]:=by simp_all[qV]
theorem Zbm{x:Inst}{t:zO}(h:qV x t=false):zV x t=1:=by simp_all[zV]
theorem ZeX{x:Inst}{s:Stop}(h:zV x [s]≠1):jq x s=true:=by grind[qV,Zbm]
theorem YV{x:Inst}{d:zr}:yV x d=0<->∀t∈d,zV x t=0:=by simp[yV]
theorem Zbn{x:Inst}{d:zr}{s:Stop}{b:Spot}(h:b∈qc x d s):yv x (jz d b s)=0:=by
 have hp:=Zbk h;obtain⟨q1,q2,q3,q4,h⟩:=XC h;rw[vf];have hg:=ZeX q1;have hn:((jz d b s).flatten.map (·.c)).Nodup:=by
  rw[(hp.map _).nodup_iff,AD,Cz];exact⟨q2,q3⟩
 refine⟨?_,hn,?_⟩
 ·rcases h with ⟨l,hl,hi,ho,hcap,hm,hlen⟩ | ⟨rfl,hb,hs,hv⟩
  ·obtain⟨hlt,hle⟩:=Ac.1 hl;have hpd:jz d b s=d.set b.t (jX l b.p s):=by unfold jz;rw[if_neg DB,Aa,hl];rfl
   -- the other tours
   have hoth:∀j m,j≠b.t->d[j]?=some m->zV x m=0:=by
    intro j m hj hm';refine Classical.byContradiction λhbad=>?_
    have h13:0<yV x d:=by
     rcases BT (yV x d) with e | e
     ·exact absurd (YV.1 e m (Ab hm')) hbad
     ·exact e
    by_cases hf:zV x l=13
    ·rw[if_pos hf]at ho;have h2:2<=yV x d:=by
      unfold yV;obtain⟨hjl,hje⟩:=Ac.1 hm';have key:∀(i j:Nat),i<j->∀(a c:zO),d[i]?=some a->d[j]?=some c->zV x a≠0->zV x c≠0->2<=(d.filter λt=>decide (zV x t≠0)).length:=by
       intro i j hij a c ha hc na nc;obtain⟨hil,rfl⟩:=Ac.1 ha;obtain⟨hjl,rfl⟩:=Ac.1 hc;have e:d=d.take (i+1)++d.drop (i+1):=(List.take_append_drop _ _).symm;rw[e,BX,Aq];have m1:d[i]∈(d.take (i+1)).filter λt=>decide (zV x t≠0):=Bi.2 ⟨Ab (i:=i) (by rw[AI (by omega)];exact ha),by simp[na]⟩
       have m2:d[j]∈(d.drop (i+1)).filter λt=>decide (zV x t≠0):=Bi.2 ⟨Ab (i:=j-(i+1)) (by rw[AK,show i+1+(j-(i+1))=j from by omega];exact hc),by simp[nc]⟩
       have:=Dl m1;have:=Dl m2;omega
      have nl:zV x l≠0:=by rw[hf];decide
      rcases Be j b.t with h3 | h3
      ·exact key j b.t h3 m l hm' hl hbad nl
      ·exact key b.t j DB l m hl hm' nl hbad
     omega
    ·rw[if_neg hf]at ho;omega
   -- the tour itself
   have hself:zV x l=0\/zV x l=13:=by
    by_cases hf:zV x l=13
    ·exact .inr hf
    ·rw[if_neg hf]at ho;exact .inl (YV.1 DB l (Ab hl))
   have hst:qV x l=true:=by
    cases e:qV x l with
    | true=>rfl
    | false=>rw[Zbm e]at hself;rcases hself with h | h<;>cases h
   have hne:=Vh hst;intro t ht;rw[hpd]at ht;obtain⟨j,hj⟩:=Bb.1 ht;rw[Bz]at hj
   by_cases hjb:b.t=j
   ·rw[if_pos hjb,if_pos hlt]at hj;cases hj;rw[JB];refine⟨?_,?_,?_,?_⟩
    ·rw[Zmn (XE l s b.p)];unfold qV at hst ⊢;simp only[Cj,List.isEmpty_cons,Ao]at hst ⊢;exact⟨⟨hg,hst.1⟩,rfl⟩
    ·have hsub:(jX l b.p s).Sublist (jz d b s).flatten:=by rw[hpd];exact Yf ht
     exact hn.sublist (hsub.map _)
    ·have:=ZeV l s b.p;unfold jg at this;rw[this];exact hcap
    ·have:=ZeU x l s b.p hne hi;unfold jr at this;rw[this,<-hm];exact hlen
   ·rw[if_neg hjb]at hj;exact hoth j t (λe=>hjb e.symm) hj
  grind[jz,YV]
 ·rcases h with ⟨l,hl,-⟩ | ⟨rfl,-,-,hv⟩
  ·have hlt:=(Ac.1 hl).1;unfold jz;rw[if_neg DB,BJ];exact q4
  grind[jz]
def xJ(c:Int)(t:zO):zO:=t.filter λs=>decide (s.c≠c)
def jY(c:Int)(d:zr):zr:=(d.map (xJ c)).filter λt=>!t.isEmpty
def ZeY(c:Int)(d:zr):Int:=W ((d.flatten.filter λs=>decide (s.c=c)).map (·.q)).sum
theorem Zmo(c:Int)(a b:zr):jY c (a++b)=jY c a++jY c b:=by simp[jY]
open Go Hp
theorem JI.begin:∀(l pre:List Stop) (T:zr) (g:Int->Option Int),JI pre T g->((pre++l).map (·.c)).Nodup->∃g',JI (pre++l) (T++l.map λs=>[s]) g'
 | [],pre,T,g,h,_=>⟨g,by simpa using h⟩
 | s :: l,pre,T,g,h,hn=>by
  have hs:s.c ∉ pre.map (·.c):=by
   rw[List.map_append,Db]at hn;exact λhm=>hn.2.2 _ hm s.c DC rfl
  obtain⟨g',h'⟩:=JI.begin l (pre++[s]) (T++[[s]]) _ (h.snoc s hs) (by simpa using hn);exact⟨g',by simpa using h'⟩
theorem Zbo{α:Type}(f:α->Int):∀(T:List α) (i:Nat) (a b:α),T[i]?=some a->((T.set i b).map f).sum=(T.map f).sum-f a+f b
 | [],i,a,b,h=>by simp at h
 | t :: T,0,a,b,h=>by simp at h;subst h;simp;omega
 | t :: T,i+1,a,b,h=>by
  simp only[Ba]at h;simp only[AR,AD,Ck];rw[Zbo f T i a b h];omega
open Go Go.Proofs
theorem ZeZ{x:Inst}(h:jf x):∀(l:List Int) (a:Int),0<=xX x a l/\xX x a l<=2147483648*((l.length:Int)+1)
 | [],a=>by
  have:=h a 0
  simp_all[xX]
 | c :: l,a=>by
  have h1:=h a (c+1);have h2:=ZeZ h l (c+1)
  grind[xX]
theorem XF{x:Inst}(h:jf x)(l:List Int):0<=yE x l/\yE x l<=2147483648*((l.length:Int)+1):=by
 unfold yE;split<;>simp_all[ZeZ]
def YW(d:zr):List (Nat × Nat):=(List.range (d.length+1)).flatMap λt=>(List.range ((d.getD t []).length+1)).map λp=>(t,p)
def ZD(d:zr)(s:Stop)(c:Nat × Nat):zr:=jz d ⟨c.1,c.2,0⟩ s
def Zbp(x:Inst)(d:zr)(s:Stop)(c:Nat × Nat):Int:=if c.1=d.length then W (yE x [s.c]) else uk x (d.getD c.1 []) s c.2
def QN(x:Inst)(d:zr)(s:Stop)(c:Nat × Nat):Option Spot:=if yv x (ZD d s c)=0 then some ⟨c.1,c.2,Zbp x d s c⟩ else none
theorem Ze0(d:zr)(s:Stop)(b:Spot):jz d b s=ZD d s (b.t,b.p):=rfl
theorem Ze1{d:zr}{c:Nat × Nat}:c∈YW d<->c.1<=d.length/\c.2<=(d.getD c.1 []).length:=by grind[YW]
abbrev Vi(x:Inst)(d:zr)(s:Stop):Prop:=zV x [s]=1\/s.c∈d.flatten.map (·.c)\/¬(d.flatten.map (·.c)).Nodup\/x.veh<d.length
theorem Ze2{d:zr}{s:Stop}{t p:Nat}{l:zO}(hl:d[t]?=some l):ZD d s (t,p)=d.set t (jX l p s):=by grind[ZD,jz]
theorem Ze3(d:zr)(s:Stop)(p:Nat):ZD d s (d.length,p)=d++[[s]]:=by simp[ZD,jz]
theorem Zmp{d:zr}{s:Stop}{c:Nat × Nat}(hc:c∈YW d):(ZD d s c).flatten.Perm (s :: d.flatten):=by
 obtain⟨t,p⟩:=c;obtain⟨h1,h2⟩:=Ze1.1 hc;simp only at h1 h2
 by_cases ht:t=d.length
 ·simp_all[Ze3]
 ·have hl:d[t]?=some (d.getD t []):=by rw[Aa,Ad DB];rfl
  rw[Ze2 hl]
  grind[Zbj,XE]
theorem Zmq{x:Inst}{d:zr}{s:Stop}(hd:yv x d=0){c:Nat × Nat}(hc:c∈YW d)(h:yv x (ZD d s c)=0):¬Vi x d s:=by
 have hp:=Zmp (s:=s) hc;obtain⟨g1,g2,g3⟩:=(vf x _).1 h;obtain⟨e1,e2,e3⟩:=(vf x _).1 hd;rw[(hp.map _).nodup_iff,AD,Cz]at g2;rintro(q | q | q | q)
 ·obtain⟨u,hu,hsu⟩:=BE.1 (hp.symm.subset (B8 (a:=s)))
  grind[qV,zV]
 ·exact g2.1 q
 ·exact q e2
 ·omega
theorem Ze4{x:Inst}{d:zr}{s:Stop}(hd:yv x d=0)(ho:¬Vi x d s){t p:Nat}{l:zO}(hl:d[t]?=some l)(hp:p<=l.length):
  yv x (ZD d s (t,p))=0<->W (jg l+s.q)<=x.cap/\W (jr x l+uk x l s p)<=x.len:=by
 obtain⟨e1,e2,e3⟩:=(vf x _).1 hd;have hlm:=Ab hl;have hlt:=(Ac.1 hl).1;have hm0:=e1 l hlm;have hne:l≠[]:=Vh ((JB x l).1 hm0).1;have hb:yV x d=0:=YV.2 e1;have hg:d.getD t []=l:=by rw[Aa,hl];rfl
 constructor
 ·intro h;obtain⟨g1,-,-⟩:=(vf x _).1 h;rw[Ze2 hl]at g1;have:=g1 (jX l p s) (Ab (i:=t) (by simp[hlt]));obtain⟨-,-,a,b⟩:=(JB x _).1 this;have ha:=ZeV l s p;have hw:=ZeU x l s p hne hp
  simp_all[jg,jr]
 ·rintro⟨a,b⟩;have hmem:(⟨t,p,uk x l s p⟩:Spot)∈qc x d s:=by
   unfold qc;rw[if_neg ho];refine List.mem_append_left _ (BY.2 ⟨t,AH.2 hlt,?_⟩);rw[hg,hb,hm0];unfold uH;rw[if_neg DF];refine B7.2 ⟨p,AH.2 DB,?_⟩;unfold ul;rw[if_pos b]
  have:=Zbn hmem
  simp_all[Ze0]
theorem Zmr{x:Inst}{d:zr}{s:Stop}(hd:yv x d=0)(ho:¬Vi x d s):yv x (ZD d s (d.length,0))=0<->zV x [s]=0/\(d.length:Int)<x.veh:=by
 obtain⟨e1,e2,e3⟩:=(vf x _).1 hd;have hb:yV x d=0:=YV.2 e1;constructor
 ·grind[vf,Ze3]
 ·rintro⟨a,b⟩;have hmem:(⟨d.length,0,W (yE x [s.c])⟩:Spot)∈qc x d s:=by
   unfold qc;rw[if_neg ho,if_pos ⟨hb,a,b⟩];exact List.mem_append_right _ DC
  have:=Zbn hmem
  simp_all[Ze0]
theorem Ze5{α β:Type}{f:α->Option β}{l:List α}(h:∀a∈l,f a=none):l.filterMap f=[]:=DJ
theorem Ze6{α β:Type}{f g:α->List β}:∀{l:List α},(∀a∈l,f a=g a)->l.flatMap f=l.flatMap g
 | [],_=>rfl
 | a :: l,h=>by rw[Av,Av,h a DC,Ze6 λb hb=>h b (by simp[hb])]
theorem Ze7{α β:Type}{f g:α->Option β}:∀{l:List α},(∀a∈l,f a=g a)->l.filterMap f=l.filterMap g
 | [],_=>rfl
 | a :: l,h=>by
  have ih:=Ze7 (f:=f) (g:=g) (l:=l) λb hb=>h b (by simp[hb])
  grind
def Yh(x:Inst)(d:zr)(s:Stop)(t:Nat):List Spot:=((List.range ((d.getD t []).length+1)).map λp=>(t,p)).filterMap (QN x d s)
theorem Ze8{x:Inst}{d:zr}{s:Stop}(hd:yv x d=0):qc x d s=(List.range (d.length+1)).flatMap (Yh x d s):=by
 by_cases ho:Vi x d s
 ·unfold qc;rw[if_pos ho];symm;rw[List.flatMap_eq_nil_iff];intro t ht;rw[AH]at ht;refine Ze5 λc hc=>?_
  obtain⟨p,hp,rfl⟩:=Ar.1 hc;rw[AH]at hp;unfold QN;rw[if_neg];intro h;exact Zmq hd (Ze1.2 ⟨by omega,by simp only;omega⟩) h ho
 ·unfold qc;obtain⟨e1,e2,e3⟩:=(vf x _).1 hd;have hb:yV x d=0:=YV.2 e1;rw[if_neg ho,AT,Al];congr 1
  ·refine Ze6 λt ht=>?_
   rw[AH]at ht;have hl:d[t]?=some (d.getD t []):=by rw[Aa,Ad ht];rfl
   have hm0:=e1 _ (Ab hl);unfold Yh uH;rw[hm0,hb,List.filterMap_map]
   by_cases hcap:x.cap<W (jg (d.getD t [])+s.q)
   ·rw[if_pos (.inr hcap)];symm;refine Ze5 λp hp=>?_
    rw[AH]at hp;simp only[Function.comp_apply];unfold QN;rw[if_neg];rw[Ze4 hd ho hl DB];omega
   ·rw[if_neg (show ¬(0<((0:Nat):Int)-(if (0:Int)=13 then 1 else 0)\/x.cap<W (jg (d.getD t [])+s.q)) from by rintro(q | q);exact absurd q DH;exact hcap q)];refine Ze7 λp hp=>?_
    grind[Ze4,QN,ul,Zbp]
  ·have hi:=Zmr hd ho;simp only[Av,Cm,AF];unfold Yh;rw[show d.getD d.length []=([]:zO) from by rw[Aa,Ak (Af _)];rfl]
   grind[QN,Zbp]
theorem Ze9{α β γ:Type}(f:α->List β)(g:β->Option γ):∀l:List α,(l.flatMap f).filterMap g=l.flatMap λa=>(f a).filterMap g
 | []=>rfl
 | a :: l=>by rw[Av,BR,Ze9 f g l,Av]
theorem Zms{x:Inst}{d:zr}{s:Stop}(hd:yv x d=0):qc x d s=(YW d).filterMap (QN x d s):=by
 rw[Ze8 hd];unfold YW;rw[Ze9];rfl
theorem Zfa{x:Inst}{d:zr}(h:yv x d=0):∀t∈d,t≠[]:=λt ht=>Vh ((JB x t).1 (((vf x d).1 h).1 t ht)).1
def YX(st:Int × Bool)(m:Int):Int × Bool:=if st.2=false\/m<st.1 then (m,true) else st
def YY(l:List Int):Int × Bool:=l.foldl YX (0,false)
def JC(x:Inst)(d:zr)(s:Stop)(n:Nat):List Int:=(List.range n).filterMap λt=>bif (YY ((Yh x d s t).map (·.m))).2 then some (YY ((Yh x d s t).map (·.m))).1 else none
def JD(x:Inst)(d:zr)(s:Stop):List Int:=yS (JC x d s (d.length+1))
theorem Zbq:∀(l:List Int) (m:Int),(l.foldl YX (m,true)).2=true
 | [],_=>rfl
 | a :: l,m=>by
  rw[AY];unfold YX;split
  ·exact Zbq l a
  ·exact Zbq l m
theorem Zmt:YY []=(0,false):=rfl
theorem Zmu(a:Int)(l:List Int):YY (a :: l)=l.foldl YX (a,true):=by simp[YY,YX]
def wH(st:List Int × Int)(p:Spot):List Int × Int :=
 if (p.t:Int)≠st.2 then (st.1++[p.m],(p.t:Int)) else (st.1.set (st.1.length-1) (if p.m<st.1.getD (st.1.length-1) 0 then p.m else st.1.getD (st.1.length-1) 0),st.2)
theorem Zfb(t:Nat):∀(g:List Spot) (l:List Int) (m:Int),(∀p∈g,p.t=t)->g.foldl wH (l++[m],(t:Int))=(l++[((g.map (·.m)).foldl YX (m,true)).1],(t:Int))
 | [],l,m,_=>rfl
 | p :: g,l,m,h=>by
  have hp:=h p DC;have hs:wH (l++[m],(t:Int)) p=(l++[if p.m<m then p.m else m],(t:Int)):=by
   unfold wH;rw[hp,if_neg DC];simp
  have hm:YX (m,true) p.m=(if p.m<m then p.m else m,true):=by
   unfold YX
   by_cases q:p.m<m<;>simp[q]
  rw[AY,hs,AD,AY,hm];exact Zfb t g l _ λq hq=>h q (by simp[hq])
theorem Zmv{t:Nat}{g:List Spot}(hg:∀p∈g,p.t=t)(l:List Int)(last:Int)(hl:last<t):
  g.foldl wH (l,last)=(l++(bif (YY (g.map (·.m))).2 then [(YY (g.map (·.m))).1] else []),if g=[] then last else (t:Int)):=by cases g<;>grind[Zmt,wH,Zfb,Zmu,Zbq]
theorem Zmw{x:Inst}{d:zr}{s:Stop}{t:Nat}:∀p∈Yh x d s t,p.t=t:=by grind[Yh,QN]
theorem Zfc(x:Inst)(d:zr)(s:Stop):∀n:Nat,∃last:Int,last<n/\((List.range n).flatMap (Yh x d s)).foldl wH ([],-1)=(JC x d s n,last)
 | 0=>⟨-1,by omega,rfl⟩
 | n+1=>by
  obtain⟨last,h1,h2⟩:=Zfc x d s n;rw[AT,Al,Bo,h2];simp only[Av,Cm,AF];rw[Zmv Zmw _ _ h1];refine⟨_,?_,by
   congr 1;unfold JC;rw[AT,BR];congr 1;cases hm:(YY ((Yh x d s n).map (·.m))).2<;>simp[hm]⟩
  omega
theorem Zmx{x:Inst}{d:zr}{s:Stop}(hd:yv x d=0):((qc x d s).foldl wH ([],-1)).1=JC x d s (d.length+1):=by
 rw[Ze8 hd];obtain⟨last,-,h⟩:=Zfc x d s (d.length+1);rw[h]
theorem Zfd:∀{a b:List Int},a.Perm b->a.Pairwise (·<=·)->b.Pairwise (·<=·)->a=b
 | [],b,h,_,_=>(List.nil_perm.1 h).symm
 | x :: a,[],h,_,_=>absurd h.symm DC
 | x :: a,y :: b,h,ha,hb=>by
  rw[Bc]at ha hb;have hxy:x=y:=by
   have h1:x∈y :: b:=h.subset DC;have h2:y∈x :: a:=h.symm.subset DC;have q1:y<=x:=by
    rcases Aw.1 h1 with e | e
    ·omega
    ·exact hb.1 x e
   have q2:x<=y:=by
    rcases Aw.1 h2 with e | e
    ·omega
    ·exact ha.1 y e
   omega
  subst hxy;rw[Zfd ((List.perm_cons x).1 h) ha.2 hb.2]
open Go Go.Proofs
theorem Zmy(x:Inst)(d:zr)(s:Stop)(t:Nat):(JC x d s t).length<=t:=by
 unfold JC;exact AB (Cv _ _) DC
open Go Go.Proofs
theorem Sim.drewN{C:Ctx}{S:Store}{w:World}(h:Sim C S w):∀q:Nat,Sim C S (w.drewN q)/\Step C S w C S (w.drewN q)
 | 0=>by
  have e:w.drewN 0=w:=rfl;rw[e];exact⟨h,.refl _ _ _⟩
 | q+1=>by
  obtain⟨a,b⟩:=Sim.drewN h q;obtain⟨c,d⟩:=a.drew;have e:w.drewN (q+1)=(w.drewN q).drew:=by unfold World.drewN World.drew;simp[Nat.add_assoc]
  rw[e];exact⟨c,b.trans d⟩
theorem Zmz(zs:List Int)(c:Int)(hn:zs.length<=1048576)(hs:zs.Pairwise (·<=·)):Pure prog 353 [L zs,I c] (.tup [I (zs.countP (·<c):Nat),B (zs.contains c)]):=by
 intro S;refine⟨qb func353 DG rfl,?_⟩;intro C w vs hS hl hr;obtain⟨u,v,rfl⟩:∃u v,vs=#[u,v]:=Zew hl;obtain rfl:=QD (hr 1 _ v rfl rfl);have h0:Rel C S w (.lst zs.length (zs.flatMap Enc.enc)) u:=hr 0 _ u rfl rfl;have hret:∀(k:Int) (b:Bool),Rel C S w (.tup [I k,B b]) (.tuple #[.int .i64 k,.bool b]):=by
  intro k b;refine .tup rfl ?_;intro i p v hc hv
  match i with
  | 0=>have hc:some (I k)=some p:=hc;have hv:some (Value.int .i64 k)=some v:=hv;cases hc;cases hv;exact .sc _
  | 1=>have hc:some (B b)=some p:=hc;have hv:some (Value.bool b)=some v:=hv;cases hc;cases hv;exact .sc _
  | i+2=>simp at hc
 rw[WZ]at h0;generalize hcs:zs.map I=cs at h0;generalize hzl:zs.length=n at h0 hn;cases h0 with
 | lst0 =>
  obtain rfl:zs=[]:=Ap hzl;refine(slices_BinarySearch_int_empty _ _ c w).mono ?_;rintro e w' ⟨rfl,rfl⟩;exact⟨_,_,_,_,rfl,⟨rfl,rfl⟩,hret 0 false,hS,.refl _ _ _⟩
 | lst1 g1 g2 g3 g4 g5 g6 g7 =>
  rename_i cap b o ca e fz
  by_cases hz:zs=[]
  ·subst hz;simp at hzl;subst hzl;refine(slices_BinarySearch_int_empty _ _ c w).mono ?_;rintro e w' ⟨rfl,rfl⟩;exact⟨_,_,_,_,rfl,⟨rfl,rfl⟩,hret 0 false,hS,.refl _ _ _⟩
  ·subst hcs;have g5':=g5 (by simpa using hz);rw[List.length_map]at g5';have hcell:∀j,j<zs.length->w.cell? ⟨b,o+j,none⟩=some (.int .i64 (zs.getD j 0)):=by
    intro j hj;have e2:ca[o+j]?=some ca[o+j]:=by rw[A4]
    have e3:=QD (g7 j (I (zs.getD j 0)) _ (by simp[hj]) e2);rw[e3]at e2;simp[World.cell?,g3,e2]
   refine(slices_BinarySearch_int b o n cap zs c w DB DB hcell (hs.sublist (List.take_sublist _ _))).mono ?_;rintro e w' ⟨rfl,q,rfl⟩;obtain⟨s1,s2⟩:=hS.drewN q;rw[Ae DB];exact⟨_,_,_,_,rfl,⟨rfl,rfl⟩,(hret _ _).mono s2,s1,s2⟩
theorem ZmA{n k:Nat}(hk:k<n)(W:Nat->List Spot)(E:List Spot)(i:Nat)(x:List PV)(h:((W k).map uZ)[i]?=some x):(((List.range n).flatMap W++E).map uZ)[((List.range k).flatMap W).length+i]?=some x:=by
 obtain⟨m,rfl⟩:∃m,n=k+(m+1):=⟨n-k-1,by omega⟩;rw[Ah]at h ⊢;rw[C5,Al,List.append_assoc,Ai (CO _ _),AE,CC];have hi:i<(W k).length:=by
  rcases Be i (W k).length with e | e
  ·exact e
  ·rw[Ak e]at h;cases h
 rw[An DF];simp only[AD,Av,Bs];rw[An DB];exact h
theorem ZmB(W:Nat->List Spot)(k:Nat):((List.range (k+1)).flatMap W).length=((List.range k).flatMap W).length+(W k).length:=by
 rw[AT,Al,Aq];simp
theorem ZmC(l:List Int)(c:Int):(yS l).contains c=l.contains c:=by
 rw[Dr,Cp,Cp];exact(B5 l _).mem_iff
theorem Zfe{x:Inst}{s:Stop}(hx:x.cust.length<=1048576)(h:zV x [s]≠1):y9 s.c:=by
 have:=ZeX h;unfold jq at this;simp only[Ao,decide_eq_true_eq]at this;unfold y9;omega
theorem Zff(x:Inst)(d:zr)(s:Stop)(hx:x.cust.length<=1048576)(hdo:DayOk d)(hf:d.flatten.length<=1048576):YM prog 352 [.ip [I s.c,I s.q],.ip (uY x d)] ((qc x d s).map uZ):=by
 have hmay:=Xv x [s] hx DC;have hse:=Zmz (yS (d.flatten.map (·.c))) s.c (by rw[YO,List.length_map];exact hf) (Xt _);rw[ZmC]at hse;generalize ((yS (d.flatten.map (·.c))).countP (·<s.c):Nat)=cnt at hse;obtain⟨tw,htw⟩:∃tw,tw=decide (¬(yS (d.flatten.map (·.c))).Nodup):=⟨_,rfl⟩;have htw':tw=decide (¬(d.flatten.map (·.c)).Nodup):=by rw[htw];exact decide_eq_decide.2 (not_congr (B5 _ _).nodup_iff)
 obtain⟨th,hth⟩:∃th,th=(d.flatten.map (·.c)).contains s.c:=⟨_,rfl⟩;rw[<-hth]at hse;have hlk:uY x d=um x d (yS (d.flatten.map (·.c))) tw (d.map (zV x)) (yV x d) (d.map jg) (d.map (jr x)):=by rw[htw]
 rw[hlk];obtain⟨on,hon⟩:∃on,on=yS (d.flatten.map (·.c)):=⟨_,rfl⟩;rw[<-hon]at hse ⊢;obtain⟨fa,hfa⟩:∃fa,fa=zV x [s]:=⟨_,rfl⟩;rw[<-hfa]at hmay;have hdn:=hdo.n;refine Xo func352 DG rfl ntmps352 (congrArg Array.toList results352) DC λl V keep nx J hJd hY A0 hA0=>?_
 refine ze (zB (some []) (Row.pures [0,1,2,3,4,5] (.alt 6 (.alt 7 (Row.pures [8] .done) .stop) .stop)) mixed trivial ?_);refine zP (ZaV s) trivial ?_;intro v0;refine DK ?_;refine zu hmay ?_;refine DK ?_;refine zu hse ?_
 by_cases hout:zV x [s]=1\/s.c∈d.flatten.map (·.c)\/¬(d.flatten.map (·.c)).Nodup\/x.veh<d.length
 ·have hz:qc x d s=[]:=by unfold qc;rw[if_pos hout]
  rw[hz]at hY ⊢
  by_cases h1:fa=1
  ·repeat apply ze
   refine zi [(2,30),(5,33),(9,37)] (zt h1 zy) ?_;exact zo rfl (zj (uD (hJd _ _ hA0) rfl (by simpa using hA0)))
  cases h2:th with
  | true =>
   repeat apply ze
   refine zi [(2,30),(5,33),(9,37)] (zt h1 zy) ?_;exact zo rfl (zj (uD (hJd _ _ hA0) rfl (by simpa using hA0)))
  | false =>
   cases h3:tw with
   | true =>
    repeat apply ze
    refine zi [(2,30),(5,33),(9,37)] (zt h1 zy) ?_;exact zo rfl (zj (uD (hJd _ _ hA0) rfl (by simpa using hA0)))
   | false =>
    have h4:x.veh<d.length:=by
     rcases hout with e | e | e | e
     ·exact absurd (hfa.trans e) h1
     ·have:th=true:=by rw[hth,Cp];exact e
      rw[h2]at this;cases this
     ·have:tw=true:=by rw[htw'];exact decide_eq_true e
      rw[h3]at this;cases this
     ·exact e
    repeat apply ze
    refine zi [(2,30),(5,33),(9,37)] (zF h1 h4 zy) ?_;exact zo rfl (zj (uD (hJd _ _ hA0) rfl (by simpa using hA0)))
 have h1:¬fa=1:=λe=>hout (.inl (hfa ▸ e))
 have h2:th=false:=by
  cases e:th with
  | false=>rfl
  | true=>rw[hth,Cp]at e;exact absurd (.inr (.inl e)) hout
 have h3:tw=false:=by
  cases e:tw with
  | false=>rfl
  | true=>rw[htw']at e;exact absurd (.inr (.inr (.inl (of_decide_eq_true e)))) hout
 have h4:¬x.veh<d.length:=λe=>hout (.inr (.inr (.inr e)))
 have hsm:=Zfe hx (s:=s) (λe=>hout (.inl e));obtain⟨WW,hWW⟩:∃WW:Nat->List Spot,WW=λt=>uH x t (d.getD t []) (zV x (d.getD t [])) (yV x d) (jg (d.getD t [])) (jr x (d.getD t [])) s:=⟨_,rfl⟩
 obtain⟨EE,hEE⟩:∃EE:List Spot,EE=if yV x d=0/\zV x [s]=0/\(d.length:Int)<x.veh then [⟨d.length,0,W (yE x [s.c])⟩] else []:=⟨_,rfl⟩
 have hz:qc x d s=(List.range d.length).flatMap WW++EE:=by unfold qc;rw[if_neg hout,hWW,hEE]
 rw[hz]at hY ⊢;subst h2 h3
 repeat apply ze
 refine zi [(2,30),(5,33),(9,37)] (zF h1 h4 zy) ?_;refine zp rfl (zk ?_)
 repeat apply ze
 refine zg ?_;refine zn (jo (σ:=Nat × Store) (λs'=>s'.1<=d.length/\J ((List.range s'.1).flatMap WW).length s'.2) (λs'=>[(0,jH l),(1,.ip [I s.c,I s.q]),(2,.ip (um x d on false (d.map (zV x)) (yV x d) (d.map jg) (d.map (jr x)))),(4,.ptr nx v0 0),(5,I d.length),(6,I fa),(44,I d.length),(45,I s'.1)]) (λs'=>s'.2)
  (λ_=>[.cells v0 42 [L [s]]]) (λs'=>d.length-s'.1) (zT (0,A0) [] (by simpa using hA0) DC rfl DC) ?_)
 rintro⟨k,A⟩ ⟨hk,hJ⟩;simp only at hk hJ ⊢;refine DK ?_;refine ze (zz rfl (λhc=>?_) (λhc=>?_))
 ·simp at hc;have hdk:d[k]?=some d[k]:=Ad hc;have hg:d.getD k []=d[k]:=by rw[Aa,hdk];rfl
  have hb:zV x d[k]=13->0<yV x d:=by
   intro e;rcases BT (yV x d) with q | q
   ·rw[YV.1 q _ (A8 hc)]at e;cases e
   ·exact q
  have hw:=Zmh x d on false (d.map (zV x)) (yV x d) (d.map jg) (d.map (jr x)) k d[k] s (zV x d[k]) (jg d[k]) (jr x d[k]) (AB (ZeK x d) hdn) hdn hdk (by rw[Ah,hdk];rfl) (by rw[Ah,hdk];rfl) (by rw[Ah,hdk];rfl) DC DC DC hb (hdo.t _ (A8 hc)) (hdo.s _ (A8 hc)) hsm;have hWk:WW k=uH x k d[k] (zV x d[k]) (yV x d) (jg d[k]) (jr x d[k]) s:=by rw[hWW];simp only[hg]
  rw[<-hWk]at hw;have hlen:=ZmB WW k;refine zk (ze (zn (DK ?_)));refine DK ?_;refine λhsuf=>((ZeN hw keep hY _ (ZmA hc WW EE) hJ _).mono ?_)
  rintro _ _ ⟨A',rfl,hJ',rfl⟩;rw[List.length_map,<-hlen]at hJ';refine⟨_,_,rfl,zQ hsuf ?_⟩;refine zp rfl (zk (zg ?_));exact zv (k+1,A') [] ⟨hc,hJ'⟩ DF (by simp[zA k (by omega)]) rfl DC
 ·simp at hc;obtain rfl:k=d.length:=DB
  refine zC ?_
  by_cases he:yV x d=0/\zV x [s]=0/\(d.length:Int)<x.veh
  ·have hE:EE=[⟨d.length,0,W (yE x [s.c])⟩]:=by rw[hEE,if_pos he]
   obtain⟨e1,e2,e3⟩:=he;have hlw:=Xs x [s] DC (by simpa using hsm);have h5:fa=0:=hfa.trans e2;have hy:(((List.range d.length).flatMap WW++EE).map uZ)[((List.range d.length).flatMap WW).length]?=some (uZ ⟨d.length,0,W (yE x [s.c])⟩):=by
    rw[Ah,Ai (Af _),Bp,hE];rfl
   simp only[AD,Bk]at hlw;refine ze (zi [(3,58),(7,62)] (zN e1 h5 e3 zy) ?_);refine zo rfl (zg ?_);refine zu hlw ?_;refine λhsuf=>Jr rfl rfl rfl (hY _ _ _ _ hy hJ) ?_
   rintro _ ⟨A',hJ',rfl⟩;refine⟨_,_,rfl,zQ hsuf ?_⟩;exact uD (hJd _ _ hJ') rfl (by rw[List.length_map,Aq,hE];exact hJ')
  ·have hE:EE=[]:=by rw[hEE,if_neg he]
   have hfin:J (((List.range d.length).flatMap WW++EE).map uZ).length A:=by rw[hE,AF,List.length_map];exact hJ
   by_cases e1:yV x d=0
   ·by_cases e2:fa=0
    ·have e3:¬(d.length:Int)<x.veh:=λe=>he ⟨e1,hfa ▸ e2,e⟩
     refine ze (zi [(3,58),(7,62)] (zN e1 e2 e3 zy) ?_);exact zp rfl (zk (uD (hJd _ _ hJ) rfl hfin))
    ·refine ze (zi [(3,58),(7,62)] (zF e1 e2 zy) ?_);exact zp rfl (zk (uD (hJd _ _ hJ) rfl hfin))
   ·refine ze (zi [(3,58),(7,62)] (zt e1 zy) ?_);exact zp rfl (zk (uD (hJd _ _ hJ) rfl hfin))
open Go Go.Proofs
theorem ZmD(id v:Nat)(cs:List PV)(d:zr):(d.flatMap Enc.enc).map (qp id v cs)=(d.flatMap Enc.enc:List PV):=DC
theorem ZmE(id v:Nat)(cs:List PV)(d:zr)(t:Nat)(p:PV):((d.flatMap Enc.enc).set t p).map (qp id v cs)=(d.flatMap Enc.enc:List PV).set t (qp id v cs p):=DC
theorem Zfg:∀(d:zr) (t:Nat) (l:zO),(d.flatMap Enc.enc:List PV).set t (L l)=(d.set t l).flatMap Enc.enc
 | [],t,l=>rfl
 | m :: d,0,l=>rfl
 | m :: d,t+1,l=>by
  rw[AR,Av,Av,<-Zfg d t l];rfl
theorem ZmF{S:Store}{nx m:Nat}{obs:List Ob}(x y:Ob)(hm:m=nx+obs.length):((ext S nx obs).set (m+3) x).set (m+4) y=ext S nx (obs++[.dead,.dead,.dead,x,y]):=by
 subst hm;rw[Xq 3];have:=qU (S:=S) (nx:=nx) (obs:=obs++List.replicate 3 .dead++[x]) y
 grind
theorem ZmG(d:zr)(hd0:d.length<=1048576)(hd1:∀l∈d,l.length<=1048576)(S:Store)(nx:Nat)(hd:zX nx S):
  Spec prog 337 [.agg [L d]] S (λp S'=>∃v,p=.agg [.sl (nx+3) v 1 0 d.length]/\S'=S.set (nx+3) (.cells v 42 (d.flatMap Enc.enc))):=by
 refine(Zbh d d.length hd0 hd1 DC S nx hd).mono ?_;rintro _ _ ⟨v,ts,ob,⟨h1,h2,-⟩,rfl,rfl⟩;obtain⟨rfl,rfl⟩:=h2 (Af _);rw[Ag];refine⟨v,rfl,?_⟩;funext o
 by_cases h4:o=nx+4
 ·subst h4;rw[q11,q10 _ _ _ _ DB,hd _ DB]
 simp_all[q10]
theorem ZmH(cs:List PV)(i:Nat)(p q:PV)(h:i<cs.length):yd (cs.set i p) i [q]=cs.set i q:=by
 unfold yd;rw[Ax,if_pos h,Ax,if_pos h];have hl:(cs.take i).length=i:=by rw[As];omega
 simp_all[Cs]
theorem Zfh(id v sz k:Nat)(cs:List PV)(h:k*sz=cs.length):qp id v cs (.sl id v sz 0 k)=.lst k cs:=by simp[qp,h]
theorem Zbr{α β:Type}{f:β->α->β}{b:β}{l:List α}{i:Nat}{a:α}(h:l[i]?=some a):(l.take (i+1)).foldl f b=f ((l.take i).foldl f b) a:=by grind[List.take_succ_eq_append_getElem]
theorem ZmI{x:Inst}{d:zr}{s:Stop}{b:Spot}(h:b∈qc x d s)(hb:b.t≠d.length):∃l,d[b.t]?=some l/\0<l.length/\b.p<=l.length:=by
 obtain⟨-,-,-,-,h⟩:=XC h;rcases h with ⟨l,hl,hi,ho,-⟩ | ⟨rfl,-⟩
 ·refine⟨l,hl,?_,hi⟩;have hself:zV x l=0\/zV x l=13:=by
   by_cases hf:zV x l=13
   ·exact .inr hf
   ·rw[if_neg hf]at ho;exact .inl (YV.1 DB l (Ab hl))
  have hst:qV x l=true:=by
   cases e:qV x l with
   | true=>rfl
   | false=>rw[Zbm e]at hself;rcases hself with h | h<;>cases h
  exact BQ.2 (Vh hst)
 ·exact absurd rfl hb
theorem ZmJ{x:Inst}{d:zr}{s:Stop}{b:Spot}(h:b∈qc x d s):b.t<=d.length:=by
 obtain⟨-,-,-,-,h⟩:=XC h;rcases h with ⟨l,hl,-⟩ | ⟨rfl,-⟩
 ·exact DA (Ac.1 hl).1
 ·exact Af _
theorem Zbs(x:Inst)(d:zr)(s:Stop)(hx:x.cust.length<=1048576)(hdo:DayOk d)(hf:d.flatten.length<=1000000):Pure prog 323 [.agg (zD x),.agg [L d],.agg [I s.c,I s.q]] (.tup [.agg [L (yO x d s).1],B (yO x d s).2]):=by
 have hit:=Zff x d s hx hdo DB;have hsee:=ZeL x d hx hdo DB;have hmem:=λh=>Vf (l:=qc x d s) h
 have hle:∀b∈qc x d s,b.t<=d.length:=λb hb=>ZmJ hb
 have htour:∀b∈qc x d s,b.t≠d.length->∃l,d[b.t]?=some l/\0<l.length/\b.p<=l.length:=λb hb=>ZmI hb
 have hins:yO x d s=bif (u5 (qc x d s)).2 then (jz d (u5 (qc x d s)).1 s,true) else (d,false):=rfl
 have hsF:=ZeI (uY x d) s rfl;rw[hins];clear hins;generalize qc x d s=xs at *;generalize hlk:uY x d=lk at *;have hdn:=hdo.n;have hd1:∀l∈d,l.length<=1000000:=λl hl=>AB (Yf hl).length_le hf
 refine zx func323 ntmps323 results323 λS nx hd=>?_
 refine DK ?_;intro v0 v1 v2 v3;refine DK ?_;intro v4 v5
 repeat apply ze
 refine zB none (Row.pures [0,1,2,3,4] .done) mixed trivial ?_;refine zP (hsee) trivial ?_;refine zP (hsF) trivial ?_;refine zn (Js (xs:=xs.map uZ) (σ:=Spot × Bool) (λi st=>st=(xs.take i).foldl Yg (⟨0,0,0⟩,false)) [(3,.ptr nx v0 0),(4,.ptr (nx+1) v1 0),(5,.ptr (nx+2) v2 0),(6,.ptr (nx+3) v3 0),(8,.ptr (nx+4) v4 0),(9,.ptr (nx+5) v5 0)] (λ_=>S)
  (λ(b,found)=>[.cells v0 25 (zD x),.cells v1 39 [L d],.cells v2 100 [I s.c,I s.q],.cells v3 39 [yr],.cells v4 400 [I b.t,I b.p,I b.m],.cells v5 4 [B found]]) (⟨0,0,0⟩,false)
  hit rfl (by intro x hx;obtain⟨y,_,rfl⟩:=Ar.1 hx;rfl) DH DC DC rfl DC DC ?_ ?_)
 ·rintro l i ⟨b,found⟩ more y hst hy;simp only at hst ⊢;rw[Ah]at hy;obtain⟨p,hp,rfl⟩:=Am.1 hy;have hsucc:=Zbr (f:=Yg) (b:=(⟨0,0,0⟩,false)) hp;rw[<-hst]at hsucc;unfold Yg at hsucc;simp only at hsucc;refine zg ?_;intro v6;refine zn ?_;cases found with
  | false =>
   rw[if_pos (.inl rfl)]at hsucc;refine ze (zi [(2,21)] zy ?_);refine zo rfl (zg ?_);simp only[jx];exact wB (p,true) [_] hsucc.symm rfl DD
  | true =>
   by_cases hm:p.m<b.m
   ·rw[if_pos (.inr hm)]at hsucc;refine ze (zi [(2,21)] (zt hm zy) ?_);refine zo rfl (zg ?_);simp only[jx];exact wB (p,true) [_] hsucc.symm rfl DD
   ·rw[if_neg (by simp[hm])]at hsucc;refine ze (zi [(2,21)] (zt hm zy) ?_);refine zp rfl (zk ?_);simp only[jx];exact wB (b,true) [_] hsucc.symm rfl DD
 ·rintro⟨b,found⟩ hst;simp only[List.length_map,Ag]at hst ⊢;have hbz:u5 xs=(b,found):=hst.symm;rw[hbz]at hmem ⊢;simp only at hmem ⊢;cases found with
  | false =>
   simp only[cond_false];refine DK ?_;refine zu (Zmd d hdn (λl hl=>AB (hd1 l hl) DH)) ?_;refine ze (zn (DK ?_));refine zo rfl (DK ?_);exact zj (zm hd DD (by simp[zq]))
  | true =>
   have hb:=hmem rfl;have hbl:=hle b hb;simp only[cond_true]
   by_cases hbt:b.t=d.length
   ·have hpd:jz d b s=d++[[s]]:=by unfold jz;rw[if_pos hbt]
    rw[hpd];have hfl:(d.flatMap Enc.enc:List PV).length=d.length:=jI d;have htk:(d.flatMap Enc.enc:List PV).take d.length=d.flatMap Enc.enc:=Ae DB;have hsn:((d++[[s]]).flatMap Enc.enc:List PV)=d.flatMap Enc.enc++[L [s]]:=by rw[Al];rfl
    refine DK ?_;refine λhsuf=>((ZmG d hdn (λl hl=>AB (hd1 l hl) DH) _ _ jU).mono ?_).v
    rintro _ _ ⟨v7,rfl,rfl⟩;refine⟨_,_,Xq 3 _,jy [] Nat.add_assoc hsuf ?_⟩;generalize hds:(d.flatMap Enc.enc:List PV)=ds at *;refine ze (zn (DK ?_));refine zp rfl (DK ?_);refine zo DF ?_;refine zB (some [nx+2]) (Row.pures [0,2,3,4] (.alt 1 (.alt 5 (Row.pures [6] (.alt 7 (.done) .stop)) .stop) .stop)) mixed (zt hfl htk) ?_;refine zP (ZaV s) (zt hfl htk) ?_;refine⟨by omega,?_⟩;refine yb 9 rfl ?_;refine DK ?_;exact zj (zm hd DD (by simp[zq,hfl,hds]))
   ·obtain⟨l,hl,hl0,hp⟩:=htour b hb hbt;have hblt:b.t<d.length:=DB
    have hpd:jz d b s=d.set b.t (jX l b.p s):=by unfold jz;rw[if_neg hbt,Aa,hl];rfl
    have hl1:=hd1 l (Ab hl);rw[hpd];refine DK ?_;refine λhsuf=>((Zme d b.t l hdn (λl hl=>AB (hd1 l hl) DH) hl hl0 _ _ jU).mono ?_).v
    rintro _ _ ⟨v7,w7,rfl,rfl⟩;refine⟨_,_,ZmF _ _ rfl,jy [] Nat.add_assoc hsuf ?_⟩;refine ze (zn (DK ?_));refine zp rfl (DK ?_);refine zp DF ?_;refine ze (zi [] hblt ?_);refine zB (some [nx+4,nx+2]) (Row.pures [0,1,2,3,5,6,7,8] (.alt 4 (.alt 9 (Row.pures [10,11] (.alt 12 (.done) .stop)) .stop) .stop)) mixed hblt ?_
    skip
    refine((Zma l b.p s hp hl1 DC).mono ?_).v;rintro _ _ ⟨rfl,rfl⟩;have hcl:((jX l b.p s).flatMap Enc.enc:List PV).length=(l.length+1)*2:=by
     have e:=(XE l s b.p).length_eq;rw[YN,e];simp
    have hLi:L (jX l b.p s)=.lst (l.length+1) ((jX l b.p s).flatMap Enc.enc):=by
     have e:=(XE l s b.p).length_eq
     show PV.lst _ _=_
     rw[e];rfl
    rw[show l.take b.p++s :: l.drop b.p=jX l b.p s from rfl];generalize hcs:((jX l b.p s).flatMap Enc.enc:List PV)=cs at *;rw[yh _ DB DC,AE];refine⟨by simp[yH],jp hblt ?_⟩;refine⟨by omega,?_⟩;rw[ZmH _ _ _ _ (by rw[jI];exact hblt)];have e10:qp (nx+10) (w7+1) cs (.sl (nx+10) (w7+1) 2 0 (l.length+1))=L (jX l b.p s):=by
     rw[Zfh _ _ _ _ _ hcl.symm,hLi]
    have e9:qp (nx+9) v7 ((d.set b.t (jX l b.p s)).flatMap Enc.enc) (.sl (nx+9) v7 1 0 d.length)=L (d.set b.t (jX l b.p s)):=by
     rw[Zfh _ _ _ _ _ (by rw[jI];simp)]
     show _=PV.lst _ _
     rw[BJ]
    have n9:qp (nx+10) (w7+1) cs (.sl (nx+9) v7 1 0 d.length)=.sl (nx+9) v7 1 0 d.length:=by
     simp only[qp];rw[if_neg DB]
    refine yb 10 rfl ?_;simp only[AD,Bk,AR,AW,xA,ZmE,e10,Zfg,n9];refine yb 9 rfl ?_;simp only[AD,Bk,AR,AW,xA,e9];refine ze (zi [] (zt e9 n9) ?_);exact zj (zm hd DD (by simp[zq]))
open Go Go.Proofs
theorem Zfi{α:Type}(f:Nat->List α)(m:Nat):∀n,(∀t,t<n->(f t).length<=m)->((List.range n).flatMap f).length<=n*m
 | 0,_=>by simp
 | n+1,h=>by
  rw[AT,Al,Aq];have h1:=Zfi f m n λt ht=>h t DB
  have h2:=h n DB;simp only[Av,Cm,AF];rw[Nat.add_mul,Dw];omega
theorem ZmK{d:zr}(h1:d.length<=1000000)(h2:d.flatten.length<=1000000):(YW d).length<=1000001*1000001:=by
 unfold YW;refine AB (Zfi _ 1000001 _ λt _=>?_) (Cc _ DB);rw[List.length_map,List.length_range,Aa];cases hq:d[t]? with
 | none=>simp
 | some l =>
  have:=(Yf (Ab hq)).length_le;simp only[Option.getD_some];omega
theorem ZmL{x:Inst}{d:zr}{s:Stop}(hd:yv x d=0)(h1:d.length<=1000000)(h2:d.flatten.length<=1000000):(qc x d s).length<=1000001*1000001:=by
 rw[Zms hd];exact AB (Cv _ _) (ZmK h1 h2)
theorem ZmM(cs:List PV)(v:PV)(h:0<cs.length):yd cs (cs.length-1) [v]=cs.set (cs.length-1) v:=by
 unfold yd;rw[Ax,if_pos DB];simp
theorem Zfj:∀(l:List Int) (k:Nat) (v:Int),(l.flatMap Enc.enc:List PV).set k (I v)=(l.set k v).flatMap Enc.enc
 | [],k,v=>rfl
 | a :: l,0,v=>rfl
 | a :: l,k+1,v=>by
  rw[AR,Av,Av,<-Zfj l k v];rfl
theorem ZmN(st:List Int × Int)(p:Spot):(wH st p).1.length<=st.1.length+1:=by
 unfold wH;split<;>simp
def Zbt(st:List Int × Int):Prop:=st.2=-1\/0<st.1.length
theorem ZmO{st:List Int × Int}(h:Zbt st)(p:Spot):Zbt (wH st p):=by
 unfold wH;split
 ·exact .inr DC
 ·rename_i e;rcases h with h | h
  ·exfalso;simp only[ne_eq]at e;omega
  ·exact .inr (by simpa using h)
theorem ZmP(x:Inst)(d:zr)(s:Stop)(hx:x.cust.length<=1048576)(hdo:DayOk d)(h0:yv x d=0)(h1:d.length<=1000000)(h2:d.flatten.length<=1000000):Pure prog 351 [.agg (uY x d),.agg [I s.c,I s.q]] (L (JD x d s)):=by
 have hit:=Zff x d s hx hdo DB;have hfold:=Zmx (s:=s) h0;have hlen:=ZmL (s:=s) h0 h1 h2;have hml:=Zmy x d s (d.length+1);have hsF:=ZeI (uY x d) s rfl;unfold JD;rw[<-hfold]at hml ⊢;clear hfold;generalize qc x d s=xs at *;obtain⟨on,tw,fs,bd,ls,ws,hlk⟩:∃on tw fs bd ls ws,uY x d=um x d on tw fs bd ls ws:=⟨_,_,_,_,_,_,rfl⟩;rw[hlk]at hit hsF ⊢;clear hlk;refine zx func351 ntmps351 results351 λS nx hd=>?_
 refine DK ?_;intro v0 v1;refine DK ?_;intro v2;refine DK ?_;intro v3
 repeat apply ze
 refine zg ?_;refine zu hsF ?_;refine jd 2 0 3 1 rfl rfl λv4=>?_
 refine zn (Js (xs:=xs.map uZ) (σ:=(List Int × Int) × Nat) (λi st=>st.1=(xs.take i).foldl wH ([],-1)/\Zbt st.1/\st.1.1.length<=i/\i<=xs.length) [(2,.ptr nx v0 0),(3,.ptr (nx+1) v1 0),(5,.ptr (nx+2) v2 0),(6,.ptr (nx+3) v3 0)] (λ_=>S)
  (λ((l,last),v4)=>[.cells v0 395 (um x d on tw fs bd ls ws),.cells v1 100 [I s.c,I s.q],.cells v2 26 [.sl (nx+4) v4 1 0 l.length],.cells v3 3 [I last],.cells v4 3 (l.flatMap Enc.enc)]) (([],-1),v4)
  hit rfl (by intro x hx;obtain⟨y,_,rfl⟩:=Ar.1 hx;rfl) DH DC ⟨rfl,.inl rfl,by simp,by simp⟩ rfl DC DC ?_ ?_)
 ·rintro lp i ⟨⟨l,last⟩,v4⟩ more y ⟨hst,hok,hli,hi⟩ hy;simp only at hst hok hli hi ⊢;rw[Ah]at hy;obtain⟨p,hp,rfl⟩:=Am.1 hy;have hsucc:=Zbr (f:=wH) (b:=([],-1)) hp;rw[<-hst]at hsucc;have hok2:=ZmO hok p;have hln2:=ZmN (l,last) p;simp only at hln2;have hil:=(Ac.1 hp).1;have hdef:wH (l,last) p=wH (l,last) p:=rfl
  conv at hdef=>rhs;unfold wH
  simp only at hdef;have hlf:(l.flatMap Enc.enc:List PV).length=l.length:=je l;have hlt:(l.flatMap Enc.enc:List PV).take l.length=l.flatMap Enc.enc:=Ae DB;refine zg ?_;intro v5;refine zn ?_
  repeat apply ze
  refine zg ?_
  by_cases hpl:(p.t:Int)=last
  ·have hl0:0<l.length:=by
    rcases hok with e | e
    ·simp only at e;omega
    ·exact e
   obtain⟨m,hm⟩:∃m,l.length=m+1:=⟨l.length-1,by omega⟩;obtain⟨z,tz,z1,z2,z3,z0⟩:=zL rfl l m DB;rw[if_neg (by simp[hpl])]at hdef;have hgz:l.getD (l.length-1) 0=z:=by rw[hm,BW,Aa,z1];rfl
   rw[hgz]at hdef;have wm:IntKind.i64.wrap ((l.length:Int)-1)=(m:Int):=by rw[wr _ DB DB];omega
   have hml1:m<l.length:=DB
   have hml2:1<=l.length-m:=DB
   have hsp:=ZmM (l.flatMap Enc.enc) (I (if p.m<z then p.m else z)) DB;rw[hlf,Zfj]at hsp;have hmin:xh z p.m=if p.m<z then p.m else z:=rfl
   refine zp (by simp[hpl]) ?_;refine zk ?_;rw[show l.length-1=m by omega]at hsp;refine zB (some [nx+2,nx+(more.length+5)]) (Row.pures [0,1,2,3,4,5,6,7,8,10,11] (.alt 9 (Row.pures [12,13] (.alt 14 (.done) .stop)) .stop)) mixed (zS wm hml1 hml2 z0 hmin hlf) ?_;refine⟨by omega,?_⟩;simp only[jx];rw[hm,BW]at hdef;rw[hdef]at hsucc hok2;refine wB ((l.set m (if p.m<z then p.m else z),last),v4) [_] ⟨hsucc.symm,hok2,by simp;omega,by omega⟩ rfl (by simp[hsp];rfl)
  ·rw[if_pos hpl]at hdef;rw[hdef]at hsucc hok2 hln2;have w0:IntKind.i64.wrap (l.length:Int)=(l.length:Int):=wr _ DB DB;have w2:(l.length:Int)<(l.length:Int)+1:=DB
   have hmin:xh p.m p.m=p.m:=by unfold xh;split<;>rfl
   have hat:(l.flatMap Enc.enc++[I p.m]:List PV)[l.length]?=some (I p.m):=by rw[Ai DB,hlf,Bp];rfl
   have hdl:(l.flatMap Enc.enc++[I p.m]:List PV).drop l.length=[I p.m]:=by rw[<-hlf,List.drop_left]
   have hspl:yd (l.flatMap Enc.enc++[I p.m]:List PV) l.length [I p.m]=l.flatMap Enc.enc++[I p.m]:=by
    unfold yd;rw[<-hlf,List.take_left,A7 DC];simp
   refine zo (by simp[hpl]) ?_;refine zB (some [nx+(more.length+5)]) (Row.pures [1,2,3,5,6] (.alt 0 (.alt 4 (.alt 7 (.alt 8 (.done) .stop) .stop) .stop) .stop)) mixed (zt hlf hlt) ?_;refine⟨by omega,?_⟩;refine zB (some [nx+2,nx+(more.length+5)]) (Row.pures [0,1,2,3,4,5,6,7,8,10,11] (.alt 9 (Row.pures [12,13] (.alt 14 (.done) .stop)) .stop)) mixed (yq w0 w2 hmin hat hlf) ?_;simp only[jx];refine wB ((l++[p.m],(p.t:Int)),v4+1) [_] ⟨hsucc.symm,hok2,by simp;omega,by omega⟩ rfl (by simp[hspl];rfl)
 ·rintro⟨⟨l,last⟩,v4⟩ ⟨hst,-⟩;simp only[List.length_map,Ag]at hst ⊢;rw[<-hst]at hml ⊢;simp only at hml ⊢;have hz4:=YO l;refine DK ?_;refine λhsuf=>((W0 l DC DB).mono ?_).v
  rintro _ _ rfl;refine⟨_,_,yh _ DB DC,jy [] (show nx+4-nx=4 by omega) hsuf ?_⟩;generalize yS l=c at *;rw[<-hz4];refine yb 4 rfl ?_;refine DK ?_;exact DL hd
open Go Go.Proofs Go.Shelf Go.RowKit Go.Lib
theorem ZmQ{P:Program}(b o:Nat)(vs:List Value)(w:World)(cur:Array Value)(t:TypeId)(hw:w.heap[b]?=some (.cells cur t (0,0)))(hl:o+vs.length<=cur.size)(h1:∀v∈vs,v.oneCell'=true):
  w.setCells b o vs=w.setRow b (cur.toList.take o++vs++cur.toList.drop (o+vs.length)).toArray:=by
 have a:=run_storeCells_cells (P:=P) b o vs 0 w (λj hj=>by simp[World.cell?,hw];omega) (λj _=>by simp[World.frozen?,hw]) h1;have c:=run_storeCells_at (P:=P) b o t vs 0 cur w hw (by simpa using hl) h1;rw[a]at c;simpa using c
theorem ZmR(zc:Array Value):(Builtin.zeroCells zc 1).toList=zc.toList:=by
 apply Bg
 ·simp[Builtin.zeroCells]
 ·intro i h1 h2;simp[Builtin.zeroCells,Nat.mod_eq_of_lt (show i<zc.size by simpa using h2)];exact getElem!_pos zc i (by simpa using h2)
theorem ZmS{P:Program}(w:World)(t e ty:TypeId)(zc:Array Value)(ht:P.underlying t=some (.slice e))(hv:∀w,(zeroValue e).run P w=.ok (.agg zc) w)(h1:∀v∈zc.toList,v.oneCell'=true)(b o c:Nat)(cur:Array Value)(t':TypeId)(hw:w.heap[b]?=some (.cells cur t' (0,0)))(hl:o+zc.size<=cur.size):
  (Builtin.clear_ #[t] ty #[.slice (some ⟨b,o,none⟩) 1 c]).run P w=.ok (.tuple #[]) (w.setRow b (cur.toList.take o++zc.toList++cur.toList.drop (o+zc.size)).toArray):=by
 have c:=run_storeCells_at (P:=P) b o t' zc.toList 0 cur w hw (by simpa using hl) h1;simp only[Bs,Array.length_toList]at c;simp[Builtin.clear_,run_underlying ht,hv,ZmR,c]
theorem ZmT(b n c i:Nat)(V:List Value)(w:World)(i0:TypeInfo)(hi0:prog.info? 100=some i0)(hzs:i0.size=2)(cur:Array Value)(hcur:w.heap[b]?=some (.cells cur 100 (0,0)))(hcc:cur.size=c*2)
  (hi:i<n) (hnc:n<=c) (hc63:c<=9223372036854775807) (hn:n<=1048576) (hV:V.length=n*2) (hcV:cur.toList.take (n*2)=V) (h1:∀v∈V,v.oneCell'=true) (R1 R2:Array Value)
  (hR1:R1=(cur.toList.take (i*2)++V.drop ((i+1)*2)++cur.toList.drop (i*2+(V.drop ((i+1)*2)).length)).toArray) (hR2:R2=(R1.toList.take ((i+(n-(i+1)))*2)++([.int .i64 0,.int .i64 0]:List Value)++R1.toList.drop ((i+(n-(i+1)))*2+2)).toArray) :
  Calls prog 335 #[.slice (some ⟨b,0,none⟩) n c,.int .i64 i,.int .i64 ((i:Int)+1)] w λe w' =>
   e=.returned (.slice (some ⟨b,0,none⟩) (i+(n-(i+1))) c)/\w'=(w.drew.setRow b R1).setRow b R2:=by
 obtain⟨news,hnews⟩:∃news,news=V.drop ((i+1)*2):=⟨_,rfl⟩;have hlen:news.length=(n-(i+1))*2:=by rw[hnews,Bj,hV];omega
 have hget:∀t u,news[t]?=some u->w.drew.cell? ⟨b,(i+1)*2+t,none⟩=some u:=by
  intro t u hu;rw[hnews,AK,<-hcV,BA]at hu;split at hu
  ·rw[Array.getElem?_toList]at hu
   show w.cell? _=_
   simp[World.cell?,hcur,hu]
  ·cases hu
 obtain⟨A,hA,hsrc⟩:∃A:Addr,(if c=i+1 then some (⟨b,0,none⟩:Addr) else some ⟨b,(i+1)*2,none⟩)=some A/\Hid (∀t u,news[t]?=some u->w.drew.cell? (A.add t)=some u):=by
  by_cases h:c=i+1
  ·refine⟨⟨b,0,none⟩,by simp[h],λt u hu=>?_⟩;have h0:news.length=0:=by rw[hlen];omega
   rw[Cl.1 h0]at hu;simp at hu
  ·refine⟨⟨b,(i+1)*2,none⟩,by simp[h],λt u hu=>?_⟩;rw[Addr.add_lit];exact hget t u hu
 have s1:Hid (news.length=(n-(i+1))*2):=hlen;have s2:Hid (∀u∈news,u.oneCell'=true):=λu hu=>h1 u (by rw[hnews]at hu;exact Cb hu)
 have s3:Hid (∀t,t<news.length->(w.drew.cell? ⟨b,0+i*2+t,none⟩).isSome=true/\w.drew.frozen? ⟨b,0+i*2+t,none⟩=false):=by
  intro t ht;rw[hlen]at ht;refine⟨?_,?_⟩
  ·show (w.cell? _).isSome=true
   simp[World.cell?,hcur];omega
  ·show w.frozen? _=false
   simp[World.frozen?,hcur]
 obtain⟨W1,hW1⟩:∃W1,W1=w.drew.setCells b (0+i*2) news:=⟨_,rfl⟩;have hW1':W1=w.drew.setRow b R1:=by
  rw[hW1,ZmQ (P:=prog) b (0+i*2) news w.drew cur 100 hcur (by rw[hlen,hcc];omega) s2,hR1,hnews,AQ]
 have hW1h:W1.heap[b]?=some (.cells R1 100 (0,0)):=by rw[hW1'];exact setRow_heap _ _ _ _ _ _ hcur
 have hR1s:R1.size=c*2:=by rw[hR1,<-hnews];simp[hlen];omega
 have hcl:∀ty,(Builtin.clear_ #[40] ty #[.slice (some ⟨b,(i+(n-(i+1)))*2,none⟩) (n-(i+(n-(i+1)))) (c-(i+(n-(i+1))))]).run prog W1=.ok (.tuple #[]) (W1.setRow b R2):=λty=>by
  have:=ZmS (P:=prog) W1 40 100 ty #[.int .i64 0,.int .i64 0] underlying40 zeroValue100 (by intro v hv;simp at hv;rcases hv with rfl | rfl<;>rfl) b ((i+(n-(i+1)))*2) (c-(i+(n-(i+1)))) R1 100 hW1h DF;rw[show n-(i+(n-(i+1)))=1 by omega,this,hR2];simp
 have hW:Hid (W1=w.drew.setCells b (0+i*2) news):=hW1;have hX:Hid (W1=w.drew.setRow b R1):=hW1';clear hW1 hW1' hW1h hR1 hR2 hR1s hcur hcV hget hnews hlen h1 hV hcc;have hic:i<=c:=DB
 have hjc:i+1<=c:=DB
 have hin:i<=n:=DB
 have hjn:i+1<=n:=DB
 have hne:¬(i:Int)=(i:Int)+1:=DB
 have hb1:(0:Int)<=(i:Int)+1:=DB
 have htn:((i:Int)+1).toNat=i+1:=DB
 have hb2:(i:Int)+1<=(n:Int):=DB
 have hb3:(i:Int)<=(i:Int)+1:=DB
 have hcn:¬c=i+(n-(i+1)):=DB
 have hnn:i+(n-(i+1))<=n:=DB
 have mixed:prog.follows .mixedOrders=true:=DE
 go_enter func335,ntmps335
 go_wp2_with fail
 go_region_law_o (refine step_append_room rfl (.tmp 22) (.tmp 25) 40 rfl 100 i0 2 underlying40 hi0 hzs b 0 i c (by simp[Act.eval,Act.put]) A (n-(i+1)) (c-(i+1)) news (by simp[Act.eval,Act.put]) s1.out hsrc.out s2.out DB s3.out ?_;rw[<-hW.out])
 go_wp2
 go_ret
 exact⟨rfl,by rw[hX.out]⟩
theorem ZmU(l:List Stop)(i:Nat)(h:i<l.length):yo (l.eraseIdx i)=(yo l).take (i*2)++(yo l).drop ((i+1)*2):=by
 rw[CG,ZaR,Zd4 l i DB,Zd5 l (i+1) DB]
theorem ZmV{S:Store}{id ver:Nat}(cs:List Stop)(i:Nat)(hi:i<cs.length)(hn:cs.length<=1000000)(hid:S id=.cells ver 100 (cs.flatMap Enc.enc)):
  Spec prog 335 [.sl id ver 2 0 cs.length,I i,I ((i:Int)+1)] S (λp S'=>p=.sl id (ver+1) 2 0 (cs.eraseIdx i).length/\S'=S.set id (.cells (ver+1) 100 ((cs.eraseIdx i).flatMap Enc.enc))):=by
 refine⟨qb func335 DG rfl,?_⟩;intro C w vs hS hl hr;obtain⟨u,v,x,rfl⟩:=Zd6 hl;obtain rfl:=QD (hr 1 _ v rfl rfl);obtain rfl:=QD (hr 2 _ x rfl rfl);have hu:=hr 0 _ u rfl rfl;have hvl:(yo cs).length=cs.length*2:=Jv cs;have hel:(cs.eraseIdx i).length=i+(cs.length-(i+1)):=by rw[BM hi];omega
 have hnew:=ZmU cs i hi;have hnl:(yo (cs.eraseIdx i)).length=(i+(cs.length-(i+1)))*2:=by rw[Jv,hel]
 rw[Zd3]at hid ⊢;rw[hel];generalize cs.eraseIdx i=es at *;obtain⟨i0,hi0⟩:=BV.1 ZaM;have hc:=ZaL;simp only[Program.cellsOf,hi0,A5,Option.getD_some]at hc;cases hu with
 | sl h1 h2 h3 =>
  obtain⟨ad,cap,rfl,q1,q2,q3,q4⟩:=h1;have hloc:=(h3 ver (by rw[hid];rfl)).2 rfl;rcases hS.cells id ver _ _ hid with ⟨hno,hnil⟩ | ⟨b,k,c,g1,g2,g3,g4,g5,g6⟩
  ·have:=congrArg List.length hnil;simp[hvl]at this;exfalso;omega
  rcases hloc with ⟨z1,_⟩ | ⟨b',k',ad',cap',z1,z2,z3,z4⟩
  ·rw[g1]at z1;cases z1
  rw[g1]at z1;cases z1;cases z2;obtain⟨rfl,hcap⟩:=z3 rfl;rw[List.length_map,hvl]at g4;have hcells:∀(j:Nat) v,(yo cs)[j]?=some v->c[j]?=some v:=by
   intro j v hj;have hjl:=(Ac.1 hj).1;have e2:c[j]?=some c[j]:=A4 DB;have:=g6 j (.sc v) _ (by rw[Ah,hj];rfl) e2;rw[e2];generalize c[j]=y at this;cases this;rfl
  have hcur:c.toList.take (cs.length*2)=yo cs:=by
   apply AX;intro j
   by_cases hj:j<cs.length*2
   ·rw[AI hj,Array.getElem?_toList];have e:(yo cs)[j]?=some (yo cs)[j]:=Ad DB;rw[e,hcells j _ e]
   ·rw[Ak DF,Ak DB]
  have hcsz:c.size=cap*2:=g3.trans hcap.symm;have hdl:((yo cs).drop ((i+1)*2)).length=(cs.length-(i+1))*2:=by rw[Bj,hvl];omega
  obtain⟨R1,hR1⟩:∃R1:Array Value,R1=(c.toList.take (i*2)++(yo cs).drop ((i+1)*2)++c.toList.drop (i*2+((yo cs).drop ((i+1)*2)).length)).toArray:=⟨_,rfl⟩;obtain⟨R2,hR2⟩:∃R2:Array Value,R2=(R1.toList.take ((i+(cs.length-(i+1)))*2)++([.int .i64 0,.int .i64 0]:List Value)++R1.toList.drop ((i+(cs.length-(i+1)))*2+2)).toArray:=⟨_,rfl⟩;have htk:c.toList.take (i*2)=(yo cs).take (i*2):=by rw[<-hcur,Du,A9 DB]
  have hR1l:R1.toList.take ((i+(cs.length-(i+1)))*2)=yo es:=by
   rw[hR1];simp only[];rw[htk,<-hnew,<-hnl,List.take_left]
  have hR1s:R1.size=cap*2:=by rw[hR1];simp[hdl];omega
  have hR2l:R2.toList=yo es++(([.int .i64 0,.int .i64 0]:List Value)++R1.toList.drop ((i+(cs.length-(i+1)))*2+2)):=by
   rw[hR2,hR1l];simp
  have hR2s:R2.size=cap*2:=by
   rw[<-Array.length_toList,hR2l];simp[hnl,hR1s];omega
  refine(ZmT b cs.length cap i (yo cs) w i0 hi0 hc c g2 hcsz hi q1 (by unfold maxLen at q3;omega) DB hvl hcur (Jw cs) R1 R2 hR1 hR2).mono ?_;rintro e w' ⟨rfl,rfl⟩;obtain⟨r1,r2⟩:=ZaS (C:=C) (S:=S) (w:=w) hR2l (Jw _);have hb1:=setRow_heap w.drew b c R1 _ _ g2;obtain⟨t1,t2⟩:=hS.turn (l:=some (b,cap*2)) (ver':=ver+1) (cs':=(yo es).map .sc) hid DB (λh=>absurd h DB) (w':=(w.drew.setRow b R1).setRow b R2)
   (by
    rw[g1];refine⟨⟨rfl,rfl,rfl,by simp[World.setRow],λj hj hne=>?_⟩,CD _⟩;have hjb:j≠b:=λe=>hne (by rw[e];rfl)
    rw[setRow_other _ _ _ _ hjb,setRow_other _ _ _ _ hjb];rfl)
   (.inr ⟨b,cap*2,R2,rfl,.inr (by rw[g1];rfl),setRow_heap _ _ _ _ _ _ hb1,hR2s,by rw[List.length_map,hnl];omega,r1,r2⟩)
  refine⟨_,_,_,_,rfl,⟨rfl,rfl⟩,?_,t1,t2⟩;refine .sl ⟨_,_,rfl,by omega,by unfold jT;omega,q3,λ_=>⟨_,_,rfl⟩⟩ ⟨h2.1,by simp only[Ctx.at];omega⟩ λv0 hv0=>?_
  rw[q11]at hv0;cases hv0;exact⟨Af _,λ_=>.inr ⟨b,_,_,_,by simp[Ctx.at],rfl,λ_=>⟨rfl,rfl⟩,λ_=>rfl⟩⟩
end Go.Proofs.YtcocagkbfpgmiaaGreatDoor.Pv
