/- Part of a proof, packed. -/
import Derived.Test.YtdjbbndbalhekaaGreatDoorF7
open Option.some (inj)
open Go.Proofs.Tryz
set_option linter.defProp false
set_option maxRecDepth 100000
set_option maxHeartbeats 3200000
namespace Go.Proofs.YtdjbbndbalhekaaGreatDoor.Pv
open Go Go.Proofs Hp
def wB(c:UInt8):UInt8:=if c.toNat<33\/126<c.toNat then 120 else c
def VC(s:List UInt8):Wd:=if s=[] then [120] else (s.take 12).map wB
def ZyV(c:UInt8):33<=(wB c).toNat/\(wB c).toNat<=126:=by unfold wB;split;decide;omega
def ZyW(s:List UInt8):jR (VC s)/\(VC s).length<=12:=by
 unfold VC;split;exact⟨⟨by simp,by simp⟩,by simp⟩;rename_i h;refine⟨⟨?_,λc hc=>?_⟩,by simp;omega⟩
 .cases s with
  |nil=>exact absurd rfl h
  |cons a s=>simp
 obtain⟨d,-,rfl⟩:=Ak.1 hc;exact ZyV d
def ZyX(s:List UInt8):PP 21 [T (bs s)] (T (bs (VC s))):=by
 have o:=xK s;refine c9 func21 λS nx hd=>?_;refine EJ ?_;refine qa 3 5 1 rfl λv0=>?_;refine ze (EJ ?_);refine zn (zF (λq:Nat × Nat=>q.1<=s.length/\q.1<=12) (λ(i,v)=>[(0,T (bs s)),(3,.sl nx v 1 0 i),(4,I i)]) (λ(i,v)=>[.cells v 5 (((s.take i).map wB).map U8)]) (λq=>s.length-q.1) (0,v0) [] EA EA EA ?_);rintro⟨i,v⟩ ⟨hi,a3⟩;simp only at hi a3 ⊢;by_cases t:i<s.length/\i<12;obtain⟨g,d⟩:=t;have w:=eq_true g;have e2:=eq_true d;have x:=eq_true (show (i:Int)<s.length by omega);have e4:=eq_true (show (i:Int)<12 by omega);obtain⟨c,hc⟩:∃c,s[i]?=some c:=⟨_,Ac g⟩;have a4:=(XX s i).trans hc;have j:((s.take (i+1)).map wB).map U8=((s.take i).map wB).map U8++[U8 (wB c)]:=by rw[Ax,hc];simp
 have a5:(((s.take i).map wB).map U8).length=i:=ED;have f:List.take i (((s.take i).map wB).map U8)=((s.take i).map wB).map U8:=Ad D9;generalize ((s.take i).map wB).map U8=cs at *
 refine ze (aF [(4,10)] (yp o w e2 x e4) ?_);refine aD ?_;refine zk (aA (aF [] a4 ?_));by_cases k:c.toNat<33\/126<c.toNat;have hw:wB c=120:=if_pos k;rw[hw]at j;obtain q|q:=k;have y:=eq_true q;have z:=eq_true (show (c.toNat:Int)<33 by omega);refine ze (aF [(2,21)] (zD y z zz) ?_);refine aD ?_;refine zg ?_;refine zi [] f ?_;refine⟨by omega,?_⟩;refine zg ?_;exact zv (i+1,v+1) [] ⟨g,d⟩ D9 (by simp[zy i D9]) rfl (by simp only[j];rfl);have q0:¬c.toNat<33:=D9;have p:¬(c.toNat:Int)<33:=D9;have y:=eq_true q;have z:=eq_true (show 126<(c.toNat:Int) by omega);refine ze (aF [(2,21)] (zM q0 p y z) ?_);refine aD ?_;refine zg ?_;refine zi [] f ?_;refine⟨by omega,?_⟩;refine zg ?_;exact zv (i+1,v+1) [] ⟨g,d⟩ D9 (by simp[zy i D9]) rfl (by simp only[j];rfl);have hw:wB c=c:=if_neg k;rw[hw]at j;have q0:¬c.toNat<33:=D9;have p:¬(c.toNat:Int)<33:=D9;have y:¬126<c.toNat:=D9;have z:¬126<(c.toNat:Int):=D9;refine ze (aF [(2,21)] (zM q0 p y z) ?_);refine aC (zi [] f ?_);refine⟨by omega,?_⟩;refine zg ?_;exact zv (i+1,v+1) [] ⟨g,d⟩ D9 (by simp[zy i D9]) rfl (by simp only[j];rfl);have f:s.take i=s.take 12:=by by_cases q:i=12;rw[q];rw[Ad D9,Ad D9]
 have a0:(i<s.length->¬i<12):=λa b=>t ⟨a,b⟩;have hR:(s=[]/\i=0)\/(s≠[]/\0<i):=by by_cases q:s=[];left;subst q;simp at hi;exact⟨rfl,hi⟩;right;have:=Bt.2 q;exact⟨q,by omega⟩
 rw[f];have a1:VC s=if s=[] then [120] else (s.take 12).map wB:=rfl;have a2:((s.take 12).map wB).length=i:=by rw[<-f];simp;omega
 rw[a1];clear a1;generalize (s.take 12).map wB=cs at *;obtain q|q:=Bc i s.length;have w:=eq_true q;have x:=eq_true (show (i:Int)<s.length by omega);have e2:¬i<12:=a0 q;have e4:¬(i:Int)<12:=D9;refine ze (aF [(4,10)] (yp o w x e2 e4) ?_);refine aE ?_;refine zB ?_;have i0:¬i=0:=D9;have m:¬(i:Int)=0:=D9;have r:s≠[]:=by rintro rfl;simp at q
 rw[if_neg r];refine ze (aF [] (zq i0 m) ?_);refine zp (by simp[i0,m]) ?_;refine zk (EJ ?_);refine λn=>dV (e:=5) (l:=cs) (off:=0) (id:=nx) (ver:=v) rfl EA EA EA (by simp[a2]) (by rw[ui];rfl) (λi u h=>by rw[AV,Ai,h];rfl) D9 ?_;refine⟨_,_,rfl,zS n ?_⟩;exact EK hd;have w:¬i<s.length:=D9;have x:¬(i:Int)<s.length:=D9;refine ze (aF [(4,10)] (zM o w x zz) ?_);refine aE ?_;refine zB ?_;obtain⟨rfl,rfl⟩|⟨r,a6⟩:=hR;refine ze (EJ ?_);refine aD ?_;refine EJ ?_;exact zj (zm hd EB (by simp[zr]));have i0:¬i=0:=D9;have m:¬(i:Int)=0:=D9;rw[if_neg r];refine ze (aF [] (zq i0 m) ?_);refine zp (by simp[i0,m]) ?_;refine zk (EJ ?_);refine λn=>dV (e:=5) (l:=cs) (off:=0) (id:=nx) (ver:=v) rfl EA EA EA (by simp[a2]) (by rw[ui];rfl) (λi u h=>by rw[AV,Ai,h];rfl) D9 ?_;refine⟨_,_,rfl,zS n ?_⟩;exact EK hd
def ZyY(z:Int):jR (zJ z):=by unfold zJ;first|exact YF _|(split<;>exact YF _)
def lH(r:Rep):(∀l∈j9 r,l≠[])/\∀l∈j9 r,∀w∈l,jR w:=by
 have k1:jR jE:=(uz _).1 EG;have h:jR ea:=(uz _).1 EG;have j:jR tS:=(uz _).1 EG;have k:jR Q4:=(uz _).1 EG;have e:jR xX:=(uz _).1 EG;have f:jR qn:=(uz _).1 EG;have m:jR Za:=(uz _).1 EG;have n:jR Zb:=(uz _).1 EG;have g:jR qG:=(uz _).1 EG;have c:jR wV:=(uz _).1 EG;have hI:=ZyY;have b:=YF;have o:∀l∈xA r.days++qS r.Z,l≠[]/\∀w∈l,jR w:=by intro l hl;obtain hl|hl:=AC.1 hl;obtain⟨i,-,rfl⟩:=Ak.1 hl;simp[g,hI,b];unfold qS at hl;obtain rfl|hl:=Am.1 hl;simp[f,b];obtain⟨d,-,hl⟩:=Bz.1 hl;unfold vW at hl;obtain rfl|hl:=Am.1 hl;simp[g,b];obtain⟨t,-,rfl⟩:=Ak.1 hl;unfold xY;refine⟨by simp,λw a=>?_⟩;obtain rfl|a:=Am.1 a;exact c;obtain rfl|a:=Am.1 a;exact b _;obtain⟨s,-,a⟩:=Bz.1 a;simp at a;obtain rfl|rfl:=a<;>exact hI _
 have key:∀l∈j9 r,l≠[]/\∀w∈l,jR w:=by
  intro l hl;unfold j9 at hl;split at hl;simp at hl;subst hl;simp[k1,h];split at hl;simp at hl;subst hl;simp[k1,j];split at hl;simp at hl;obtain rfl|rfl:=hl<;>simp[k1,k,e,hI];split at hl;rcases Am.1 hl with rfl|hl
  simp[k1,f];obtain rfl|hl:=Am.1 hl;simp[e,hI];obtain rfl|hl:=Am.1 hl;simp[m,hI];obtain rfl|hl:=Am.1 hl;simp[n,hI];exact o l hl;cases hl
 exact⟨λl hl=>(key l hl).1,λl hl=>(key l hl).2⟩
variable {t:List UInt8}
def ZyZ{s:List UInt8}(h:t.length<=1048576)(hs:s.length<=1048576)(f:∀ls,yO s=some ls->LnsSz ls)(c:(yn t).2=0->(yn t).1.y.length<=900):Xe t s=bu t s:=by
 unfold Xe bu vG;cases g:yO s with
 |none=>simp
 |some ls =>
 dsimp only;have d:=f ls g;have i:=(JT _ (Ag _) g).1;by_cases h0:(yn t).2=0
 .obtain⟨-,hm,-⟩:=eM h h0;have j:=(Zg hm).days;have h1:=Zx9 (x:=(yn t).1) (n:=(yn t).1.days.toNat) D9 D9 (c h0) (ls:=ls) (by have:=d.1;omega) (λl hl=>by have:=d.2 l hl;omega);rw[decide_eq_true h0,BP,BP,<-h1];unfold eI;cases k:Zc ls with
  |none=>rfl
  |some r =>
  dsimp only;congr 1;rw[decide_eq_decide];obtain⟨a,b⟩:=lH r;exact⟨λe=>by have:=aJ a b;rw[e,g]at this;exact(inj this).symm,λe=>by rw[e,i]⟩
 rw[decide_eq_false h0,B0,B0,B0]
def Jn(ls:List Ln):Prop:=ls.length<=100/\∀l∈ls,l≠[]/\l.length<=100/\∀w∈l,jR w/\w.length<=20
def lI{ls:List Ln}(h:Jn ls):(zV ls).length<=1048576:=by
 have:=aZ (ls:=ls) (m:=2101) λl hl=>by have h1:=XV (ws:=l) (m:=20) λw a=>((h.2 l hl).2.2 w a).2;have:=(h.2 l hl).2.1;omega
 have:=h.1;omega
variable {ls:List Ln}
def Gj(h:Jn ls):yO (zV ls)=some ls:=aJ (λl hl=>(h.2 l hl).1) (λl hl w a=>((h.2 l hl).2.2 w a).1)
def Gk(h:Jn ls):∀q,yO (zV ls)=some q->LnsSz q:=λq e=>by rw[Gj h]at e;cases e;exact⟨by have:=h.1;omega,λl hl=>by have:=(h.2 l hl).2.1;omega⟩
def Zy0(h:Jn ls){k i:Nat}{row:Ln}{w:Wd}(c:ls[k]?=some row)(d:jR w/\w.length<=20):Jn (ls.set k (row.set i w)):=by refine⟨by simpa using h.1,λl hl=>?_⟩;have a:=h.2 row (Ab c);obtain hl|rfl:=Bo hl;exact h.2 l hl;refine⟨λe=>a.1 (by simpa using e),by simpa using a.2.1,λu b=>?_⟩;obtain b|rfl:=Bo b;exact a.2.2 u b;exact d
variable {u:List UInt8}
def Zy1(h:u.length<=300):∀ls,yO u=some ls->LnsSz ls:=λls b=>by have a:=(JT _ (Ag _) b).1;have h1:=kM ls;rw[a]at h1;refine⟨by omega,λl hl=>?_⟩;have h2:=bh hl;rw[a]at h2;have:=J1 l;omega
def Zy2(h:u.length<=300):(yn u).2=0->(yn u).1.y.length<=900:=λe=>by have:=(eM D9 e).2.2;omega
def Zy3{p:zG}(i:p.length<=7)(h:∀d∈p,d.length<=6/\∀t∈d,t.length<=6)(f:PlanTold p):(qS p).length<=50/\∀l∈qS p,l.length<=100/\∀w∈l,w.length<=20:=by
 constructor;have:∀q:zG,(∀d∈q,d.length<=6)->(q.flatMap vW).length<=7*q.length:=by
  intro q;induction q with
  |nil=>intro _;simp
  |cons a q g =>
  intro h;have h1:=h a EA;have h2:=g λd b=>h d (by simp[b]);simp only[AB,List.length_append,Ae,vW,List.length_map];omega
 have:=this p λd b=>(h d b).1;unfold qS;rw[Ae];omega;intro l hl;unfold qS at hl;obtain rfl|hl:=Am.1 hl;refine⟨by simp,λw c=>?_⟩;simp at c;obtain rfl|rfl:=c;decide;exact wL D9;obtain⟨d,b,hl⟩:=Bz.1 hl;unfold vW at hl;obtain rfl|hl:=Am.1 hl;refine⟨by simp,λw c=>?_⟩;simp at c;obtain rfl|rfl:=c;decide;exact wL (by have:=(h d b).1;omega);obtain⟨t,e,rfl⟩:=Ak.1 hl;have j:=(h d b).2 t e;exact⟨by rw[kB];omega,tT D9 (f.s d b t e)⟩
def Zy4{bd b ho:Int}{ds:List Int}{p:zG}(f:RepTold ⟨4,bd,b,ho,ds,p⟩)(g:p.length<=7)(h:ds.length<=7)(e:∀d∈p,d.length<=6/\∀t∈d,t.length<=6):Jn (j9 ⟨4,bd,b,ho,ds,p⟩):=by
 have a:=lH ⟨4,bd,b,ho,ds,p⟩;obtain⟨b1,b2,b3,b4,b5,b6⟩:=f;simp only at b1 b2 b3 b4 b5 b6;obtain⟨c1,c2⟩:=Zy3 g e b6;have e2:j9 ⟨4,bd,b,ho,ds,p⟩=[jE,qn]::[xX,zJ bd]::[Za,zJ b]::[Zb,zJ ho]::(xA ds++qS p):=rfl;rw[e2]at a ⊢;have j:=u9 (z:=bd) (by unfold zU;omega);have l2:=u9 (z:=b) (by unfold zU;omega);have k:=u9 (z:=ho) (by unfold zU;omega);have key:∀l∈[jE,qn]::[xX,zJ bd]::[Za,zJ b]::[Zb,zJ ho]::(xA ds++qS p),l.length<=100/\∀w∈l,w.length<=20:=by intro l hl;obtain rfl|hl:=Am.1 hl;exact⟨by simp,λw a=>by simp at a;obtain rfl|rfl:=a<;>decide⟩;obtain rfl|hl:=Am.1 hl;exact⟨by simp,λw a=>by simp at a;obtain rfl|rfl:=a;decide;exact j⟩;obtain rfl|hl:=Am.1 hl;exact⟨by simp,λw a=>by simp at a;obtain rfl|rfl:=a;decide;exact l2⟩;obtain rfl|hl:=Am.1 hl;exact⟨by simp,λw a=>by simp at a;obtain rfl|rfl:=a;decide;exact k⟩;obtain hl|hl:=AC.1 hl;obtain⟨i,hi,rfl⟩:=Ak.1 hl;have hi:=AI.1 hi;have m:=wL (n:=i) D9;have o:=u9 (z:=ds.getD i 0) (by have:=b5 (ds.getD i 0) (by rw[Aa,Ac hi];exact AY hi);unfold zU;omega);exact⟨by simp,λw a=>by simp only[Am,A9,or_false]at a;obtain rfl|rfl|rfl:=a;decide;exact m;exact o⟩;exact c2 l hl
 exact⟨by simp[Jm];omega,λl hl=>⟨a.1 l hl,(key l hl).1,λw c=>⟨a.2 l hl w c,(key l hl).2 w c⟩⟩⟩
def Zy5{x:Inst}{n:Nat}(h:InstQ x n)(l:List Int):Jn (j9 (ZC x n l))/\j9 (ZC x n l)≠[]:=by
 have e:=lH (ZC x n l);have c:=Gi h l;have k:=h.n7;unfold ZC Vq at e c ⊢;split at e;rename_i hf;rw[if_pos hf]at c ⊢;have i:(wy x n l).2=0:=by unfold Zy at hf;split at hf;assumption;rename_i q;exact absurd hf q
 have g:=lF h (ww l) (yA l 1).toNat (yA l 2) i;have f:(wy x n l).1.length=n:=g.len;exact⟨Zy4 c D9 (by unfold yX;rw[List.length_map];omega) λd j=>by have h1:=g.s.ok d j;exact⟨h1.2.2,λt c=>by have:=(Dt c).length_le;omega⟩,by simp[j9]⟩;rename_i hf;rw[if_neg hf]at c ⊢;have hb:=u9 (z:=Jj x n l) (by have:=c.b;simp only at this;unfold zU;omega);have e2:j9 ⟨3,Jj x n l,0,0,[],[]⟩=[[jE,Q4],[xX,zJ (Jj x n l)]]:=rfl;rw[e2]at e ⊢;refine⟨⟨by simp,λl hl=>⟨e.1 l hl,?_,λw a=>⟨e.2 l hl w a,?_⟩⟩⟩,by simp⟩;simp at hl;obtain rfl|rfl:=hl<;>simp;simp at hl;obtain rfl|rfl:=hl;simp at a;obtain rfl|rfl:=a<;>decide;simp at a;obtain rfl|rfl:=a;decide;exact hb
def lJ{s:List UInt8}(d:t.length<=1048576)(hs:s.length<=1048576)(c:∀ls,yO s=some ls->LnsSz ls)(a:(yn t).2=0->(yn t).1.y.length<=900):∃b,PP 10 [T (bs t),T (bs s)] (B b)/\PP 23 [T (bs t),T (bs s)] (B b) :=
 ⟨Xe t s,Zyy t s d hs c,by rw[ZyZ d hs c a];exact ZyH t s d hs c a⟩
def Zy6(l:Ln)(i:Nat)(w:Wd)(h:i<l.length):yr ((l.map bs).flatMap Enc.enc) i [T (bs w)]=(((l.set i w).map bs).flatMap Enc.enc:List PV):=by
 have e:∀l:List ByteArray,(l.flatMap Enc.enc:List PV)=l.map T:=λl=>by induction l<;>simp_all
 have h2:((l.set i w).map bs).map T=((l.map bs).map T).set i (T (bs w)):=by rw[List.map_set,List.map_set]
 rw[e,e,h2,yr,AE,if_pos (by simpa using h)];simp
def Zy7(x:Inst)(l:List Int)(q z:Int)(by_ other:List UInt8)(hx:InstOk x):PP 4 [.agg (zE x),L l,I q,I z,T (bs by_),T (bs other)] (B true):=by
 have e3:=ZxU;have hG:=IM x hx;have d0:=ZxV l;obtain⟨n,hn⟩:∃n:Nat,(yW x).days=n:=⟨(yW x).days.toNat,by have:=aO x;omega⟩;have hQ:=Zxv x hn;have d1:=ZxP (Fl hQ);have a3:=ZyU hQ (Vx l);obtain⟨c,e5⟩:=Zy5 hQ (Vx l);have d2:=tL hQ.t hQ.m;have a5:=Fs hQ;have r:(yn (zV (j8 (yW x)))).2=0->(yn (zV (j8 (yW x)))).1.y.length<=900:=λ_=>by rw[d2];have:=hQ.af;simp only;omega
 have e6:=ZyX by_;have e7:=ZyW by_;generalize VC by_=w9 at *;have a6:(other.take 300).length<=300:=ED
 obtain⟨u,hu⟩:∃u,u=other.take 300:=⟨_,rfl⟩;rw[<-hu]at a6;generalize j9 (ZC (yW x) n (Vx l))=ls at *;generalize zV (j8 (yW x))=t at *;generalize yW x=y at *;generalize Vx l=sl at *;have a7:=lI c;have d3:=Gj c;have a8:=λ(f:List Ln) (h:Jn f)=>lJ a5 (lI h) (Gk h) r
 obtain⟨b1,p1,r1⟩:=lJ a5 D9 (Zy1 a6) r;obtain⟨b2,p2,r2⟩:=lJ (t:=u) D9 a7 (Gk c) (Zy2 a6);obtain⟨b3,p3,r3⟩:=a8 ls c;have o:=eL (zV ls) a7;rw[d3]at o;simp only[vX]at o;have d4:zV ls≠[]:=by
  cases ls with
  |nil=>exact absurd rfl e5
  |cons a b=>rw[ZX];simp
 have a4:=λk row hk (S:Store) (nx:Nat) (obs:List Ob)=>ZyO (zV ls) a7 ls d3 k row hk (S:=ext S nx obs) (nx:=nx+obs.length) xP
 generalize zV ls=s at *;have e8:=xK s;have e9:¬s.length=0:=by simpa using d4
 have f1:¬(s.length:Int)=0:=D9
 clear hQ hn d2 r hx;refine c9 func4 λS nx hd=>?_;intro v0;refine EJ ?_;refine zu hG ?_;intro v1;refine EJ ?_;refine zu d1 ?_;refine EJ ?_;refine zu d0 ?_;refine zu a3 ?_
 refine ze (aF [] (zD e8 e9 f1) ?_);refine zp (by simp[d4]) ?_;refine zk (sv (A:=∀f:List Ln,Jn f->PW prog jM 0 118 ?tl ?Q2 (fr [(5,T (bs other)),(14,T (bs t)),(15,T (bs s)),(16,L (wl f))]) (ext S nx [.cells v0 25 (zE x),.cells v1 25 (zE y)])) ?h2 ?h1)
 case h2 =>
  intro d
  by_cases c1:0<=q
  .obtain⟨k,rfl⟩:∃k:Nat,q=k:=⟨q.toNat,by omega⟩
   by_cases c2:k<ls.length
   .obtain⟨row,hk⟩:∃row,ls[k]?=some row:=⟨_,Ac c2⟩;have w:(k:Int)<ls.length:=D9
    by_cases c3:0<=z
    .obtain⟨i,rfl⟩:∃i:Nat,z=i:=⟨z.toNat,by omega⟩
     by_cases c4:i<row.length
     .have a9:(i:Int)<row.length:=D9
      have e2:=eq_true c2;have p:=eq_true w;have e4:=eq_true c4;have b7:=eq_true a9;have a0:∀x,(jG (wl ls) k x).length=ls.length:=λx=>by rw[Ga,List.length_map]
      have d5:((row.map bs).flatMap Enc.enc:List PV).length=row.length:=by rw[W6,List.length_map]
      refine EJ ?_;refine λd6=>((a4 k row hk S nx _).mono ?_).v
      rintro _ _ ⟨v2,v3,rfl,rfl⟩;refine⟨_,_,VS _ _ rfl,?_⟩;simp only[Ae,Aj,Nat.reduceAdd,Nat.add_assoc,List.cons_append,AK];refine zS d6 ?_;obtain⟨tl,b8⟩:=ZyL (l:=wl ls) (D:=k) (by simpa using c2) (.sl (nx+3) v3 1 0 row.length)
      refine ze (aF [(2,38),(8,44),(12,48)] (zN b8 a0 e2 p e4 b7) ?_);refine aD ?_;refine zC (some [nx+2]) (Row.pures [0,1,2,3,4,5,6,7] (.alt 8 (.done) .stop)) (zN b8 a0 e2 p e4 (zq b7 d5)) ?_;refine zK (e6) (zN b8 a0 e2 p e4 (zq b7 d5)) ?_;have f2:(((row.set i w9).map bs).flatMap Enc.enc:List PV).length=row.length:=by rw[W6,List.length_map,Bv]
      have f3:wl (ls.set k (row.set i w9))=(wl ls).set k ((row.set i w9).map bs):=List.map_set ..;have d7:(L (wl (ls.set k (row.set i w9))):PV)=.lst ls.length (jG (wl ls) k (L ((row.set i w9).map bs))):=by rw[ZyM,<-f3];unfold L;rw[List.length_map,Bv]
      have f4:(L ((row.set i w9).map bs):PV)=.lst row.length (((row.set i w9).map bs).flatMap Enc.enc):=by unfold L;rw[List.length_map,Bv]
      have ht:=d (ls.set k (row.set i w9)) (Zy0 c hk ⟨e7.1,by omega⟩);rw[d7,f4]at ht;refine⟨by omega,?_⟩
      show PW _ _ _ _ _ _ _ (ext _ _ _)
      rw[Zy6 row i w9 c4];generalize ((row.set i w9).map bs).flatMap Enc.enc=rc at *;refine yc 3 rfl ?_;simp only[Aw,Bf,AM,AR,xD,Gb];refine yc 2 rfl ?_;refine Y2 _ ?_ ht;simp[qk,f2,a0]
     obtain⟨g,tl,a1,-,-,f0⟩:=zH rfl (wl ls) k (by simpa using c2);obtain rfl:g=row.map bs:=by rw[Ai,hk]at a1;exact(inj a1).symm
     have a9:¬(i:Int)<row.length:=D9
     have e2:=eq_true c2;have p:=eq_true w;refine EJ ?_;refine zu o ?_
     refine ze (aF [(2,38),(8,44),(12,48)] (yp f0 e2 p c4 a9) ?_);refine aC (Y2 _ ?_ (d ls c));simp
    have e2:=eq_true c2;have p:=eq_true w;refine EJ ?_;refine zu o ?_
    refine ze (aF [(2,38),(8,44),(12,48)] (zM e2 p c3 zz) ?_);refine aC (Y2 _ ?_ (d ls c));simp
   have w:¬(k:Int)<ls.length:=D9
   refine EJ ?_;refine zu o ?_
   refine ze (aF [(2,38),(8,44),(12,48)] (zD c2 w zz) ?_);refine aC (Y2 _ ?_ (d ls c));simp
  refine EJ ?_;refine zu o ?_
  refine ze (aF [(2,38),(8,44),(12,48)] (zq c1 zz) ?_);refine aC (Y2 _ ?_ (d ls c));simp
 case h1 =>
  intro f a2;obtain⟨b4,p4,r4⟩:=a8 f a2;have f9:=a2.1;have d8:=lI a2;clear a4 a8 o a3 d1 hG d0;refine EJ ?_
  refine ze (EJ ?_);refine zn (zF (λk:Nat=>k<=f.length) (λk=>[(5,T (bs other)),(14,T (bs t)),(15,T (bs s)),(16,L (wl f)),(18,T (bs (zV (f.take k)))),(19,I k)]) (λ_=>[.cells v0 25 (zE x),.cells v1 25 (zE y)]) (λk=>f.length-k) 0 [] (Bx _) (by simp[zV]) EA ?_);rintro k hk
  (try simp only at hk ⊢)
  refine ze (EJ ?_);refine zA rfl (λhc=>?_) (λhc=>?_)
  .simp at hc;obtain⟨l,c6⟩:∃l,f[k]?=some l:=⟨_,Ac hc⟩;obtain⟨g,tl,a1,-,-,f0⟩:=zH rfl (wl f) k (by simpa using hc);obtain rfl:g=l.map bs:=by rw[Ai,c6]at a1;exact(inj a1).symm
   have d9:=Ab c6;have g0:=bh d9;have g1:=(a2.2 l d9).2.1;have f5:=ky l D9 D9 (λj=>by have:=FZ l j;omega);have f6:zV (f.take (k+1))=zV (f.take k)++(zW l++[10]):=by rw[Ax,c6];exact dE _ _
   have a5:(zV (f.take k)).length<=1048576:=by
    have e:zV f=zV (f.take k)++zV (f.drop k):=by rw[<-XW,List.take_append_drop]
    rw[e]at d8;simp only[List.length_append]at d8;omega
   have e0:=Qt (zV (f.take k)) (zW l++[10]) (by simp only[List.length_append,AZ];omega);rw[<-f6]at e0;refine zk (aA (zi [] (zq f0 hc) ?_));refine yK [] f5 e0 ?_;refine zg ?_;exact zv (k+1) [] hc D9 (by simp[zy k D9]) rfl rfl
  simp at hc;obtain rfl:k=f.length:=D9
  rw[Ah];refine zB ?_;have c7:=xK other;have c8:=XY other 0 300;rw[DA]at c8;generalize zV f=Z at *;refine ze (qg (nx:=nx) (σ:=Unit) (λ_=>True) (λ_=>[(5,T (bs u)),(14,T (bs t)),(15,T (bs s)),(18,T (bs Z))]) (λ_=>S) (λ_=>[.cells v0 25 (zE x),.cells v1 25 (zE y)]) ?_ ?_)
  .by_cases h:300<other.length
   .have h':(300:Int)<(other.length:Int):=D9
    have h6:300<=other.length:=D9
    have e1:=eq_true h;have f7:=eq_true h';rw[<-hu]at c8;refine aF [] (zD c7 e1 f7) ?_;refine aD ?_;refine zi [] (zD c7 c8 h6) ?_;exact zY () [] n' EA rfl rfl
   have h':¬(300:Int)<(other.length:Int):=D9
   have f8:u=other:=by rw[hu];exact Ad D9
   refine aF [] (zD c7 h h') ?_;refine aE ?_;exact zk (zY () [] n' (by simp[f8]) rfl rfl)
  rintro⟨⟩ -;cases b1<;>cases b2<;>cases b3<;>cases b4
  all_goals
   refine ze (aF [(7,90)] n' ?_);refine yK [(7,90)] p1 n' ?_;refine yK [(7,90)] r1 n' ?_;refine yK [(7,90)] p2 n' ?_;refine yK [(7,90)] r2 n' ?_;refine aC (aF [(7,106),(16,115)] n' ?_);refine yK [(7,106),(16,115)] p3 n' ?_;refine yK [(7,106),(16,115)] r3 n' ?_;refine yK [(7,106),(16,115)] p4 n' ?_;refine yK [(7,106),(16,115)] r4 n' ?_;refine yK [(7,106),(16,115)] e3 n' ?_;exact EK hd
def Zy8(x:Inst)(l:List Int)(a d:Int)(b c:ByteArray)(hx:InstOk x):PP 4 [.agg (zE x),L l,I a,I d,T b,T c] (B true):=Zy7 x l a d b.data.toList c.data.toList hx
end Go.Proofs.YtdjbbndbalhekaaGreatDoor.Pv
