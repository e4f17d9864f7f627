/- Part of a proof, packed. -/
import Derived.Test.YtcocagkbfpgmiaaGreatDoorB6
open Go.Proofs.Tryz
set_option maxRecDepth 100000
set_option maxHeartbeats 3200000
namespace Go.Proofs.YtcocagkbfpgmiaaGreatDoor.Pv
open Go Go.Proofs
def Ye(ls:List Ln):Bool:=vg (zP ls 1) [qE,qG,qH,qI] && vg (zP ls 2) [qJ]
def Zet(ls:List Ln):Ln:=[(zP ls 1).getD 1 [],(zP ls 1).getD 3 [],(zP ls 1).getD 5 [],(zP ls 1).getD 7 [],(zP ls 2).getD 1 []]
theorem ZuL(ls:List Ln):vO ls=if zP ls 0=[jG,[49]]/\Ye ls=true then
  match yI (Zet ls) with
  | some [d,v,c,l,m] =>
   if (yB ls 3 m.toNat).all (λl=>(qp d l).isSome)=true/\zP ls (3+m.toNat)=[qK]/\(yB ls (4+m.toNat) (m.toNat+1)).all (jU (m.toNat+1))=true/\ls.length=5+2*m.toNat then
    some (⟨d,v,c,l,(yB ls 3 m.toNat).map λl=>(xe d l).1,(yB ls (4+m.toNat) (m.toNat+1)).map λl=>l.map yo⟩,(yB ls 3 m.toNat).all λl=>(xe d l).2)
   else none
  | _=>none
 else none:=by
 unfold vO Ye
 by_cases h0:zP ls 0=[jG,[49]]
 ·rw[if_pos h0];simp only[h0,true_and,Ar];have j:∀a b c d e:Wd,yI [a,b,c,d,e]=(yI [a,b,c,d]).bind λz=>(yI [e]).map (z++·):=by
   intro a b c d e;unfold yI
   by_cases g:[a,b,c,d].all (λw=>(y8 w).isSome)=true
   ·rw[if_pos g]
    by_cases f:[e].all (λw=>(y8 w).isSome)=true
    ·rw[if_pos f,if_pos (by simp at g f ⊢;simp[g,f])];rfl
    ·rw[if_neg f,if_neg (by simp at g f ⊢;simp[g,f])];rfl
   ·rw[if_neg g,if_neg (by simp at g ⊢;intro x1 x2 x3 x4;exact absurd x4 (by simpa using g x1 x2 x3))];rfl
  unfold Zet;rw[j];unfold qn
  by_cases n1:vg (zP ls 1) [qE,qG,qH,qI]=true
  ·rw[if_pos n1];have k:xJ (zP ls 1) [qE,qG,qH,qI].length=[(zP ls 1).getD 1 [],(zP ls 1).getD 3 [],(zP ls 1).getD 5 [],(zP ls 1).getD 7 []]:=rfl;have n:xJ (zP ls 2) [qJ].length=[(zP ls 2).getD 1 []]:=rfl;rw[k,n]
   by_cases h:vg (zP ls 2) [qJ]=true
   ·rw[if_pos h,if_pos ⟨n1,h⟩];unfold yI;split
    ·rename_i x d v c l q;split at q
     ·rename_i g;cases q;rw[if_pos g];split
      ·rename_i x2 m f;split at f
       ·rename_i i;cases f;rw[if_pos i];rfl
       ·cases f
      ·rename_i x2 f;split at f
       ·exact absurd rfl (f _)
       ·rename_i i;rw[if_neg i];rfl
     ·cases q
    ·rename_i x q;split at q
     ·exact absurd rfl (q _ _ _ _)
     ·rename_i g;rw[if_neg g];rfl
   ·rw[if_neg h,if_neg (λq=>h q.2)];split<;>rfl
  ·have:¬(vg (zP ls 1) [qE,qG,qH,qI]=true/\vg (zP ls 2) [qJ]=true):=λq=>n1 q.1
   rw[if_neg n1,if_neg this]
 ·rw[if_neg h0,if_neg (λq=>h0 q.1)]
theorem Zeu{l:Ln}{w:Wd}:vg l [w]=true<->∃b,l=[w,b]:=by
 unfold vg;constructor
 ·intro h;simp at h;obtain⟨h1,h2⟩:=h
  match l,h1 with
  | [a,b],_=>simp at h2;exact⟨b,by rw[h2]⟩
 ·rintro⟨b,rfl⟩;simp
theorem Zev{l:Ln}{p q r s:Wd}:vg l [p,q,r,s]=true<->∃a b c d,l=[p,a,q,b,r,c,s,d]:=by
 unfold vg;constructor
 ·intro h;simp only[Ar,decide_eq_true_eq,Aw,AK]at h;obtain⟨h1,h2⟩:=h
  match l,h1 with
  | [a0,k,n,a3,a4,a5,o,m],_ =>
   have f:=h2 0 DP;have g:=h2 1 DP;have e2:=h2 2 DP;have j:=h2 3 DP;simp at f g e2 j;exact⟨k,a3,a5,m,by rw[f,g,e2,j]⟩
 ·rintro⟨a,b,c,d,rfl⟩;simp only[Ar,decide_eq_true_eq,Aw,AK];refine⟨rfl,λi hi=>?_⟩;have e:i<4:=hi
  match i,e with
  | 0,_=>rfl
  | 1,_=>rfl
  | 2,_=>rfl
  | 3,_=>rfl
theorem Xd{i f g j:Ln}{rest:List Ln}(h:¬((∃a b c d,f=[qE,a,qG,b,qH,c,qI,d])/\∃m,g=[qJ,m])):true=!Ye (i :: f :: g :: j :: rest):=by
 cases e:Ye (i :: f :: g :: j :: rest) with
 | false=>rfl
 | true =>
  unfold Ye at e;rw[Ar]at e;exact absurd ⟨Zev.1 e.1,Zeu.1 e.2⟩ h
theorem ZuM{e f:Ln}{rest:List Ln}{a b c d m:Wd}:false=!Ye (e :: [qE,a,qG,b,qH,c,qI,d] :: [qJ,m] :: f :: rest):=by
 have:Ye (e :: [qE,a,qG,b,qH,c,qI,d] :: [qJ,m] :: f :: rest)=true:=by
  unfold Ye;rw[Ar];exact⟨Zev.2 ⟨_,_,_,_,rfl⟩,Zeu.2 ⟨_,rfl⟩⟩
 rw[this];rfl
theorem ZuN{d:Int}{l:Ln}{c:Cust}{ok:Bool}(h:qp d l=some (c,ok))(a:d<=64):uO d l=ok:=by
 match l,h with
 | w :: ls,h =>
  have h':(if w=qA then Z7 d ls else if w=jS then (uN ls).map (·,true) else none)=some (c,ok):=h
  by_cases q:w=qA
  ·rw[if_pos q]at h'
   match ls,h' with
   | dw :: ps,h' =>
    rw[Vo]at h';split at h'
    ·cases h';unfold uO;simp only[q,if_true];unfold YP;congr 1;funext p;rw[decide_eq_decide];omega
    ·cases h'
  ·rw[if_neg q]at h';have hf:uO d (w :: ls)=true:=by
    unfold uO;split
    ·rename_i e;cases e;rw[if_neg q]
    ·rfl
   rw[hf];split at h'
   ·obtain⟨x,_,e⟩:=Ap.1 h';cases e;rfl
   ·cases h'
theorem ZuO{d:Int}{l:List Ln}(h:l.all (λl=>(qp d l).isSome)=true)(b:d<=64):l.all (uO d)=l.all λl=>(xe d l).2:=by
 induction l with
 | nil=>rfl
 | cons a l f =>
  simp only[Cp,Ar]at h;simp only[Cp];rw[f h.2];congr 1;cases e:qp d a with
  | none=>rw[e]at h;simp at h
  | some p=>obtain⟨c,ok⟩:=p;rw[ZuN e b];unfold xe;rw[e];rfl
theorem ZuP(t:List UInt8)(hl:t.length<=1048576):Pure prog 30 [T (bs t)] (.tup [.agg (zE (yF t).1),I (yF t).2]):=by
 have u:=Zt5 t hl;cases hz:jf t with
 | none =>
  rw[hz]at u;simp only[Jh]at u;have hp:yF t=(zI,2):=by unfold yF;rw[hz]
  rw[hp];refine zx func30 ntmps30 results30 λS nx hd=>?_
  repeat apply ze
  refine zg ?_;intro v0
  repeat apply ze
  refine zg ?_;intro v1
  repeat apply ze
  refine zg ?_;refine zv u ?_;intros
  repeat apply ze
  refine zi [(2,28)] zB ?_;intros
  repeat apply ze
  refine zo DP ?_
  (repeat apply ze);refine zg ?_;intros
  refine yn 0 4 rfl rfl ?_;refine yn 0 5 rfl rfl ?_
  repeat apply ze
  exact zj (zm hd DQ (by simp[zI,zr]))
 | some ls =>
  rw[hz]at u;simp only[Jh]at u;have a8:=Zjv hz hl;have hp:yF t=match vO ls with
   | none=>(zI,2)
   | some (x,ok)=>if ok=true/\yS x=true then (x,0) else (zI,3):=by unfold yF;rw[hz];rfl
  have a3:=ZuL ls;obtain⟨a4,g1⟩:∃a4,a4=yF t:=⟨_,rfl⟩;rw[<-g1];rw[<-g1]at hp;have c7:vO ls=none->a4=(zI,2):=λh=>by rw[hp,h]
  obtain⟨ws,r⟩:∃ws,ws=wl ls:=⟨_,rfl⟩;have d0:ws.length=ls.length:=by rw[r];simp
  rw[<-r]at u;have a9:yC .neq (bs jG) ⟨#[116,114,97,110,116,101,114]⟩=some (.bool false):=vQ _;have y:yC .neq (bs qE) ⟨#[100,97,121,115]⟩=some (.bool false):=vQ _;have n:yC .neq (bs qG) ⟨#[118,101,104,105,99,108,101,115]⟩=some (.bool false):=vQ _;have o:yC .neq (bs qH) ⟨#[99,97,112,97,99,105,116,121]⟩=some (.bool false):=vQ _;have a7:yC .neq (bs qI) ⟨#[108,101,110,103,116,104]⟩=some (.bool false):=vQ _;have d1:yC .neq (bs qJ) ⟨#[99,117,115,116,111,109,101,114,115]⟩=some (.bool false):=vQ _;have g4:yC .neq (bs ([49]:Wd)) ⟨#[49]⟩=some (.bool false):=vQ _;have d2:yC .neq (bs qK) ⟨#[100,105,115,116,97,110,99,101,115]⟩=some (.bool false):=vQ _;refine zx func30 ntmps30 results30 λS nx hd=>?_
  repeat apply ze
  refine zg ?_;intro v0
  repeat apply ze
  refine zg ?_;intro v1
  repeat apply ze
  refine zg ?_;refine zv u ?_;intros
  by_cases h4:ls.length<4
  ·have j:a4=(zI,2):=c7 (by
    rw[a3];split
    ·split
     ·rw[if_neg];rintro⟨-,-,-,h5⟩;omega
     ·rfl
    ·rfl)
   have g5:(ls.length:Int)<4:=DO
   repeat apply ze
   refine zi [(2,28)] (zF d0 h4 g5) ?_;intros
   repeat apply ze
   refine zo DP ?_
   (repeat apply ze);refine zg ?_;intros
   refine yn 0 4 rfl rfl ?_;refine yn 0 5 rfl rfl ?_
   repeat apply ze
   exact zj (zm hd DQ (by simp[zI,zr,j]))
  have g5:¬(ls.length:Int)<4:=DO
  repeat apply ze
  refine zi [(2,28)] (zF d0 h4 g5) ?_;intros
  repeat apply ze
  refine zp DP ?_;refine zk ?_;obtain⟨l0,l1,l2,l3,rest,rfl⟩:∃a b c d e,ls=a :: b :: c :: d :: e:=by
   match ls,h4 with
   | a :: b :: c :: d :: e,_=>exact⟨a,b,c,d,e,rfl⟩
   | [],h=>simp at h
   | [_],h=>simp at h
   | [_,_],h=>simp at h
   | [_,_,_],h=>simp at h
  have i0:(0:Int)<(rest.length:Int)+1+1+1+1:=DO
  have i1:(1:Int)<(rest.length:Int)+1+1+1+1:=DO
  have i2:(2:Int)<(rest.length:Int)+1+1+1+1:=DO
  refine ze (ze ?_);rw[r];refine qy (nx:=nx) (σ:=Bool) (λq=>q=!decide (l0=[jG,[49]])) (λq=>[(2,.ptr nx v0 0),(4,.ptr (nx+1) v1 0),(5,L ws),(54,B q)]) (λ_=>S) (λ_=>[.cells v0 25 [I 0,I 0,I 0,I 0,yU,yU],.cells v1 25 [I 0,I 0,I 0,I 0,yU,yU]]) ?_ ?_
  ·by_cases h2:l0.length=2
   ·obtain⟨a,b,rfl⟩:∃a b,l0=[a,b]:=by
     match l0,h2 with
     | [a,b],_=>exact⟨a,b,rfl⟩
    by_cases q0:a=jG
    rotate_left
    ·have f0:yC .neq (bs a) ⟨#[116,114,97,110,116,101,114]⟩=some (.bool true):=(vR (v:=jG) q0).2
     repeat apply ze
     refine zi [(5,39),(13,47)] (zF i0 f0 zB) ?_;intros;exact zZ true [] (by simp[q0]) (by simp[r]) rfl DP
    subst q0
    by_cases q1:b=[49]
    rotate_left
    ·have f0:yC .neq (bs b) ⟨#[49]⟩=some (.bool true):=(vR (v:=[49]) q1).2
     repeat apply ze
     refine zi [(5,39),(13,47)] (zF i0 a9 f0) ?_;intros;exact zZ true [] (by simp[q1]) (by simp[r]) rfl DP
    subst q1
    repeat apply ze
    refine zi [(5,39),(13,47)] (zF i0 a9 g4) ?_;intros;exact zZ false [] DP (by simp[r]) rfl DP
   ·have g6:¬(l0.length:Int)=2:=DO
    have d5:¬l0=[jG,[49]]:=by rintro rfl;exact h2 rfl
    repeat apply ze
    refine zi [(5,39),(13,47)] (zS i0 h2 g6 zB) ?_;intros;exact zZ true [] (by simp[d5]) (by simp[r]) rfl DP
  ·rintro q rfl
   by_cases h0:l0=[jG,[49]]
   rotate_left
   ·have j:a4=(zI,2):=c7 (by rw[a3,if_neg (λq=>h0 q.1)])
    repeat apply ze
    refine zo (by simp[h0]) ?_
    (repeat apply ze);refine zg ?_;intros
    refine yn 0 4 rfl rfl ?_;refine yn 0 5 rfl rfl ?_
    repeat apply ze
    exact zj (zm hd DQ (by simp[zI,zr,j]))
   repeat apply ze
   refine zp (by simp[h0]) ?_;refine zk ?_;rw[r]
   repeat apply ze
   refine zi [] i1 ?_;intros;refine ze (ze (qy (nx:=nx) (σ:=Bool) (λq=>q=!Ye (l0 :: l1 :: l2 :: l3 :: rest)) (λq=>[(2,.ptr nx v0 0),(4,.ptr (nx+1) v1 0),(5,L ws),(7,L (l1.map bs)),(100,B q)]) (λ_=>S) (λ_=>[.cells v0 25 [I 0,I 0,I 0,I 0,yU,yU],.cells v1 25 [I 0,I 0,I 0,I 0,yU,yU]]) ?_ ?_))
   ·by_cases h8:l1.length=8
    ·obtain⟨p0,p1,p2,p3,p4,p5,p6,p7,rfl⟩:∃a b c d e f g h,l1=[a,b,c,d,e,f,g,h]:=by
      match l1,h8 with
      | [a,b,c,d,e,f,g,h],_=>exact⟨a,b,c,d,e,f,g,h,rfl⟩
     by_cases q0:p0=qE
     rotate_left
     ·have f0:yC .neq (bs p0) ⟨#[100,97,121,115]⟩=some (.bool true):=(vR (v:=qE) q0).2
      repeat apply ze
      refine zi [(3,62),(9,68),(15,74),(21,80),(27,86),(34,93)] (zF i2 f0 zB) ?_;intros;exact zZ true [] (Xd (by rintro⟨⟨_,_,_,_,e⟩,_,e'⟩;simp only[List.cons.injEq]at e e';simp_all)) (by simp[r]) rfl DP
     subst q0
     by_cases q1:p2=qG
     rotate_left
     ·have f1:yC .neq (bs p2) ⟨#[118,101,104,105,99,108,101,115]⟩=some (.bool true):=(vR (v:=qG) q1).2
      repeat apply ze
      refine zi [(3,62),(9,68),(15,74),(21,80),(27,86),(34,93)] (zS i2 y f1 zB) ?_;intros;exact zZ true [] (Xd (by rintro⟨⟨_,_,_,_,e⟩,_,e'⟩;simp only[List.cons.injEq]at e e';simp_all)) (by simp[r]) rfl DP
     subst q1
     by_cases q2:p4=qH
     rotate_left
     ·have f2:yC .neq (bs p4) ⟨#[99,97,112,97,99,105,116,121]⟩=some (.bool true):=(vR (v:=qH) q2).2
      repeat apply ze
      refine zi [(3,62),(9,68),(15,74),(21,80),(27,86),(34,93)] (yr i2 y n f2 zB) ?_;intros;exact zZ true [] (Xd (by rintro⟨⟨_,_,_,_,e⟩,_,e'⟩;simp only[List.cons.injEq]at e e';simp_all)) (by simp[r]) rfl DP
     subst q2
     by_cases q3:p6=qI
     rotate_left
     ·have f3:yC .neq (bs p6) ⟨#[108,101,110,103,116,104]⟩=some (.bool true):=(vR (v:=qI) q3).2
      repeat apply ze
      refine zi [(3,62),(9,68),(15,74),(21,80),(27,86),(34,93)] (zW i2 y n o f3 zB) ?_;intros;exact zZ true [] (Xd (by rintro⟨⟨_,_,_,_,e⟩,_,e'⟩;simp only[List.cons.injEq]at e e';simp_all)) (by simp[r]) rfl DP
     subst q3
     by_cases h2:l2.length=2
     rotate_left
     ·have g6:¬(l2.length:Int)=2:=DO
      repeat apply ze
      refine zi [(3,62),(9,68),(15,74),(21,80),(27,86),(34,93)] (zW i2 y n o a7 (zF h2 g6 zB)) ?_;intros;exact zZ true [] (Xd (by rintro⟨⟨_,_,_,_,e⟩,_,e'⟩;rw[e']at h2;simp at h2))  (by simp[r]) rfl DP
     obtain⟨c0,c1,rfl⟩:∃a b,l2=[a,b]:=by
      match l2,h2 with
      | [a,b],_=>exact⟨a,b,rfl⟩
     by_cases q5:c0=qJ
     rotate_left
     ·have f5:yC .neq (bs c0) ⟨#[99,117,115,116,111,109,101,114,115]⟩=some (.bool true):=(vR (v:=qJ) q5).2
      repeat apply ze
      refine zi [(3,62),(9,68),(15,74),(21,80),(27,86),(34,93)] (zW i2 y n o a7 f5) ?_;intros;exact zZ true [] (Xd (by rintro⟨⟨_,_,_,_,e⟩,_,e'⟩;simp only[List.cons.injEq]at e e';simp_all)) (by simp[r]) rfl DP
     subst q5
     repeat apply ze
     refine zi [(3,62),(9,68),(15,74),(21,80),(27,86),(34,93)] (zW i2 y n o a7 d1) ?_;intros;exact zZ false [] ZuM (by simp[r]) rfl DP
    ·have k4:¬(l1.length:Int)=8:=DO
     repeat apply ze
     refine zi [(3,62),(9,68),(15,74),(21,80),(27,86),(34,93)] (zS i2 h8 k4 zB) ?_;intros;exact zZ true [] (Xd (by rintro⟨⟨_,_,_,_,e⟩,_,e'⟩;rw[e]at h8;simp at h8))  (by simp[r]) rfl DP
   rintro q rfl;cases g7:Ye (l0 :: l1 :: l2 :: l3 :: rest) with
   | false =>
    have j:a4=(zI,2):=c7 (by rw[a3,if_neg (λq=>by rw[g7]at q;cases q.2)])
    repeat apply ze
    refine zo DU ?_
    (repeat apply ze);refine zg ?_;intros
    refine yn 0 4 rfl rfl ?_;refine yn 0 5 rfl rfl ?_
    repeat apply ze
    exact zj (zm hd DQ (by simp[zI,zr,j]))
   | true =>
    repeat apply ze
    refine zp DU ?_;refine zk ?_;have e0:=g7;unfold Ye at e0;rw[Ar]at e0;obtain⟨p1,p3,p5,p7,e1⟩:=Zev.1 e0.1;obtain⟨c1,e2⟩:=Zeu.1 e0.2;obtain rfl:l1=[qE,p1,qG,p3,qH,p5,qI,p7]:=e1;obtain rfl:l2=[qJ,c1]:=e2;rw[if_pos ⟨h0,g7⟩]at a3;have a5:=Vs [p1,p3,p5,p7,c1] DP (λw hw=>by
     have a1:=(a8.2 _ (by simp:[qE,p1,qG,p3,qH,p5,qI,p7]∈_)).2;have a2:=(a8.2 _ (by simp:[qJ,c1]∈_)).2;simp at hw;rcases hw with rfl | rfl | rfl | rfl | rfl
     ·have:=a1 w DP;omega
     ·have:=a1 w DP;omega
     ·have:=a1 w DP;omega
     ·have:=a1 w DP;omega
     ·have:=a2 w DP;omega)
    have k5:Zet (l0 :: [qE,p1,qG,p3,qH,p5,qI,p7] :: [qJ,c1] :: l3 :: rest)=[p1,p3,p5,p7,c1]:=rfl;rw[k5]at a3;have k6:L ([p1,p3,p5,p7,c1].map bs)=.lst 5 [T (bs p1),T (bs p3),T (bs p5),T (bs p7),T (bs c1)]:=rfl;rw[k6]at a5;obtain⟨ls,e7⟩:∃ls,ls=l0 :: [qE,p1,qG,p3,qH,p5,qI,p7] :: [qJ,c1] :: l3 :: rest:=⟨_,rfl⟩;have l7:ls.length=rest.length+4:=by rw[e7];rfl
    rw[<-e7]at a3 c7 hp a8 d0;have m0:=a8.1;cases d6:yI [p1,p3,p5,p7,c1] with
    | none =>
     have j:a4=(zI,2):=c7 (by rw[a3,d6]);rw[d6]at a5;simp only[jH]at a5;rw[r]
     repeat apply ze
     refine zD none (Row.pures [0,1,2,3,4,5,6,7,8,9,10,11,12,13,14,15,16,17,18,19,20,21,22,23] .done) mixed i2 ?_;refine zO (a5) trivial ?_;intros
     repeat apply ze
     refine zD none (Row.pures [0,1,2,3,4,5,6,7,8,9,10,11,12,13,14,15,16,17,18,19,20,21,22,23,24] .done) mixed zB ?_;intros
     repeat apply ze
     refine zo DP ?_
     (repeat apply ze);refine zg ?_;intros
     refine yn 0 4 rfl rfl ?_;refine yn 0 5 rfl rfl ?_
     repeat apply ze
     exact zj (zm hd DQ (by simp[zI,zr,j]))
    | some zs =>
     obtain⟨d,v,c,l,m,m1,m2,rfl⟩:∃d v c l m,0<=m/\m<=1000000000000000000/\zs=[d,v,c,l,m]:=by
      unfold yI at d6;split at d6
      ·rename_i hq;cases d6;refine⟨_,_,_,_,_,Zel c1,?_,rfl⟩;unfold yo;cases k7:y8 c1 with
       | none=>simp
       | some z=>have:=Zin k7;simp;omega
      ·cases d6
     rw[d6]at a5 a3;simp only[jH]at a5 a3;have k8:L [d,v,c,l,m]=.lst 5 [I d,I v,I c,I l,I m]:=rfl;rw[k8]at a5;obtain⟨M,rfl⟩:∃M:Nat,m=(M:Int):=⟨m.toNat,by omega⟩;simp only[AN]at a3;have w1:W (3+(M:Int))=3+(M:Int):=wr _ DO DO;have w2:W (3+(M:Int)+1)=3+(M:Int)+1:=wr _ DO DO;have w3:W (3+(M:Int)+1+(M:Int))=3+(M:Int)+1+(M:Int):=wr _ DO DO;have w4:W (3+(M:Int)+1+(M:Int)+1)=3+(M:Int)+1+(M:Int)+1:=wr _ DO DO;have l8:((rest.length:Int)+1+1+1+1)=(ls.length:Int):=DO
     by_cases hM:ls.length=5+2*M
     rotate_left
     ·have j:a4=(zI,2):=c7 (by rw[a3,if_neg (λq=>hM q.2.2.2)]);rw[r]
      repeat apply ze
      refine zD none (Row.pures [0,1,2,3,4,5,6,7,8,9,10,11,12,13,14,15,16,17,18,19,20,21,22,23] .done) mixed i2 ?_;refine zO (a5) trivial ?_;intros
      by_cases l9:ls.length<M
      ·have b7:(rest.length:Int)+1+1+1+1<(M:Int):=DO
       have b8:rest.length+1+1+1+1<M:=DO
       repeat apply ze
       refine zD none (Row.pures [0,1,2,3,4,5,6,7,8,9,10,11,12,13,14,15,16,17,18,19,20,21,22,23,24] .done) mixed (zF b7 b8 zB) ?_;intros
       repeat apply ze
       refine zo DP ?_
       (repeat apply ze);refine zg ?_;intros
       refine yn 0 4 rfl rfl ?_;refine yn 0 5 rfl rfl ?_
       repeat apply ze
       exact zj (zm hd DQ (by simp[zI,zr,j]))
      ·have b7:¬(rest.length:Int)+1+1+1+1<(M:Int):=DO
       have b8:¬rest.length+1+1+1+1<M:=DO
       have d5:¬(rest.length:Int)+1+1+1+1=3+(M:Int)+1+(M:Int)+1:=DO
       repeat apply ze
       refine zD none (Row.pures [0,1,2,3,4,5,6,7,8,9,10,11,12,13,14,15,16,17,18,19,20,21,22,23,24] .done) mixed (zW b7 b8 w1 w2 w3 (zq w4 d5)) ?_;intros
       repeat apply ze
       refine zo DP ?_
       (repeat apply ze);refine zg ?_;intros
       refine yn 0 4 rfl rfl ?_;refine yn 0 5 rfl rfl ?_
       repeat apply ze
       exact zj (zm hd DQ (by simp[zI,zr,j]))
     have b7:¬(rest.length:Int)+1+1+1+1<(M:Int):=DO
     have b8:¬rest.length+1+1+1+1<M:=DO
     have d5:((rest.length:Int)+1+1+1+1=3+(M:Int)+1+(M:Int)+1)=True:=eq_true DO;rw[r]
     repeat apply ze
     refine zD none (Row.pures [0,1,2,3,4,5,6,7,8,9,10,11,12,13,14,15,16,17,18,19,20,21,22,23] .done) mixed i2 ?_;refine zO (a5) trivial ?_;intros
     repeat apply ze
     refine zD none (Row.pures [0,1,2,3,4,5,6,7,8,9,10,11,12,13,14,15,16,17,18,19,20,21,22,23,24] .done) mixed (zW b7 b8 w1 w2 w3 (zq w4 d5)) ?_;intros
     repeat apply ze
     refine zp DP ?_;refine zk ?_;have m3:M<=600000:=DO
     (repeat apply ze);refine zg ?_;intros
     (repeat apply ze);refine zg ?_;intros
     repeat apply ze
     refine zD (some []) (Row.pures [0,1,2,3,4,5,6,7,8,9,10,11,12] (.alt 13 (.alt 14 (.done) .stop) .stop)) mixed trivial ?_;intros;rename_i v2;refine jd 2 4 87 8 rfl rfl λa0=>?_
     refine jd 2 5 26 1 rfl rfl λb0=>?_
     (repeat apply ze);refine zg ?_;intros
     have f7:∀k,k<ls.length->ws[k]?=some ((zP ls k).map bs):=λk hk=>by
      have i7:ws=wl ls:=by rw[r,e7]
      rw[i7,wl,Aj,Ac hk];unfold zP;rw[Aa,Ac hk];rfl
     have g2:∀k,k<ls.length->zP ls k≠[]:=λk hk=>by
      have:=(Zik t.length (Ag _) hz).2.1;rw[<-e7]at this;unfold zP;rw[Aa,Ac hk];exact this _ (Bc hk)
     repeat apply ze
     refine zn (zK (λs:Nat × Nat=>s.1<=M/\(yB ls 3 s.1).all (λl=>(qp d l).isSome)=true) (λ(i,a)=>[(2,.ptr nx v0 0),(4,.ptr (nx+1) v1 0),(5,L ws),(8,L [d,v,c,l,(M:Int)]),(10,I M),(12,.ptr (nx+2) v2 0),(11,B ((yB ls 3 i).all (uO d))),(13,I i)]) (λ(i,a)=>[.cells v0 25 [I 0,I 0,I 0,I 0,yU,yU],.cells v1 25 [I 0,I 0,I 0,I 0,yU,yU],.cells v2 25 [I d,I v,I c,I l,.sl (nx+3) a 8 0 i,.sl (nx+4) b0 1 0 0],.cells a 87 ((yY ls d 3 i).flatMap Enc.enc),.cells b0 26 []]) (λs=>M-s.1) (0,a0) [] (by simp[yB]) (by simp[r,e7,yB];try rfl) (by simp[yY,yB]) ?_);rintro⟨i,a⟩ ⟨hi,d4⟩;simp only at hi d4 ⊢
     (repeat apply ze);refine zg ?_;intros
     repeat apply ze
     refine zA rfl (λhc=>?_) (λhc=>?_)
     ·simp at hc;have c8:3+i<ls.length:=DO
      obtain⟨sl,tl,b1,b2,b3,f0⟩:=zN rfl ws (3+i) (by rw[d0];exact c8);obtain rfl:sl=(zP ls (3+i)).map bs:=by rw[f7 _ c8]at b1;exact(Option.some.inj b1).symm
      have d7:=a8.at (3+i);have f8:=Zt2 (zP ls (3+i)) d (g2 _ c8) d7.1 d7.2;have j1:W (3+(i:Int))=3+(i:Int):=wr _ DO DO;have j2:3+(i:Int)<(ws.length:Int):=by rw[d0];omega
      have j3:(0:Int)<=3+(i:Int):=DO
      have j4:(3+(i:Int)).toNat=3+i:=DO
      have e3:=Jj ls 3 i;have c6:=Zek ls d 3 i;have e5:=Zbt ls d 3 i;have e4:qp d (zP ls (3+i))=none->a4=(zI,2):=λh=>c7 (by
       rw[a3,if_neg];rintro⟨q,-⟩;rw[Zbs (f:=λl=>(qp d l).isSome) hc (by simp only[h];rfl)]at q;cases q)
      have i8:xe d (zP ls (3+i))=(qp d (zP ls (3+i))).getD default:=rfl;rw[i8]at c6;clear b1 b2 b3 i8 d7;generalize zP ls (3+i)=ln at *;refine zk (ze (zn ?_));cases e8:qp d ln with
      | none =>
       have j:=e4 e8;rw[Zbo e8]at f8
       repeat apply ze
       refine zD (some []) (Row.pures [0,1,2,3,4,5,6,7,8,9,10,11,12] (.alt 13 (.alt 14 (Row.pures [15,16] .done) .stop) .stop)) mixed (yr f0 j1 j2 j3 j4) ?_;refine zO (f8) trivial ?_;intros
       (repeat apply ze);refine zg ?_;intros
       repeat apply ze
       refine zo DP ?_
       (repeat apply ze);refine zg ?_;intros
       refine yn 0 4 rfl rfl ?_;refine yn 0 5 rfl rfl ?_
       repeat apply ze
       exact zj (zm hd DQ (by simp[zI,zr,j]))
      | some p =>
       obtain⟨cu,ok⟩:=p;have k9:Yc d ln=.tup [.agg (yi cu),B true,B (uO d ln)]:=by unfold Yc;rw[e8]
       rw[k9]at f8;rw[e8]at c6;have c6:yY ls d 3 (i+1)=yY ls d 3 i++[cu]:=c6;have g8:(yB ls 3 (i+1)).all (λl=>(qp d l).isSome)=true:=by rw[e3,BD,d4];simp[e8]
       have g9:((yY ls d 3 i).flatMap Enc.enc:List PV).length=i*8:=by rw[js,e5];rfl
       have h6:List.take (i*8) ((yY ls d 3 i).flatMap Enc.enc:List PV)=(yY ls d 3 i).flatMap Enc.enc:=Af (by rw[g9];exact Ag _);have h7:((yY ls d 3 (i+1)).flatMap Enc.enc:List PV)=(yY ls d 3 i).flatMap Enc.enc++yi cu:=by rw[c6,Aq];simp
       repeat apply ze
       refine zD (some []) (Row.pures [0,1,2,3,4,5,6,7,8,9,10,11,12] (.alt 13 (.alt 14 (Row.pures [15,16] .done) .stop) .stop)) mixed (yr f0 j1 j2 j3 j4) ?_;refine zO (f8) trivial ?_;intros;rename_i v5
       (repeat apply ze);refine zg ?_;intros
       repeat apply ze
       refine zp DP ?_;refine zk (ze (qy (nx:=nx) (σ:=Bool) (λt=>t=(yB ls 3 (i+1)).all (uO d)) (λt=>[(2,.ptr nx v0 0),(4,.ptr (nx+1) v1 0),(5,L ws),(8,L [d,v,c,l,(M:Int)]),(10,I M),(12,.ptr (nx+2) v2 0),(11,B t),(13,I i),(14,.ptr (nx+5) v5 0)]) (λ_=>S) (λ_=>[.cells v0 25 [I 0,I 0,I 0,I 0,yU,yU],.cells v1 25 [I 0,I 0,I 0,I 0,yU,yU],.cells v2 25 [I d,I v,I c,I l,.sl (nx+3) a 8 0 i,.sl (nx+4) b0 1 0 0],.cells a 87 ((yY ls d 3 i).flatMap Enc.enc),.cells b0 26 [],.cells v5 87 (yi cu)]) ?_ ?_))
       ·rw[e3,BD];simp only[Cp,DB,CE];cases hb:(yB ls 3 i).all (uO d) with
        | false =>
         repeat apply ze
         refine zi [(1,188)] zB ?_;intros;exact zZ false [] rfl DP rfl DP
        | true =>
         repeat apply ze
         refine zi [(1,188)] trivial ?_;intros;exact zZ (uO d ln) [] rfl DP rfl DP
       ·rintro q rfl
        repeat apply ze
        refine zi [] h6 ?_;refine⟨by omega,?_⟩;intros
        (repeat apply ze);refine zg ?_;intros
        exact zu (i+1,a+1) [.cells v5 87 (yi cu)] ⟨hc,g8⟩ DO (by simp[zy i (by omega)]) rfl (by simp[h7])
     ·simp at hc;obtain rfl:M=i:=DO
      refine zC ?_;obtain⟨lg,h9⟩:∃lg,lg=(yB ls 3 M).all (uO d):=⟨_,rfl⟩;rw[<-h9];have c8:3+M<ls.length:=DO
      obtain⟨sl,tl,b1,b2,b3,f0⟩:=zN rfl ws (3+M) (by rw[d0];exact c8);obtain rfl:sl=(zP ls (3+M)).map bs:=by rw[f7 _ c8]at b1;exact(Option.some.inj b1).symm
      have j2:3+(M:Int)<(ws.length:Int):=by rw[d0];omega
      have j3:(0:Int)<=3+(M:Int):=DO
      have j4:(3+(M:Int)).toNat=3+M:=DO
      refine ze (ze (qy (nx:=nx) (σ:=Bool) (λq=>q=!decide (zP ls (3+M)=[qK])) (λq=>[(2,.ptr nx v0 0),(4,.ptr (nx+1) v1 0),(5,L ws),(8,L [d,v,c,l,(M:Int)]),(10,I M),(12,.ptr (nx+2) v2 0),(11,B lg),(213,B q)]) (λ_=>S) (λ_=>[.cells v0 25 [I 0,I 0,I 0,I 0,yU,yU],.cells v1 25 [I 0,I 0,I 0,I 0,yU,yU],.cells v2 25 [I d,I v,I c,I l,.sl (nx+3) a 8 0 M,.sl (nx+4) b0 1 0 0],.cells a 87 ((yY ls d 3 M).flatMap Enc.enc),.cells b0 26 []]) ?_ ?_))
      ·clear b1 b2 b3;generalize zP ls (3+M)=ln at *
       by_cases h1:ln.length=1
       ·obtain⟨x,rfl⟩:∃x,ln=[x]:=by
         match ln,h1 with
         | [x],_=>exact⟨x,rfl⟩
        by_cases q0:x=qK
        rotate_left
        ·have g0:yC .neq (bs x) ⟨#[100,105,115,116,97,110,99,101,115]⟩=some (.bool true):=(vR (v:=qK) q0).2
         repeat apply ze
         refine zi [(7,204)] (zW f0 w1 j2 j3 j4 g0) ?_;intros;exact zZ true [] (by simp[q0]) DP rfl DP
        subst q0
        repeat apply ze
        refine zi [(7,204)] (zW f0 w1 j2 j3 j4 d2) ?_;intros;exact zZ false [] DP DP rfl DP
       ·have l4:¬(ln.length:Int)=1:=DO
        have d5:¬ln=[qK]:=by rintro rfl;exact h1 rfl
        repeat apply ze
        refine zi [(7,204)] (zW f0 w1 j2 j3 j4 (zF h1 l4 zB)) ?_;intros;exact zZ true [] (by simp[d5]) DP rfl DP
      ·rintro q rfl
       by_cases e9:zP ls (3+M)=[qK]
       rotate_left
       ·have j:a4=(zI,2):=c7 (by rw[a3,if_neg (λq=>e9 q.2.1)])
        repeat apply ze
        refine zo (by simp[e9]) ?_
        (repeat apply ze);refine zg ?_;intros
        refine yn 0 4 rfl rfl ?_;refine yn 0 5 rfl rfl ?_
        repeat apply ze
        exact zj (zm hd DQ (by simp[zI,zr,j]))
       repeat apply ze
       refine zp (by simp[e9]) ?_;refine zk ?_;clear b1 b2 b3 f0 j2 j3 j4 c8
       (repeat apply ze);refine zg ?_;intros
       repeat apply ze
       refine zn (zK (λs:Nat × Nat=>s.1<=M+1/\(yB ls (4+M) s.1).all (jU (M+1))=true) (λ(i,b)=>[(2,.ptr nx v0 0),(4,.ptr (nx+1) v1 0),(5,L ws),(8,L [d,v,c,l,(M:Int)]),(10,I M),(12,.ptr (nx+2) v2 0),(11,B lg),(17,I i)]) (λ(i,b)=>[.cells v0 25 [I 0,I 0,I 0,I 0,yU,yU],.cells v1 25 [I 0,I 0,I 0,I 0,yU,yU],.cells v2 25 [I d,I v,I c,I l,.sl (nx+3) a 8 0 M,.sl (nx+4) b 1 0 i],.cells a 87 ((yY ls d 3 M).flatMap Enc.enc),.cells b 26 ((ji ls (4+M) i).flatMap Enc.enc)]) (λs=>M+1-s.1) (0,b0) [] (by simp[yB]) DP (by simp[ji,yB]) ?_);rintro⟨i,b⟩ ⟨hi,d3⟩;simp only at hi d3 ⊢
       (repeat apply ze);refine zg ?_;intros
       repeat apply ze
       refine zA rfl (λhc=>?_) (λhc=>?_)
       ·simp at hc;have l5:i<M+1:=DO
        have c8:4+M+i<ls.length:=DO
        obtain⟨sl,tl,b1,b2,b3,f0⟩:=zN rfl ws (4+M+i) (by rw[d0];exact c8);obtain rfl:sl=(zP ls (4+M+i)).map bs:=by rw[f7 _ c8]at b1;exact(Option.some.inj b1).symm
        have d7:=a8.at (4+M+i);have d8:=Vs (zP ls (4+M+i)) d7.1 (λw hw=>by have:=d7.2 w hw;omega);have u1:W (4+(M:Int))=4+(M:Int):=wr _ DO DO;have u2:W (4+(M:Int)+(i:Int))=4+(M:Int)+(i:Int):=wr _ DO DO;have u3:W ((M:Int)+1)=(M:Int)+1:=wr _ DO DO;have j2:4+(M:Int)+(i:Int)<(ws.length:Int):=by rw[d0];omega
        have j3:(0:Int)<=4+(M:Int)+(i:Int):=DO
        have j4:(4+(M:Int)+(i:Int)).toNat=4+M+i:=DO
        have e3:=Jj ls (4+M) i;have f4:=Zjt ls (4+M) i;have e6:=Zbu ls (4+M) i;have e4:jU (M+1) (zP ls (4+M+i))=false->a4=(zI,2):=λh=>c7 (by
         rw[a3,if_neg];rintro⟨-,-,q,-⟩;rw[Zbs (f:=jU (M+1)) l5 h]at q;cases q)
        clear b1 b2 b3 d7;generalize zP ls (4+M+i)=ln at *;refine zk (ze (zn ?_));cases a6:yI ln with
        | none =>
         have j:=e4 (by unfold jU;rw[a6];rfl);rw[a6]at d8;simp only[jH]at d8
         repeat apply ze
         refine zi [] (zW f0 u1 u2 j2 j3 j4) ?_;refine zv d8 ?_;intros
         repeat apply ze
         refine zi [(2,233)] zB ?_;intros
         repeat apply ze
         refine zo DP ?_
         (repeat apply ze);refine zg ?_;intros
         refine yn 0 4 rfl rfl ?_;refine yn 0 5 rfl rfl ?_
         repeat apply ze
         exact zj (zm hd DQ (by simp[zI,zr,j]))
        | some z =>
         have m4:=Zea a6;have l6:ln.map yo=z:=by unfold yI at a6;split at a6<;>cases a6;rfl
         rw[l6]at f4;rw[a6]at d8;simp only[jH]at d8
         by_cases g3:ln.length=M+1
         ·have j0:jU (M+1) ln=true:=by unfold jU;rw[a6,g3];simp
          have f6:z.length=M+1:=DO
          have f9:(yB ls (4+M) (i+1)).all (jU (M+1))=true:=by rw[e3,BD,d3];simp[j0]
          have g9:((ji ls (4+M) i).flatMap Enc.enc:List PV).length=i:=by rw[js,e6];exact BO _
          have h6:List.take i ((ji ls (4+M) i).flatMap Enc.enc:List PV)=(ji ls (4+M) i).flatMap Enc.enc:=Af (by rw[g9];exact Ag _);have h7:((ji ls (4+M) (i+1)).flatMap Enc.enc:List PV)=(ji ls (4+M) i).flatMap Enc.enc++[L z]:=by rw[f4,Aq];rfl
          repeat apply ze
          refine zi [] (zW f0 u1 u2 j2 j3 j4) ?_;refine zv d8 ?_;intros
          repeat apply ze
          refine zi [(2,233)] (zq f6 u3) ?_;intros
          repeat apply ze
          refine zp DP ?_;refine zk ?_
          repeat apply ze
          refine zi [] h6 ?_;refine⟨by omega,?_⟩;intros
          (repeat apply ze);refine zg ?_;intros
          exact zu (i+1,b+1) [] ⟨by omega,f9⟩ DO (by simp[zy i (by omega)]) rfl (by simp[h7])
         ·have j:=e4 (by unfold jU;rw[a6];simp[g3]);have f6:¬z.length=M+1:=DO
          have i5:¬(z.length:Int)=(M:Int)+1:=DO
          repeat apply ze
          refine zi [] (zW f0 u1 u2 j2 j3 j4) ?_;refine zv d8 ?_;intros
          repeat apply ze
          refine zi [(2,233)] (zF f6 i5 u3) ?_;intros
          repeat apply ze
          refine zo DP ?_
          (repeat apply ze);refine zg ?_;intros
          refine yn 0 4 rfl rfl ?_;refine yn 0 5 rfl rfl ?_
          repeat apply ze
          exact zj (zm hd DQ (by simp[zI,zr,j]))
       ·simp at hc;obtain rfl:i=M+1:=DO
        refine zC ?_;have d9:vO ls=some (⟨d,v,c,l,yY ls d 3 M,ji ls (4+M) (M+1)⟩,(yB ls 3 M).all λl=>(xe d l).2):=by rw[a3,if_pos ⟨d4,e9,d3,hM⟩];rfl
        have k0:=Zq4 _ (Zjw d9 a8);rw[d9]at hp;have k1:∀h:yS ⟨d,v,c,l,yY ls d 3 M,ji ls (4+M) (M+1)⟩=true,lg=(yB ls 3 M).all λl=>(xe d l).2:=λh=>by
         rw[h9];exact ZuO d4 (Jm h).days.2
        have e5:=Zbt ls d 3 M;have e6:=Zbu ls (4+M) (M+1);generalize yY ls d 3 M=cu at *;generalize ji ls (4+M) (M+1)=dd at *;generalize (yB ls 3 M).all (λl=>(xe d l).2)=ok at *;have m5:(cu.flatMap Enc.enc:List PV).length=M*8:=by rw[js,e5];rfl
        have m6:(dd.flatMap Enc.enc:List PV).length=M+1:=by rw[js,e6];exact BO _
        have k2:PV.lst M (cu.flatMap Enc.enc)=L cu:=by unfold L;rw[e5]
        have k3:PV.lst (M+1) (dd.flatMap Enc.enc)=L dd:=by unfold L;rw[e6]
        clear h9 d4 d3 e9 a3 c7 d9 f7 g2 a8;refine yh 3 rfl ?_;refine yh 4 rfl ?_
        repeat apply ze
        refine zi [] (zS e5 e6 k2 k3) ?_;refine yW [] k0 (zS e5 e6 k2 k3) ?_;intros;cases lg with
        | false =>
         have j:a4=(zI,3):=by
          rw[hp];exact if_neg λq=>by have:=k1 q.2;rw[q.1]at this;cases this
         repeat apply ze
         refine zi [(2,251)] zB ?_;intros
         repeat apply ze
         refine zo DP ?_
         (repeat apply ze);refine zg ?_;intros
         refine yn 0 4 rfl rfl ?_;refine yn 0 5 rfl rfl ?_
         repeat apply ze
         exact zj (zm hd DQ (by simp[zI,zr,j]))
        | true =>
         cases i6:yS ⟨d,v,c,l,cu,dd⟩ with
         | false =>
          have j:a4=(zI,3):=by
           rw[hp];exact if_neg λq=>by rw[i6]at q;cases q.2
          repeat apply ze
          refine zi [(2,251)] trivial ?_;intros
          repeat apply ze
          refine zo DP ?_
          (repeat apply ze);refine zg ?_;intros
          refine yn 0 4 rfl rfl ?_;refine yn 0 5 rfl rfl ?_
          repeat apply ze
          exact zj (zm hd DQ (by simp[zI,zr,j]))
         | true =>
          have j:a4=(⟨d,v,c,l,cu,dd⟩,0):=by
           rw[hp];exact if_pos ⟨(k1 i6).symm,i6⟩
          repeat apply ze
          refine zi [(2,251)] trivial ?_;intros
          repeat apply ze
          refine zp DP ?_;refine zk ?_
          (repeat apply ze);refine zg ?_;intros
          repeat apply ze
          exact zj (zm hd DQ (by simp[zr,j]))
open Go Go.Proofs
theorem ut{z:Int}(h:zT z):(zG z).length<=20:=by
 unfold zT at h;unfold zG;have:=Za5 z.toNat 18 DO;omega
abbrev xA:Wd:=[111,117,116,99,111,109,101]
abbrev Zby:Wd:=[109,97,108,102,111,114,109,101,100]
abbrev VB:Wd:=[114,97,110,103,101]
abbrev Qr:Wd:=[110,111,110,101]
abbrev Zm:Wd:=[98,111,117,110,100]
abbrev Yf:Wd:=[112,108,97,110]
abbrev Zbz:Wd:=[99,111,115,116]
abbrev ZbA:Wd:=[104,111,108,100,105,110,103]
abbrev xX:Wd:=[100,97,121]
abbrev ZbB:Wd:=[116,111,117,114]
structure Rep where
 out:Int
 bound:Int
 cost:Int
 hold:Int
 days:List Int
 plan:zH
abbrev Qt(r:Rep):List PV:=[I r.out,I r.bound,I r.cost,I r.hold,L r.days,L r.plan]
def jV(t:zU):Ln:=ZbB :: zM t.length :: t.flatMap λs=>[zG s.c,zG s.q]
def uu(d:zt):List Ln:=[xX,zM d.length] :: d.map jV
def wG(p:zH):List Ln:=[Yf,zM p.length] :: p.flatMap uu
def uQ(l:List Int):List Ln:=(List.range l.length).map λi=>[xX,zM i,zG (l.getD i 0)]
def uv(r:Rep):List Ln :=
 if r.out=1 then [[xA,Zby]] else if r.out=2 then [[xA,VB]]
 else if r.out=3 then [[xA,Qr],[Zm,zG r.bound]]
 else if r.out=4 then [xA,Yf] :: [Zm,zG r.bound] :: [Zbz,zG r.cost] :: [ZbA,zG r.hold] :: (uQ r.days++wG r.plan)
 else []
theorem ZuQ{m r:Nat}{l:List UInt8}(h:zM m=zM r++l):(r<10->zM m=UInt8.ofNat (48+r % 10) :: l)/\(¬r<10->zM m=zM (r / 10)++UInt8.ofNat (48+r % 10) :: l):=by
 constructor
 ·intro a;rw[h,Q7 a,C7 a];rfl
 ·intro a;rw[h,J2 a];simp
theorem VC{ls:List Ln}{m:Nat}(h:∀l∈ls,(zQ l).length+1<=m):(z8 ls).length<=m*ls.length:=by
 induction ls with
 | nil=>simp[z8]
 | cons a ls b =>
  rw[ul];have h1:=h a DP;have h2:=b λl hl=>h l (by simp[hl])
  simp only[Am,Ae,Nat.mul_add,BO];omega
theorem ZuR{l:List Nat}{m:Nat}(h:∀z∈l,z<=m):l.sum<=m*l.length:=by
 induction l with
 | nil=>simp
 | cons a l b =>
  have h1:=h a DP;have h2:=b λz c=>h z (by simp[c])
  simp only[BR,Ae,Nat.mul_add,BO];omega
theorem Wp{ws:Ln}{m:Nat}(h:∀w∈ws,w.length<=m):(zQ ws).length<=(m+1)*ws.length:=by
 rw[Vt];have:=ZuR (l:=ws.map List.length) (m:=m) λz a=>by obtain⟨w,b,rfl⟩:=Al.1 a;exact h w b
 rw[List.length_map]at this;rw[Nat.add_mul];omega
theorem ZbC(a b:List Ln):z8 (a++b)=z8 a++z8 b:=by simp[z8]
theorem wu{n:Nat}(h:n<10000000000000000000):(zM n).length<=20:=by have:=Za5 n 19 DO;omega
structure PlanTold (p:zH):Prop where
 n:p.length<=1000
 d:∀d∈p,d.length<=1000
 t:∀d∈p,∀t∈d,t.length<=1000
 s:∀d∈p,∀t∈d,∀s∈t,(0<=s.c/\s.c<=1000000000000000000)/\0<=s.q/\s.q<=1000000000000000000
theorem ZjN(t:zU):(jV t).length=2+2*t.length:=by
 unfold jV;simp only[Ae,List.length_flatMap,Ah];have:(t.map λ_=>0+1+1).sum=2*t.length:=by
  induction t with
  | nil=>rfl
  | cons a t b=>rw[AD,BR,b,Ae];omega
 omega
theorem ZuS{t:zU}(hl:t.length<=1000)(h:∀s∈t,(0<=s.c/\s.c<=1000000000000000000)/\0<=s.q/\s.q<=1000000000000000000):∀w∈jV t,w.length<=20:=by
 intro w a;unfold jV at a;simp only[Au,BL,A9,or_false]at a;rcases a with rfl | rfl | ⟨s,hs,rfl | rfl⟩
 ·decide
 ·exact wu DO
 ·have:=h s hs;exact ut (by unfold zT;omega)
 ·have:=h s hs;exact ut (by unfold zT;omega)
theorem ZjO{t:zU}(hl:t.length<=1000)(h:∀s∈t,(0<=s.c/\s.c<=1000000000000000000)/\0<=s.q/\s.q<=1000000000000000000):(zQ (jV t)).length<=42042:=by
 have h1:=Wp (ZuS hl h);rw[ZjN]at h1;omega
theorem ZuT{p:zH}(h:PlanTold p){d:zt}(a:d∈p):∀l∈uu d,(zQ l).length+1<=42043:=by
 intro l hl;unfold uu at hl;rcases Au.1 hl with rfl | hl
 ·have:=wu (n:=d.length) (by have:=h.d d a;omega);have:=Wp (ws:=[xX,zM d.length]) (m:=20) (by intro w b;simp only[Au,A9,or_false]at b;rcases b with rfl | rfl;decide;exact this);simp at this ⊢;omega
 ·obtain⟨t,c,rfl⟩:=Al.1 hl;have:=ZjO (h.t d a t c) (h.s d a t c);omega
theorem ZuU{p:zH}(h:PlanTold p):(wG p).length<=1+1001*p.length:=by
 have:∀q:zH,(∀d∈q,d.length<=1000)->(q.flatMap uu).length<=1001*q.length:=by
  intro q
  induction q with
  | nil=>intro _;simp
  | cons a q b =>
   intro h;have h1:=h a DP;have h2:=b λd c=>h d (by simp[c])
   simp only[Az,Am,Ae,uu,List.length_map,Nat.mul_add,BO];omega
 have:=this p h.d;unfold wG;rw[Ae];omega
theorem ZuV{p:zH}(h:PlanTold p):∀l∈wG p,(zQ l).length+1<=42043:=by
 intro l hl;unfold wG at hl;rcases Au.1 hl with rfl | hl
 ·have:=wu (n:=p.length) (by have:=h.n;omega);have:=Wp (ws:=[Yf,zM p.length]) (m:=20) (by intro w a;simp only[Au,A9,or_false]at a;rcases a with rfl | rfl;decide;exact this);simp at this ⊢;omega
 ·obtain⟨d,b,hl⟩:=BL.1 hl;exact ZuT h b l hl
theorem ZbD{p:zH}(h:PlanTold p):(z8 (wG p)).length<=100000000000:=by
 have h1:=VC (ZuV h);have h2:=ZuU h;have h3:=h.n;have:42043*(wG p).length<=42043*1001001:=Cb _ DO;omega
open Go Go.Proofs
section
variable {S:Store} {id v:Nat} {t s0 s1 s2 s3 x0 x1 x2 x3 x4 x5 r0 r1 r2 r3 r4 r5:PV}
theorem ZjP(u:List UInt8)(hl:u.length<=1048576)(f:S id=.cells v 92 [T (bs u),s0,s1,s2,s3,x0,x1,x2,x3,x4,x5,r0,r1,r2,r3,r4,r5]):
  Spec prog 48 [.ptr id v 0] S (λq S'=>q=I (yF u).2/\S'=S.set id (.cells v 92
   (if (yF u).2=0 then [T (bs u),s0,s1,s2,s3]++zE (yF u).1++[r0,r1,r2,r3,r4,r5] else [T (bs u),s0,s1,s2,s3,x0,x1,x2,x3,x4,x5,I (if (yF u).2=2 then 1 else 2),r1,r2,r3,r4,r5]))):=by
 have g:=Zuf u hl;generalize yF u=z at *;obtain⟨y,e⟩:=z;simp only at g ⊢;refine yt func48 ntmps48 results48 λnx c=>?_
 have a:id<nx:=jh c f DP;have b:=λobs=>(zJ (S:=S) (obs:=obs) a).trans f
 have g1:¬nx<=id:=DO
 refine DY ?_;refine ze (zi [] b ?_);refine yW [] g b ?_;intro v0
 repeat apply ze
 refine zg ?_;refine zn (DY ?_)
 by_cases d:e=0
 ·subst d;refine zo DP ?_;refine zi [] (zq b g1) ?_;refine DY ?_;exact zj ⟨_,_,rfl,⟨by simp[zr],by simp⟩,yb (qX c a _)⟩
 ·rw[if_neg d];refine zp (by simp[d]) ?_;refine DY ?_
  by_cases h2:e=2
  ·subst h2;refine zo DP ?_;refine zi [] (zq b g1) ?_;refine DY ?_;exact zj ⟨_,_,rfl,⟨by simp[zr],by simp⟩,yb (qX c a _)⟩
  ·rw[if_neg h2];refine zp (by simp[h2]) ?_;refine zi [] (zq b g1) ?_;refine DY ?_;exact zj ⟨_,_,rfl,⟨by simp[zr],by simp⟩,yb (qX c a _)⟩
theorem ZuW{a b:PV}{bd:Int}(hc:Pure prog 34 [.agg [x0,x1,x2,x3,x4,x5],s0,s3] (.tup [.agg [a,b],I bd]))(e:S id=.cells v 92 [t,s0,s1,s2,s3,x0,x1,x2,x3,x4,x5,r0,r1,r2,r3,r4,r5]):
  Spec prog 49 [.ptr id v 0] S (λq S'=>q=I 0/\S'=S.set id (.cells v 92 [t,s0,s1,s2,s3,x0,x1,x2,x3,x4,x5,I 3,I bd,r2,r3,r4,r5])):=by
 refine yt func49 ntmps49 results49 λnx f=>?_
 have c:id<nx:=jh f e DP;have d:=λobs=>(zJ (S:=S) (obs:=obs) c).trans e
 have g:∀(A:Ob) obs,ext (S.set id A) nx obs id=A:=λA obs=>(zJ c).trans (q11 _ _ _)
 have g1:¬nx<=id:=DO
 refine DY ?_;refine ze (zi [] (zq d g1) ?_);refine ze (zD (some []) (Row.pures [0,1,2,3,5,6,7,8,10,11,12,13] (.alt 4 (.alt 9 (.alt 14 (Row.pures [15,16,17,18,19,20,21] (.alt 22 (.done) .stop)) .stop) (.alt 14 (.alt 9 (Row.pures [15,16,17,18,19,20,21] (.alt 22 (.done) .stop)) .stop) .stop)) (.alt 9 (.alt 4 (.alt 14 (Row.pures [15,16,17,18,19,20,21] (.alt 22 (.done) .stop)) .stop) (.alt 14 (.alt 4 (Row.pures [15,16,17,18,19,20,21] (.alt 22 (.done) .stop)) .stop) .stop)) (.alt 14 (.alt 4 (.alt 9 (Row.pures [15,16,17,18,19,20,21] (.alt 22 (.done) .stop)) .stop) (.alt 9 (.alt 4 (Row.pures [15,16,17,18,19,20,21] (.alt 22 (.done) .stop)) .stop) .stop)) .stop)))) mixed (zF d g g1) ?_)
 repeat' refine And.intro ?_ ?_
 all_goals
  refine zO (hc) (zF d g g1) ?_;refine DY ?_;exact zj ⟨_,_,rfl,⟨by simp[zr],rfl⟩,yb (qX f c _)⟩
def Zn(e c:Int):Int:=if e=0 then c else e
theorem ZjQ{p:zH}{e c:Int}(j:Pure prog 35 [.agg [x0,x1,x2,x3,x4,x5],.agg [s0,s1,s2,s3]] (.tup [.agg [L p],I e]))(hc:e=0->Pure prog 67 [.agg [x0,x1,x2,x3,x4,x5],.agg [L p]] (I c))
  (h:S id=.cells v 92 [t,s0,s1,s2,s3,x0,x1,x2,x3,x4,x5,r0,r1,r2,r3,r4,r5]) :
  Spec prog 50 [.ptr id v 0] S (λq S'=>q=I (Zn e c)/\S'=S.set id (.cells v 92
   (if Zn e c=0 then [t,s0,s1,s2,s3,x0,x1,x2,x3,x4,x5,I 4,r1,r2,r3,r4,L p] else [t,s0,s1,s2,s3,x0,x1,x2,x3,x4,x5,r0,r1,r2,r3,r4,r5]))):=by
 have a:S=S.set id (.cells v 92 [t,s0,s1,s2,s3,x0,x1,x2,x3,x4,x5,r0,r1,r2,r3,r4,r5]):=(YN S id _ h).symm;unfold Zn;refine yt func50 ntmps50 results50 λnx g=>?_
 have b:id<nx:=jh g h DP;have d:=λobs=>(zJ (S:=S) (obs:=obs) b).trans h
 have k:∀(A:Ob) obs,ext (S.set id A) nx obs id=A:=λA obs=>(zJ b).trans (q11 _ _ _)
 have g1:¬nx<=id:=DO
 refine DY ?_;refine ze (zD (some [id]) (Row.pures [0,1,2,3,4,5,6,7,8,9,10,11] (.alt 12 (.alt 13 (Row.pures [14] .done) .stop) .stop)) mixed (zq d g1) ?_);refine zO (j) (zq d g1) ?_;intro v0
 repeat apply ze
 refine zg ?_
 by_cases f:e=0
 case neg =>
  simp only[if_neg f];refine zo (by simp[f]) ?_;refine DY ?_;exact zj ⟨_,_,rfl,⟨by simp[zr],a⟩,yb g⟩
 have i:=hc f;clear hc;simp only[if_pos f];subst f;refine zp DP ?_;refine zk ?_
 repeat apply ze
 refine zD (some [id,nx]) (Row.pures [0,1,2,3,4,5,6] .done) mixed (zq d g1) ?_;refine zO (i) (zq d g1) ?_;refine DY ?_
 by_cases h2:c=0
 case neg =>
  rw[if_neg h2];refine zo (by simp[h2]) ?_;refine DY ?_;exact zj ⟨_,_,rfl,⟨by simp[zr],a⟩,yb g⟩
 subst h2;rw[if_pos rfl];refine zp DP ?_;refine zk (ze (zD (some [nx]) (Row.pures [0,1,2,3,4,5] (.alt 6 (Row.pures [7,8,9] (.alt 10 (.done) .stop)) .stop)) mixed (zF d k g1) ?_))
 repeat' refine And.intro ?_ ?_
 all_goals
  refine DY ?_;exact zj ⟨_,_,rfl,⟨by simp[zr],rfl⟩,yb (qX g b _)⟩
theorem ZuX{c h:Int}{ds:List Int}(hc:Pure prog 68 [.agg [x0,x1,x2,x3,x4,x5],.agg [r5]] (I c))(i:Pure prog 69 [.agg [x0,x1,x2,x3,x4,x5],.agg [r5]] (I h))(e:Pure prog 71 [.agg [x0,x1,x2,x3,x4,x5],.agg [r5]] (L ds))
  (f:S id=.cells v 92 [t,s0,s1,s2,s3,x0,x1,x2,x3,x4,x5,r0,r1,r2,r3,r4,r5]) :
  Spec prog 51 [.ptr id v 0] S (λq S'=>q=I 0/\S'=S.set id (.cells v 92 [t,s0,s1,s2,s3,x0,x1,x2,x3,x4,x5,r0,r1,I c,I h,L ds,r5])):=by
 refine yt func51 ntmps51 results51 λnx g=>?_
 have a:id<nx:=jh g f DP;have b:=λobs=>(zJ (S:=S) (obs:=obs) a).trans f
 have d:∀(A:Ob) obs,ext (S.set id A) nx obs id=A:=λA obs=>(zJ a).trans (q11 _ _ _)
 have g1:¬nx<=id:=DO
 refine DY ?_;refine ze (zD (some []) (Row.pures [0,1,2,3,5,6,7,8] (.alt 4 (.alt 9 (Row.pures [10,11,12,13] (.alt 14 (.done) .stop)) .stop) (.alt 9 (.alt 4 (Row.pures [10,11,12,13] (.alt 14 (.done) .stop)) .stop) .stop))) mixed (zF b d g1) ?_)
 repeat' refine And.intro ?_ ?_
 all_goals
  refine zO (hc) (zF b d g1) ?_;refine ze (zD (some []) (Row.pures [0,1,2,3,5,6,7,8] (.alt 4 (.alt 9 (Row.pures [10,11,12,13] (.alt 14 (.done) .stop)) .stop) (.alt 9 (.alt 4 (Row.pures [10,11,12,13] (.alt 14 (.done) .stop)) .stop) .stop))) mixed (zF b d g1) ?_)
  repeat' refine And.intro ?_ ?_
  all_goals
   refine zO (i) (zF b d g1) ?_;refine ze (zD (some []) (Row.pures [0,1,2,3,5,6,7,8] (.alt 4 (.alt 9 (Row.pures [10,11,12,13] (.alt 14 (.done) .stop)) .stop) (.alt 9 (.alt 4 (Row.pures [10,11,12,13] (.alt 14 (.done) .stop)) .stop) .stop))) mixed (zF b d g1) ?_)
   repeat' refine And.intro ?_ ?_
   all_goals
    refine zO (e) (zF b d g1) ?_;refine DY ?_;exact zj ⟨_,_,rfl,⟨by simp[zr],rfl⟩,yb (qX g a _)⟩
end
open Go Go.Proofs Hp
def yv(l:List Int)(i:Nat):Int:=if 1000<l.getD i 0 then 1000 else if l.getD i 0<0 then 0 else l.getD i 0
theorem Wq(l:List Int)(i:Nat):0<=yv l i/\yv l i<=1000:=by unfold yv;split;omega;split<;>omega
theorem Zew(l:List Int)(i:Nat)(hi:i<=100):Pure prog 118 [L l,I i] (I (yv l i)):=by
 refine zx func118 ntmps118 results118 λS nx d=>?_
 refine DY ?_
 by_cases h1:i<l.length
 ·obtain⟨z,tl,f,g,a3,c⟩:=zN rfl l i h1;have e:l.getD i 0=z:=by rw[Aa,f];rfl
  have a:1<=l.length-i:=DO
  have b:¬l.length<=i:=DO
  unfold yv;rw[e]
  by_cases h2:z<0
  ·rw[if_neg DO,if_pos h2]
   repeat apply ze
   refine zi [(4,9)] (yr c h1 b a h2) ?_;refine zo rfl (DY ?_);exact zj (zm d rfl rfl)
  ·by_cases h3:1000<z
   ·rw[if_pos h3]
    repeat apply ze
    refine zi [(4,9)] (yr c h1 b a h2) ?_;refine zp rfl (zk ?_)
    repeat apply ze
    refine zi [] (zF c h1 a) ?_;refine zo (by simp[h3]) ?_;refine DY ?_;exact zj (zm d rfl rfl)
   ·rw[if_neg h3,if_neg h2]
    repeat apply ze
    refine zi [(4,9)] (yr c h1 b a h2) ?_;refine zp rfl (zk ?_)
    repeat apply ze
    refine zi [] (zF c h1 a) ?_;refine zp DT ?_;refine zk (ze (zi [] (zF c h1 a) ?_));exact zj (zm d rfl rfl)
 ·have e:l.getD i 0=0:=by rw[Aa,Ao DO];rfl
  unfold yv;rw[e,if_neg DV,if_neg DV];have b:l.length<=i:=DO
  repeat apply ze
  refine zi [(4,9)] (zq b zB) ?_;refine zo rfl (DY ?_);exact zj (zm d rfl rfl)
def xY(l:List Int):Int:=l.getD 0 0
theorem ZuY(l:List Int):Pure prog 76 [L l] (.agg (Xc (xY l) (yv l 1) (yv l 2) (yv l 3))):=by
 have g:=Zew l 1 DO;have i:=Zew l 2 DO;have t3:=Zew l 3 DO;generalize yv l 1=r at *;generalize yv l 2=b at *;generalize yv l 3=c at *;refine zx func76 ntmps76 results76 λS nx e=>?_
 refine DY ?_;intro v0;refine DY ?_;refine zv g ?_;refine zv i ?_;refine zv t3 ?_;intro v1
 by_cases h:0<l.length
 ·obtain⟨z,tl,j,k,a3,f⟩:=zN rfl l 0 h;have a:xY l=z:=by unfold xY;rw[Aa,j];rfl
  have d:1<=l.length:=h;rw[Dl]at f;rw[a]
  repeat apply ze
  refine zg ?_;refine zo (by simp[h]) ?_;refine zi [] (zF f h d) ?_;refine DY ?_;exact DZ e
 ·have a:xY l=0:=by unfold xY;rw[Aa,Ao DO];rfl
  rw[a];have hl:l=[]:=Cq.1 DO;subst hl
  repeat apply ze
  refine zg ?_;refine zp DP ?_;refine zk (DY ?_);exact DZ e
theorem ZuZ(l:List Int):Pure prog 33 [L l] (.agg (Xc (xY l) (yv l 1 % 9) (yv l 2 % 21) (yv l 3 % 13))):=by
 have a:=ZuY l;have b1:=Wq l 1;have b2:=Wq l 2;have b3:=Wq l 3;have d:(yv l 1).tmod 9=yv l 1 % 9:=Be DO;have w2:(yv l 2).tmod 21=yv l 2 % 21:=Be DO;have e:(yv l 3).tmod 13=yv l 3 % 13:=Be DO;generalize yv l 1=r at *;generalize yv l 2=b at *;generalize yv l 3=c at *;generalize xY l=s at *;refine zx func33 ntmps33 results33 λS nx f=>?_
 refine DY ?_;intro v0;refine DY ?_;refine zv a ?_;intro v1;refine ze (zi [] d ?_);refine ze (zi [] w2 ?_);refine ze (zi [] e ?_);refine DY ?_;exact DZ f
open Go Go.Proofs Hp
def ZbE(id ver b:Nat):Rd:=⟨none,λC S w=>Rel C S w (.ptr id ver 0) (.pointer (some ⟨b,0,none⟩)),λst h=>Rel.mono st h⟩
theorem Zu0{P:Program}{n N:Nat}{c:Code}{Q:Exit->(Nat->PV)->Store->Prop}{F:Nat->PV}{S:Store}{x id ver e:Nat}{cs:List PV}(g:F x=.ptr id ver 0)(hs:S id=.cells ver e cs)
  (h:∀b,PW P (ZbE id ver b) n N c Q F S):PW P jB n N c Q F S:=by
 intro C w a st;have d:=st.fr x;rw[g]at d;generalize hv:a.tmps.getD x undef=v at d;cases d with
 | ptr h1 h2 h3 =>
  obtain⟨b,k,hl,rfl⟩:=(h3 ver (by rw[hs];rfl)).2 rfl;have:=h b C w a ⟨st.sim,st.size,st.fr,.ptr h1 h2 h3⟩;exact wpIn_mono this λe m w' ⟨F',S',C',i,f,j,l⟩=>⟨F',S',C',i,⟨f.sim,f.size,f.fr,trivial⟩,j,l⟩
theorem Zu1{P:Program}{n:Nat}{F:Nat->PV}{S:Store}{o:Oper}{t e m id ver b j:Nat}{x:Operand}{cs:List PV}{K:PV->Store->Prop}(ho:o.op=.slice t x none none none)(k:P.underlying t=some (.array m e))(hc:P.cellsOf e≠0)(hx:ev F x=.ptr id ver 0)(hs:S id=.cells ver j cs)
  (l:K (.sc (.slice (some ⟨b,0,none⟩) m m)) S):PO P (ZbE id ver b) n o F S K:=by
 intro G p C w a N st next Q' d;have h:=st.ev x;rw[(p x (by simp[ho,Op.operands])).trans hx]at h;have e2:Rel C S w (.ptr id ver 0) (.pointer (some ⟨b,0,none⟩)):=st.v;have i:∀c,o.op≠.defer c:=by intro c hc;rw[ho]at hc;cases hc
 generalize hv:a.eval x=v at h;cases h with
 | ptr h1 h2 h3 =>
  obtain⟨b1,k1,hl,rfl⟩:=(h3 ver (by rw[hs];rfl)).2 rfl;cases e2 with
  | ptr i1 i2 i3 =>
   obtain⟨b2,q,f,hb⟩:=(i3 ver (by rw[hs];rfl)).2 rfl;rw[hl]at f;cases f;cases hb;have g:(execOp a.eval o).run P w=.ok (.value (.slice (some ⟨b,0,none⟩) m m)) w:=by
    unfold execOp;simp[ho,hv,Instr.sliceAt,run_underlying k,Instr.sureAddr,Instr.sliceBounds,vt hc];intro _;rfl
   exact qg i g (d _ _ _ _ _ l (.sc _) st.sim (Step.refl _ _ _))
theorem VD{P:Program}{o:Oper}{s x:Operand}{t:TypeId}{a:Act}{w w':World}{v:Value}(ho:o.op=.call { callee:=.builtin .copy,args:=#[s,x],argTypes:=#[t,t] })
  (h:(Builtin.copy_ #[t,t] o.type #[a.eval s,a.eval x]).run P w=.ok v w'):(execOp a.eval o).run P w=.ok (.value v) w':=by
 unfold execOp
 grind[resolve,invoke,builtin,Sem.run_bind,Sem.run_pure,Result.andThen_ok]
theorem Zu2{P:Program}{n:Nat}{F:Nat->PV}{S:Store}{o:Oper}{s x:Operand}{t e b m id ver et:Nat}{cs l:List PV}{K:PV->Store->Prop}(ho:o.op=.call { callee:=.builtin .copy,args:=#[s,x],argTypes:=#[t,t] })(ht:P.underlying t=some (.slice e))(f:(P.info? e).map (·.size)=some 1)
  (hs:ev F s=.sc (.slice (some ⟨b,0,none⟩) m m)) (hx:ev F x=.lst l.length l) (hid:S id=.cells ver et cs) (hm:cs.length=m)
  (hK:K (I (min l.length m:Nat)) (S.set id (.cells ver et (l.take m++cs.drop (min l.length m))))):PO P (ZbE id ver b) n o F S K:=by
 intro G hG C w a N st next Q' h;have e1:=st.ev s;rw[(hG s (by grind[Op.operands,Call.operands])).trans hs]at e1;have e2:=st.ev x;rw[(hG x (by grind[Op.operands,Call.operands])).trans hx]at e2;have e3:Rel C S w (.ptr id ver 0) (.pointer (some ⟨b,0,none⟩)):=st.v;have a5:∀c,o.op≠.defer c:=by intro c hc;rw[ho]at hc;cases hc
 generalize hv:a.eval s=v at e1;cases e1;generalize hu:a.eval x=u at e2;cases e3 with
 | ptr i1 i2 i3 =>
  obtain⟨b2,k,hl,hb⟩:=(i3 ver (by rw[hid];rfl)).2 rfl;cases hb;rcases st.sim.cells id ver et cs hid with ⟨hn,_⟩ | ⟨b',k',c,g1,g2,g3,g4,g5,g6⟩
  ·rw[hn]at hl;cases hl
  rw[hl]at g1;cases g1;have a6:∀(vs:List Value) (a':Addr) (cap:Nat),u=.slice (some a') l.length cap->vs.length=min l.length m->(∀j v,vs[j]?=some v->w.cell? (a'.add j)=some v)->(∀v∈vs,v.oneCell'=true)->(∀(i:Nat) (p:PV) (v:Value),(l.take m)[i]?=some p->vs[i]?=some v->Rel C S w p v)->o.wpIn (Fe (ZbE id ver b)) n P a w next Q':=by
   intro vs a' cap c6 r a0 y a7;have g:=run_copy_row P w t t o.type e b 0 m m a' l.length cap c et vs ht f g2 (by rw[r]) a0 DO y;have d:=VD (P:=P) (a:=a) (w:=w) ho (by rw[hv,hu,c6];exact g);simp only[Dh,AQ,AS]at d;generalize a8:w.setRow b (vs++c.toList.drop vs.length).toArray=w' at d;have a1:w'.heap[b]?=some (.cells (vs++c.toList.drop vs.length).toArray et (0,0)):=by rw[<-a8];exact setRow_heap w b c _ et _ g2
   have c7:w.grownBy w' (some b)/\w.drawn<=w'.drawn:=by
    rw[<-a8];exact⟨⟨rfl,rfl,rfl,by simp,λj q c8=>setRow_other w b j _ (λe=>c8 (by rw[e]))⟩,Ag _⟩
   have a2:(vs++c.toList.drop vs.length).toArray.size=k:=DT
   have a3:(l.take m).length=vs.length:=by rw[Ax,r];omega
   obtain⟨t1,t2⟩:=st.sim.turn (l:=C.loc id) (ver':=ver) (cs':=l.take m++cs.drop (min l.length m)) hid (Ag _) (λ_=>rfl) (by rw[hl];exact c7)
    (.inr ⟨b,k,_,hl,.inr (by rw[hl];rfl),a1,a2,by rw[Am,Bo,a3];omega,λi z hi f=>by
      rw[AG]at f
      by_cases q1:i<vs.length
      ·rw[As q1]at f;exact y z (Ab f)
      ·rw[Ak DO,AP]at f;rw[Am,Bo,a3]at hi;have e9:vs.length+(i-vs.length)=i:=DO
       rw[e9]at f;exact g5 i z DO (by rw[<-Array.getElem?_toList];exact f),
     λi p z hp f=>by
      rw[AG]at f
      by_cases q1:i<vs.length
      ·rw[As q1]at f;rw[As DO]at hp;exact a7 i p z hp f
      ·rw[Ak DO,AP]at f;rw[Ak DO,AP,a3,<-r]at hp;have e9:vs.length+(i-vs.length)=i:=DO
       rw[e9]at f hp;exact g6 i p z hp (by rw[<-Array.getElem?_toList];exact f)⟩)
   have a9:goInt vs.length=Value.int .i64 ((min l.length m:Nat):Int):=by rw[r];rfl
   exact qg a5 d (h _ _ _ _ _ hK (by rw[a9];exact .sc _) t1 t2)
  generalize hk:l.length=kk at e2;cases e2 with
  | lst0 =>
   rename_i cap a';have g:(Builtin.copy_ #[t,t] o.type #[a.eval s,a.eval x]).run P w=.ok (goInt 0) w:=by
    rw[hv,hu];cases hq:P.info? e with
    | none=>simp[hq]at f
    | some i =>
     cases a'<;>simp[Builtin.copy_,run_underlying ht,Builtin.lenOf,Builtin.firstCells,sizeOf,typeInfo,hq,storeCells,loadCells,loadCellsFrom]
   have d:=VD (P:=P) (a:=a) (w:=w) ho g;have eS:S.set id (.cells ver et cs)=S:=by
    funext i
    by_cases hi:i=id
    ·grind[q11]
    ·grind[q10]
   simp only[Ah,Nat.zero_min,Ds,Dl,AQ,eS]at hK;exact qg a5 d (h _ _ _ _ _ hK (.sc _) st.sim (Step.refl _ _ _))
  | lst1 hn d4 hb hM d0 h1 h2 =>
   rename_i cap b' o' c' e' fz;subst hk;have b7:∀j,(⟨b',o',none⟩:Addr).add j=⟨b',o'+j,none⟩:=by intro j;unfold Addr.add;split<;>simp_all
   have a4:∀(j:Nat) (v:Value),((c'.toList.drop o').take (min l.length m))[j]?=some v->j<min l.length m/\c'[o'+j]?=some v:=λj v q=>by
    rw[BI]at q;split at q
    ·rename_i d1;rw[AP,Array.getElem?_toList]at q;exact⟨d1,q⟩
    ·cases q
   refine a6 ((c'.toList.drop o').take (min l.length m)) ⟨b',o',none⟩ cap rfl ?_ ?_ ?_ ?_
   ·rw[Ax,Bo];have e9:c'.toList.length=c'.size:=Array.length_toList
    by_cases b8:l=[]
    ·subst b8;simp
    ·have:=d0 b8;omega
   ·intro j v q;obtain⟨q1,q2⟩:=a4 j v q;rw[b7];simp[World.cell?,hb,q2]
   ·intro v d2;obtain⟨j,q⟩:=Ca d2;obtain⟨q1,q2⟩:=a4 j v q;exact h1 j v DO q2
   ·intro i p v hp d3;obtain⟨q1,q2⟩:=a4 i v d3;rw[AL DO]at hp;exact h2 i p v hp q2
open Go Go.Proofs Hp
theorem Zu3(l:List Int)(i:Nat):min (max (l.getD i 0) 0) 1000=yv l i:=by
 unfold yv;split
 ·omega
 ·split<;>omega
theorem Zu4(l:List Int):(l.flatMap Enc.enc:List PV).take 4++[I 0,I 0,I 0,I 0].drop (min (l.flatMap Enc.enc:List PV).length 4)=[I (l.getD 0 0),I (l.getD 1 0),I (l.getD 2 0),I (l.getD 3 0)]:=by
 match l with
 | []=>rfl
 | [a]=>simp
 | [a,b]=>simp
 | [a,b,c]=>simp
 | a :: b :: c :: d :: r =>
  have:min (((a :: b :: c :: d :: r).flatMap Enc.enc:List PV).length) 4=4:=by rw[js];simp[Enc.sz]
  rw[this];simp
theorem ZjR(l:List Int):Pure prog 47 [L l] (.agg (Xc (xY l) (yv l 1) (yv l 2) (yv l 3))):=by
 have c1:=X2 (l.getD 1 0) 0 1000;have c2:=X2 (l.getD 2 0) 0 1000;have c3:=X2 (l.getD 3 0) 0 1000;rw[Zu3]at c1 c2 c3;have d:=Zu4 l;have e:L l=.lst (l.flatMap Enc.enc:List PV).length (l.flatMap Enc.enc):=by
  show PV.lst l.length _=_
  congr 1;rw[js];simp[Enc.sz]
 have c:xY l=l.getD 0 0:=rfl;rw[c,e];generalize l.getD 0 0=z0 at *;generalize l.getD 1 0=z1 at *;generalize l.getD 2 0=z2 at *;generalize l.getD 3 0=z3 at *;generalize yv l 1=t1 at *;generalize yv l 2=t2 at *;generalize yv l 3=t3 at *;generalize (l.flatMap Enc.enc:List PV)=cs at *;refine zx func47 ntmps47 results47 λS nx f=>?_
 refine DY ?_;intro v0;refine DY ?_;intro v1;refine Zu0 (x:=3) (id:=nx+1) (ver:=v1) rfl (by rw[zY];rfl) λb=>?_
 refine DY ?_;refine λa=>Zu1 rfl underlying147 DP rfl (by rw[zY];rfl) ?_
 refine⟨_,_,rfl,zR a ?_⟩;refine λa=>Zu2 (id:=nx+1) (ver:=v1) rfl underlying26 DR rfl rfl (by rw[zY];rfl) rfl ?_
 rw[d];refine⟨_,_,yl _ DO DP,zR a ?_⟩
 try simp only[AI,AV,A7]
 repeat apply ze
 refine zg ?_;refine zn (zK (λk:Nat=>1<=k/\k<=4) (λk=>[(2,.ptr nx v0 0),(3,.ptr (nx+1) v1 0),(4,I k)]) (λk=>[.cells v0 65 [I 0,I 0,I 0,I 0],.cells v1 147 [I z0,I (if 1<k then t1 else z1),I (if 2<k then t2 else z2),I (if 3<k then t3 else z3)]]) (λk=>4-k) 1 [] DP DP DP ?_);rintro k ⟨g,h⟩
 repeat apply ze
 refine zg ?_;refine zA rfl (λhc=>?_) (λhc=>?_)
 ·simp at hc;refine zk (ze (zn ?_));obtain rfl | rfl | rfl:k=1\/k=2\/k=3:=DO
  ·repeat apply ze
   refine zg ?_;refine zv c1 ?_;refine zg ?_;exact zu 2 [] DO DO (by simp;exact wr 2 (by omega) (by omega)) rfl DP
  ·repeat apply ze
   refine zg ?_;refine zv c2 ?_;refine zg ?_;exact zu 3 [] DO DO (by simp;exact wr 3 (by omega) (by omega)) rfl DP
  ·repeat apply ze
   refine zg ?_;refine zv c3 ?_;refine zg ?_;exact zu 4 [] DO DO (by simp;exact wr 4 (by omega) (by omega)) rfl DP
 ·simp at hc;obtain rfl:k=4:=DO
  refine zC (DY ?_);exact DZ f
open Go Go.Proofs Hp
def Wr(x:Inst)(bd:Int)(p:zH)(e c:Int):Rep:=if Zn e c=0 then ⟨4,bd,xI x p,W (xu x p x.cust.length),wh x p,p⟩ else ⟨3,bd,0,0,[],[]⟩
def VE(e:Int):Rep:=⟨if e=2 then 1 else 2,0,0,0,[],[]⟩
structure Below21 (x:Inst) (l:List Int) (bd:Int) (p:zH) (e c:Int):Prop where
 climb:∃a b,Pure prog 34 [.agg (zE x),I (xY l),I (yv l 3)] (.tup [.agg [a,b],I bd])
 run:Pure prog 35 [.agg (zE x),.agg [I (xY l),I (yv l 1),I (yv l 2),I (yv l 3)]] (.tup [.agg [L p],I e])
 chk:e=0->Pure prog 67 [.agg (zE x),.agg [L p]] (I c)
 cost:Zn e c=0->Pure prog 68 [.agg (zE x),.agg [L p]] (I (xI x p))
 hold:Zn e c=0->Pure prog 69 [.agg (zE x),.agg [L p]] (I (W (xu x p x.cust.length)))
 days:Zn e c=0->Pure prog 71 [.agg (zE x),.agg [L p]] (L (wh x p))
theorem ZjS(u:List UInt8)(hl:u.length<=1048576)(l:List Int)(f:(yF u).2≠0):Pure prog 12 [T (bs u),L l] (.agg (Qt (VE (yF u).2))):=by
 have d:=ZjR l;have a:=λ(S:Store) (id v:Nat) (s0 s1 s2 s3 x0 x1 x2 x3 x4 x5 r0 r1 r2 r3 r4 r5:PV) hS=>ZjP (S:=S) (id:=id) (v:=v) (s0:=s0) (s1:=s1) (s2:=s2) (s3:=s3) (x0:=x0) (x1:=x1) (x2:=x2) (x3:=x3) (x4:=x4) (x5:=x5) (r0:=r0) (r1:=r1) (r2:=r2) (r3:=r3) (r4:=r4) (r5:=r5) u hl hS
 simp only[if_neg f]at a;have b:VE (yF u).2=⟨if (yF u).2=2 then 1 else 2,0,0,0,[],[]⟩:=rfl;rw[b];generalize (if (yF u).2=2 then (1:Int) else 2)=o at *;generalize (yF u).2=e at *;generalize xY l=s0 at *;generalize yv l 1=s1 at *;generalize yv l 2=s2 at *;generalize yv l 3=s3 at *;refine zx func12 ntmps12 results12 λS nx g=>?_
 refine DY ?_;intro v0;refine DY ?_;refine zv d ?_;intro v1
 repeat apply ze
 refine zg ?_;refine zn (zK (λk:Nat=>k=0) (λ_=>[(4,.ptr nx v0 0),(5,.ptr (nx+1) v1 0),(21,.lst 4 [.fn (.func 48) [.ptr (nx+1) v1 0] [],.fn (.func 49) [.ptr (nx+1) v1 0] [],.fn (.func 50) [.ptr (nx+1) v1 0] [],.fn (.func 51) [.ptr (nx+1) v1 0] []]),(22,I 4),(23,I 0)])
  (λ_=>[.cells v0 32 [I 0,I 0,I 0,I 0,yU,yU],.cells v1 92 [T (bs u),I s0,I s1,I s2,I s3,I 0,I 0,I 0,I 0,yU,yU,I 0,I 0,I 0,I 0,yU,yU]]) (λs=>s) 0 [] rfl (by simp[qa]) DP ?_)
 rintro k rfl;refine DY ?_;refine ze (zo DP ?_);refine zk (ze (zn (DY ?_)));refine DY ?_;refine λc=>((a _ _ _ _ _ _ _ _ _ _ _ _ _ _ _ _ _ _ _ (by rw[zY];rfl)).mono ?_).v
 rintro _ _ ⟨rfl,rfl⟩;refine⟨_,_,yl _ DO DP,zR c ?_⟩;refine zo (by simp[f]) ?_;refine zC (DY ?_);refine yn 0 4 rfl rfl ?_;refine yn 0 5 rfl rfl ?_;exact zj (zm g DQ (by simp[zr]))
theorem Zu5(u:List UInt8)(hl:u.length<=1048576)(l:List Int){bd:Int}{p:zH}{e c:Int}(j:(yF u).2=0)(n:Below21 (yF u).1 l bd p e c):Pure prog 12 [T (bs u),L l] (.agg (Qt (Wr (yF u).1 bd p e c))):=by
 have h:=ZjR l;have f:=λ(S:Store) (id v:Nat) (s0 s1 s2 s3 x0 x1 x2 x3 x4 x5 r0 r1 r2 r3 r4 r5:PV) hS=>ZjP (S:=S) (id:=id) (v:=v) (s0:=s0) (s1:=s1) (s2:=s2) (s3:=s3) (x0:=x0) (x1:=x1) (x2:=x2) (x3:=x3) (x4:=x4) (x5:=x5) (r0:=r0) (r1:=r1) (r2:=r2) (r3:=r3) (r4:=r4) (r5:=r5) u hl hS
 simp only[if_pos j]at f;obtain⟨⟨a,b,b1⟩,b2,b3,b4,b5,b6⟩:=n;have i:Wr (yF u).1 bd p e c=if Zn e c=0 then ⟨4,bd,xI (yF u).1 p,W (xu (yF u).1 p (yF u).1.cust.length),wh (yF u).1 p,p⟩ else ⟨3,bd,0,0,[],[]⟩:=rfl
 rw[i];generalize (yF u).2=e0 at *;generalize (yF u).1=y at *;subst j;generalize xI y p=co at *;generalize W (xu y p y.cust.length)=ho at *;generalize wh y p=ds at *;generalize xY l=s0 at *;generalize yv l 1=s1 at *;generalize yv l 2=s2 at *;generalize yv l 3=s3 at *;refine zx func12 ntmps12 results12 λS nx m=>?_
 refine DY ?_;intro v0;refine DY ?_;refine zv h ?_;intro v1
 repeat apply ze
 refine zg ?_;refine zn (zK (λk:Nat=>k<=4/\(3<=k->Zn e c=0)) (λk=>[(4,.ptr nx v0 0),(5,.ptr (nx+1) v1 0),(21,.lst 4 [.fn (.func 48) [.ptr (nx+1) v1 0] [],.fn (.func 49) [.ptr (nx+1) v1 0] [],.fn (.func 50) [.ptr (nx+1) v1 0] [],.fn (.func 51) [.ptr (nx+1) v1 0] []]),(22,I 4),(23,I k)])
  (λk=>[.cells v0 32 [I 0,I 0,I 0,I 0,yU,yU],.cells v1 92 [T (bs u),I s0,I s1,I s2,I s3,if k=0 then I 0 else I y.days,if k=0 then I 0 else I y.veh,if k=0 then I 0 else I y.cap,if k=0 then I 0 else I y.len,if k=0 then yU else L y.cust,if k=0 then yU else L y.dist,
   if k<=1 then I 0 else if k=2 then I 3 else I 4,if k<=1 then I 0 else I bd,if k<=3 then I 0 else I co,if k<=3 then I 0 else I ho,if k<=3 then yU else L ds,if k<=2 then yU else L p]]) (λs=>4-s) 0 [] DP (by simp[qa]) DP ?_)
 rintro k ⟨o,g⟩;refine DY ?_;refine ze (zA rfl (λhc=>?_) (λhc=>?_))
 ·simp at hc;refine zk (ze (zn ?_));obtain rfl | rfl | rfl | rfl:k=0\/k=1\/k=2\/k=3:=DO
  ·refine DY ?_;refine DY ?_;refine λd=>((f _ _ _ _ _ _ _ _ _ _ _ _ _ _ _ _ _ _ _ (by rw[zY];rfl)).mono ?_).v
   rintro _ _ ⟨rfl,rfl⟩;refine⟨_,_,yl _ DO DP,zR d ?_⟩;refine zp DP ?_;refine zk (zg ?_);exact zu 1 [] DP DO (by simp;exact wr 1 (by omega) (by omega)) rfl DP
  ·refine DY ?_;refine DY ?_;refine λd=>((ZuW b1 (by rw[zY];rfl)).mono ?_).v
   rintro _ _ ⟨rfl,rfl⟩;refine⟨_,_,yl _ DO DP,zR d ?_⟩;refine zp DP ?_;refine zk (zg ?_);exact zu 2 [] DP DO (by simp;exact wr 2 (by omega) (by omega)) rfl DP
  ·by_cases hf:Zn e c=0
   ·refine DY ?_;refine DY ?_;refine λd=>((ZjQ b2 b3 (by rw[zY];rfl)).mono ?_).v
    rintro _ _ ⟨rfl,rfl⟩;simp only[hf,if_true];refine⟨_,_,yl _ DO DP,zR d ?_⟩;refine zp DP ?_;refine zk (zg ?_);exact zu 3 [] ⟨by omega,λ_=>by first | exact hf | trivial⟩ DO (by simp;exact wr 3 (by omega) (by omega)) rfl DP
   ·rw[if_neg hf];refine DY ?_;refine DY ?_;refine λd=>((ZjQ b2 b3 (by rw[zY];rfl)).mono ?_).v
    rintro _ _ ⟨rfl,rfl⟩;simp only[if_neg hf];refine⟨_,_,yl _ DO DP,zR d ?_⟩;refine zo (by simp[hf]) ?_;refine zC (DY ?_);refine yn 0 4 rfl rfl ?_;refine yn 0 5 rfl rfl ?_;exact zj (zm m DQ (by simp[zr]))
  ·have hf:=g DO;refine DY ?_;refine DY ?_;refine λd=>((ZuX (b4 hf) (b5 hf) (b6 hf) (by rw[zY];rfl)).mono ?_).v
   rintro _ _ ⟨rfl,rfl⟩;refine⟨_,_,yl _ DO DP,zR d ?_⟩;refine zp DP ?_;refine zk (zg ?_);exact zu 4 [] ⟨by omega,λ_=>hf⟩ DO (by simp;exact wr 4 (by omega) (by omega)) rfl DP
 ·simp at hc;obtain rfl:k=4:=DO
  rw[if_pos (g DO)];refine zC (DY ?_);exact zj (zm m DQ (by simp[zr]))
open Go Go.Proofs
def Qu(a b:Int):Int:=if a.tmod b≠0/\¬a<0 then W (W (a.tdiv b)+1) else W (a.tdiv b)
def Yg(c:Cust)(n:Int):Int:=jy (W (W (c.rate*n)-c.start)) 0
theorem ZjT(c:Cust)(n:Int):Pure prog 205 [.agg (yi c),I n] (I (Yg c n)):=by
 refine zx func205 ntmps205 results205 λS nx a=>?_
 refine DY ?_;intro v0;refine DY ?_;exact zj (zm a DQ (by simp[zr,Yg]))
def Xe(c:Cust):Nat->Int × Int
 | 0=>(0,c.start)
 | k+1=>(W ((Xe c k).1+jy (W ((Xe c k).2-c.rate)) 0),W ((Xe c k).2-c.rate))
def ZbF(c:Cust)(n:Nat):Int:=W (c.hold*(Xe c n).1)
theorem Zu6(c:Cust)(n:Nat)(hn:n<=1000):Pure prog 210 [.agg (yi c),I n] (I (ZbF c n)):=by
 refine zx func210 ntmps210 results210 λS nx e=>?_
 refine DY ?_;intro v0;refine ze (zD (some [nx]) (Row.pures [0,1,2,3] .done) mixed trivial ?_)
 repeat apply ze
 refine zg ?_;refine zn (zK (λs:Nat × Int × Int=>s.1<=n/\s.2=Xe c s.1) (λ(k,a,b)=>[(1,I n),(2,.ptr nx v0 0),(5,I a),(6,I b),(9,I n),(10,I k)]) (λ_=>[.cells v0 87 (yi c)]) (λs=>n-s.1) (0,0,c.start) [] ⟨by simp,rfl⟩ DP DP ?_);rintro⟨k,a,b⟩ ⟨f,hs⟩;simp only at f hs ⊢;have d:a=(Xe c k).1:=congrArg Prod.fst hs;have hb:b=(Xe c k).2:=congrArg Prod.snd hs;refine DY ?_;refine ze (zA rfl (λhc=>?_) (λhc=>?_))
 ·simp at hc;refine zk (ze (zn (DY ?_)));refine zg ?_;refine zg ?_;exact zu (k+1,W (a+jy (W (b-c.rate)) 0),W (b-c.rate)) [] ⟨hc,by rw[d,hb];rfl⟩ DT (by simp[zy k (by omega)]) rfl DP
 ·simp at hc;obtain rfl:k=n:=DO
  refine zC (DY ?_);exact zj (zm e DQ (by simp[zr,ZbF,d]))
theorem ZjU(a b:Int)(hb:0<b):Pure prog 165 [I a,I b] (.tup [I (Qu a b),B true]):=by
 have h0:¬b=0:=DO
 have h1:¬b=-1:=DO
 have h2:¬b<0:=DO
 have e:Qu a b=if a.tmod b≠0/\¬a<0 then W (W (a.tdiv b)+1) else W (a.tdiv b):=rfl
 rw[e];refine zx func165 ntmps165 results165 λS nx d=>?_
 refine DY ?_;obtain⟨q,hm⟩:∃q:Prop,(a=-9223372036854775808)=q:=⟨_,rfl⟩
 by_cases f:q
 all_goals
  repeat apply ze
  refine zi [(2,9),(5,12)] (yr h0 h1 hm f zB) ?_;refine zp DP ?_;refine zk (ze (zi [] h0 ?_))
  by_cases h3:a.tmod b=0
  ·rw[if_neg (by simp[h3])]
   repeat apply ze
   refine zi [(4,24)] (zF h0 h3 zB) ?_;refine zp DP ?_;refine zk (DY ?_);exact DZ d
  ·by_cases c:a<0
   ·rw[if_neg (by simp[c])]
    repeat apply ze
    refine zi [(4,24)] (zS h0 h3 c h2) ?_;refine zp DP ?_;refine zk (DY ?_);exact DZ d
   ·rw[if_pos ⟨h3,c⟩]
    repeat apply ze
    refine zi [(4,24)] (zS h0 h3 c h2) ?_;refine zo DP ?_;refine zg ?_;refine DY ?_;exact DZ d
def Qv(a b:Int):Int × Bool:=if a=0\/b=0 then (0,true) else if ¬W ((W (a*b)).tdiv b)=a\/(a=-9223372036854775808/\b=-1) then (0,false) else (W (a*b),true)
theorem Zu7(a b:Int):Pure prog 121 [I a,I b] (.tup [I (Qv a b).1,B (Qv a b).2]):=by
 unfold Qv
 by_cases h0:a=0
 ·rw[if_pos (.inl h0)];refine zx func121 ntmps121 results121 λS nx c=>?_
  refine DY ?_
  repeat apply ze
  refine zi [(2,9)] (zq h0 zB) ?_;refine zo DP ?_;refine DY ?_;exact DZ c
 by_cases h1:b=0
 ·rw[if_pos (.inr h1)];refine zx func121 ntmps121 results121 λS nx c=>?_
  refine DY ?_
  repeat apply ze
  refine zi [(2,9)] (zq h0 h1) ?_;refine zo DP ?_;refine DY ?_;exact DZ c
 rw[if_neg (by simp[h0,h1])]
 by_cases h2:W ((W (a*b)).tdiv b)=a
 ·by_cases h3:a=-9223372036854775808
  ·by_cases d:b=-1
   ·rw[if_pos (.inr ⟨h3,d⟩)];refine zx func121 ntmps121 results121 λS nx c=>?_
    refine DY ?_
    repeat apply ze
    refine zi [(2,9)] (zq h0 h1) ?_;refine zp DP ?_;refine zk (DY ?_)
    repeat apply ze
    refine zi [(5,21),(8,24)] (zS h1 h2 (eq_true h3) (eq_true d)) ?_;refine zo DP ?_;refine DY ?_;exact DZ c
   ·rw[if_neg (by simp[h2,d])];refine zx func121 ntmps121 results121 λS nx c=>?_
    refine DY ?_
    repeat apply ze
    refine zi [(2,9)] (zq h0 h1) ?_;refine zp DP ?_;refine zk (DY ?_)
    repeat apply ze
    refine zi [(5,21),(8,24)] (zS h1 h2 (eq_true h3) d) ?_;refine zp DP ?_;refine zk (DY ?_);exact DZ c
  ·rw[if_neg (by simp[h2,h3])];refine zx func121 ntmps121 results121 λS nx c=>?_
   refine DY ?_
   repeat apply ze
   refine zi [(2,9)] (zq h0 h1) ?_;refine zp DP ?_;refine zk (DY ?_)
   repeat apply ze
   refine zi [(5,21),(8,24)] (zS h1 h2 h3 zB) ?_;refine zp DP ?_;refine zk (DY ?_);exact DZ c
 ·rw[if_pos (.inl h2)];refine zx func121 ntmps121 results121 λS nx c=>?_
  refine DY ?_
  repeat apply ze
  refine zi [(2,9)] (zq h0 h1) ?_;refine zp DP ?_;refine zk (DY ?_)
  repeat apply ze
  refine zi [(5,21),(8,24)] (zF h1 h2 zB) ?_;refine zo DP ?_;refine DY ?_;exact DZ c
def Jn(x:Int):Int :=
 let u:=IntKind.u64.wrap
 let a:=bits BinOp.and IntKind.u64
 let x1:=u (a (x.fdiv (2 ^ 1)) 6148914691236517205+a x 6148914691236517205)
 let x2:=u (a (x1.fdiv (2 ^ 2)) 3689348814741910323+a x1 3689348814741910323)
 let x3:=a (u (x2.fdiv (2 ^ 4)+x2)) 1085102592571150095
 let x4:=u (x3+x3.fdiv (2 ^ 8))
 let x5:=u (x4+x4.fdiv (2 ^ 16))
 let x6:=u (x5+x5.fdiv (2 ^ 32))
 bits BinOp.and IntKind.i64 (W x6) 127
theorem Zu8(n:Nat):Pure prog 304 [U n] (I (Jn n)):=by
 refine zx func304 ntmps304 results304 λS nx a=>?_
 refine DY ?_;refine DY ?_;refine DY ?_;refine DY ?_;refine DY ?_;refine DY ?_;refine DY ?_;refine DY ?_;exact zj (zm a DQ (by simp[zr,Jn,IntKind.bits]))
theorem Zu9(n:Nat):Pure prog 274 [U n] (I (Jn n)):=by
 have h:=Zu8 n;refine zx func274 ntmps274 results274 λS nx a=>?_
 refine DY ?_;refine DY ?_;refine zv h ?_;exact DZ a
def ZbG(i:Nat)(least:Int)(p:Nat):Int:=if i=0\/Jn p<least then Jn p else least
def Zo(ps:List Nat):Nat->Int
 | 0=>0
 | k+1=>ZbG k (Zo ps k) (ps.getD k 0)
theorem Zva(ps:List Nat)(hl:ps.length<=1048576):Pure prog 243 [L ps] (I (Zo ps ps.length)):=by
 refine zx func243 ntmps243 results243 λS nx c=>?_
 refine DY ?_;refine DY ?_
 repeat apply ze
 refine zg ?_;refine zn (zK (λk:Nat=>k<=ps.length) (λk=>[(3,I (Zo ps k)),(7,L ps),(8,I ps.length),(9,I k)]) (λ_=>[]) (λk=>ps.length-k) 0 [] DP (by simp[Zo]) DP ?_);rintro k g;refine DY ?_;refine ze (zA rfl (λhc=>?_) (λhc=>?_))
 ·simp at hc;obtain⟨p,tl,d,h,a3,e⟩:=zN rfl ps k hc;have f:ps.getD k 0=p:=by rw[Aa,d];rfl
  have a:Zo ps (k+1)=ZbG k (Zo ps k) p:=by rw[<-f];rfl
  have b:=Zu9 p;refine zk (ze (zn (ze (zi [] (zq e hc) ?_))));refine DY ?_;refine zv b ?_;unfold ZbG at a;generalize Zo ps k=f0 at *;generalize Jn p=o at *
  by_cases h0:k=0
  ·rw[if_pos (.inl h0)]at a;refine ze (zi [(2,18)] (zq (eq_true h0) zB) ?_);refine zo DP ?_;refine zg ?_;refine zg ?_;exact zu (k+1) [] hc DO (by simp[zy k (by omega),a]) rfl DP
  by_cases h1:o<f0
  ·rw[if_pos (.inr h1)]at a;refine ze (zi [(2,18)] (zq h0 h1) ?_);refine zo DP ?_;refine zg ?_;refine zg ?_;exact zu (k+1) [] hc DO (by simp[zy k (by omega),a]) rfl DP
  ·rw[if_neg (by simp only[not_or];exact⟨h0,h1⟩)]at a;refine ze (zi [(2,18)] (zq h0 h1) ?_);refine zp DP ?_;refine zk (zg ?_);exact zu (k+1) [] hc DO (by simp[zy k (by omega),a]) rfl DP
 ·simp at hc;obtain rfl:k=ps.length:=DO
  refine zC (DY ?_);exact DZ c
def ux(c:Cust)(n cap:Int):Int :=
 if c.kind=1 then Zo c.pats c.pats.length else if Yg c n=0 then 0 else if jJ cap c.size<1 then n else jJ (Qu (Yg c n) (jJ cap c.size)) n
theorem ZjV(c:Cust)(n cap:Int)(e:c.pats.length<=1048576):Pure prog 204 [.agg (yi c),I n,I cap] (I (ux c n cap)):=by
 have hf:=Zva c.pats e;have d:=ZjT c n;unfold ux;generalize Zo c.pats c.pats.length=fz at *;generalize Yg c n=wz at *
 by_cases a:c.kind=1
 ·rw[if_pos a];refine zx func204 ntmps204 results204 λS nx b=>?_
  refine DY ?_;intro v0
  repeat apply ze
  refine zi [] a ?_;refine zo (by simp[a]) ?_;refine DY ?_;refine zv hf ?_;exact DZ b
 rw[if_neg a]
 by_cases h0:wz=0
 ·rw[if_pos h0];refine zx func204 ntmps204 results204 λS nx b=>?_
  refine DY ?_;intro v0
  repeat apply ze
  refine zi [] a ?_;refine zp (by simp[a]) ?_;refine zk (DY ?_);refine zv d ?_
  repeat apply ze
  refine zi [] h0 ?_;refine zo (by simp[h0]) ?_;refine DY ?_;exact DZ b
 rw[if_neg h0]
 by_cases h1:jJ cap c.size<1
 ·rw[if_pos h1];refine zx func204 ntmps204 results204 λS nx b=>?_
  refine DY ?_;intro v0
  repeat apply ze
  refine zi [] a ?_;refine zp (by simp[a]) ?_;refine zk (DY ?_);refine zv d ?_
  repeat apply ze
  refine zi [] h0 ?_;refine zp (by simp[h0]) ?_;refine zk (DY ?_)
  repeat apply ze
  refine zi [] h1 ?_;refine zo (by simp[h1]) ?_;refine DY ?_;exact DZ b
 ·rw[if_neg h1];have hc:=ZjU wz (jJ cap c.size) DO;generalize Qu wz (jJ cap c.size)=q at *;refine zx func204 ntmps204 results204 λS nx b=>?_
  refine DY ?_;intro v0
  repeat apply ze
  refine zi [] a ?_;refine zp (by simp[a]) ?_;refine zk (DY ?_);refine zv d ?_
  repeat apply ze
  refine zi [] h0 ?_;refine zp (by simp[h0]) ?_;refine zk (DY ?_)
  repeat apply ze
  refine zi [] h1 ?_;refine zp (by simp[h1]) ?_;refine zk (DY ?_);refine zv hc ?_;refine DY ?_;exact DZ b
open Go Go.Proofs
def wR(f:Nat->Int):Nat->Int
 | 0=>0
 | k+1=>w8 (wR f k) (f k)
theorem Zex(a b:Int):zT (w8 a b):=by unfold w8 zT;split<;>(try split)<;>omega
theorem ZjW(f:Nat->Int)(k:Nat):zT (wR f k):=by
 cases k with
 | zero=>show zT 0;exact⟨by decide,by decide⟩
 | succ k=>exact Zex _ _
theorem Zey{S:Store}(x:Inst)(g:FuncId)(ps:List PV)(f:Nat->Int)(hx:x.cust.length<=1048576)(hf:∀k,zT (f k))
  (h:∀k,k<x.cust.length->∀T:Store,(∀o,S o≠.dead->T o=S o)->Spec prog g (ps++[I k]) T (λq S'=>q=I (f k)/\S'=T)) :
  Spec prog 124 [.agg (zE x),.fn (.func g) ps []] S (λq S'=>q=I (wR f x.cust.length)/\S'=S):=by
 refine yt func124 ntmps124 results124 λnx c=>?_
 have d:∀obs o,S o≠.dead->ext S nx obs o=S o:=λobs o ho=>by
  apply zJ;rcases Bh o nx with q | q
  ·exact q
  ·exact absurd (c o q) ho
 refine DY ?_;intro v0;refine DY ?_
 repeat apply ze
 refine zg ?_;refine zn (zK (λs:Nat × Nat=>s.1<=x.cust.length) (λ(k,v)=>[(1,.fn (.func g) ps []),(2,.ptr nx v 0),(5,I (wR f k)),(9,I x.cust.length),(10,I k)]) (λ(k,v)=>[.cells v 25 (zE x)]) (λs=>x.cust.length-s.1) (0,v0) [] DP (by simp[wR]) DP ?_);rintro⟨k,v⟩ e;simp only at e ⊢;refine DY ?_;refine ze (zA rfl (λhc=>?_) (λhc=>?_))
 ·simp at hc;have b:=ZaX (wR f k) (f k) (ZjW f k) (hf k);refine zk (ze (zn (DY ?_)));refine zg ?_;refine λa=>((h k hc _ (d _)).mono ?_).v
  rintro _ _ ⟨rfl,rfl⟩;refine⟨_,_,rfl,zR a ?_⟩;refine λa=>((b _).mono ?_).v
  rintro _ _ ⟨rfl,rfl⟩;refine⟨_,_,rfl,zR a ?_⟩;refine zg ?_;exact zu (k+1,v) [] hc DT (by simp[zy k (by omega)];rfl) rfl DP
 ·simp at hc;obtain rfl:k=x.cust.length:=DO
  refine zC (DY ?_);exact DZ c
abbrev ZI(x:Inst)(pa pb ch:PV):List PV:=[I x.days,I x.veh,I x.cap,I x.len,L x.cust,L x.dist,pa,pb,ch]
theorem Zez{S:Store}{id ver:Nat}(x:Inst)(pa d e:PV)(k:Nat){c:Cust}(f:S id=.cells ver 182 (ZI x pa d e))(hx:x.cust.length<=1048576)(hc:x.cust[k]?=some c)(i:c.pats.length<=1048576):
  Spec prog 164 [.ptr id ver 0,I k] S (λq S'=>q=I (ux c x.days x.cap)/\S'=S):=by
 have a:=ZjV c x.days x.cap i;have g:k<x.cust.length:=(Ad.1 hc).1;obtain⟨t,tl,b1,b2,b3,j,l⟩:=el 8 rfl x.cust k g;obtain rfl:t=c:=by rw[hc]at b1;exact(Option.some.inj b1).symm
 refine yt func164 ntmps164 results164 λnx h=>?_
 have b:id<nx:=jh h f DP;have x1:∀obs,ext S nx obs id=.cells ver 182 (ZI x pa d e):=λobs=>(zJ b).trans f
 refine DY ?_;refine ze (zD (some [id]) (Row.pures [0,1,2,3,4,5,6,7,8,9,10,11,12,13,14,15,16,17,18,19] .done) mixed (zS x1 g j l) ?_);refine zO (a) trivial ?_;exact DZ h
theorem Zvb{S:Store}{id ver:Nat}(x:Inst)(pa d:PV)(b:List Int)(k:Nat){c:Cust}{a:Int}(g:S id=.cells ver 182 (ZI x pa d (L b)))(hx:x.cust.length<=1048576)(hc:x.cust[k]?=some c)(m:c.pats.length<=1048576)(i:b[k]?=some a):
  Spec prog 172 [.ptr id ver 0,I k] S (λq S'=>q=I (W (a*ux c x.days x.cap))/\S'=S):=by
 have e:=λS (h:S id=_)=>Zez (S:=S) (id:=id) (ver:=ver) x pa d (L b) k h hx hc m
 have j:k<b.length:=(Ad.1 i).1;obtain⟨t,tl,b1,b2,b3,n⟩:=zN rfl b k j;obtain rfl:t=a:=by rw[i]at b1;exact(Option.some.inj b1).symm
 refine yt func172 ntmps172 results172 λnx l=>?_
 have f:id<nx:=jh l g DP;have x1:∀obs,ext S nx obs id=.cells ver 182 (ZI x pa d (L b)):=λobs=>(zJ f).trans g
 refine DY ?_;refine ze (zD (some [id]) (Row.pures [0,1,2,3,4,5,6,7,8] (.alt 9 (Row.pures [10,11] .done) .stop)) mixed (zF x1 j n) ?_);refine(Spec.mono (e _ (x1 [])) ?_).v;rintro _ _ ⟨rfl,rfl⟩;refine⟨by simp[yR],jY trivial ?_⟩;exact DZ l
def Yh(c:Cust)(n cap:Int):Int:=if c.kind=1 then W (ux c n cap*c.demand) else Yg c n
theorem Zvc{S:Store}{id ver:Nat}(x:Inst)(pa b d:PV)(k:Nat){c:Cust}(j:S id=.cells ver 182 (ZI x pa b d))(hx:x.cust.length<=1048576)(hc:x.cust[k]?=some c)(m:c.pats.length<=1048576):
  Spec prog 166 [.ptr id ver 0,I k] S (λq S'=>q=I (Yh c x.days x.cap)/\S'=S):=by
 have e:=λS (h:S id=_)=>Zez (S:=S) (id:=id) (ver:=ver) x pa b d k h hx hc m
 have f:=ZjT c x.days;have l:k<x.cust.length:=(Ad.1 hc).1;obtain⟨t,tl,b1,b2,b3,n,o⟩:=el 8 rfl x.cust k l;obtain rfl:t=c:=by rw[hc]at b1;exact(Option.some.inj b1).symm
 refine yt func166 ntmps166 results166 λnx g=>?_
 have i:id<nx:=jh g j DP;have x1:∀obs,ext S nx obs id=.cells ver 182 (ZI x pa b d):=λobs=>(zJ i).trans j
 refine DY ?_;refine ze (zi [] (zS x1 l n o) ?_);intros
 repeat apply ze
 refine zg ?_
 by_cases a:t.kind=1
 ·repeat apply ze
  refine zo (by simp[a]) ?_;refine ze (zD (some [id,nx]) (Row.pures [0,1,3,4] (.alt 2 (Row.pures [5,6] .done) .stop)) mixed x1 ?_);refine(Spec.mono (e _ (x1 _)) ?_).v;rintro _ _ ⟨rfl,rfl⟩;refine⟨by simp[yR],jY trivial ?_⟩
  trace_state
  exact zj (zm g DQ (by simp[Yh,a,zr]))
 ·repeat apply ze
  refine zp (by simp[a]) ?_;refine zk (ze (zD (some [id,nx]) (Row.pures [0,1,2,3,4,5,6,7] .done) mixed x1 ?_));refine zO (f) trivial ?_;exact zj (zm g DQ (by simp[Yh,a,zr]))
open Go Go.Proofs
def Xf(price:List Int):Nat->Int
 | 0=>Qj price 0
 | k+1=>jJ (Xf price k) (Qj price k)
def ZbH(n:Nat)(cap:Int)(c:Cust)(price:List Int):Int :=
 if c.kind=2 then W (W (ux c n cap*Xf price n)+ZbF c n) else W (ux c n cap*Xf price n)
def Jo(n:Nat)(cap:Int)(c:Cust)(price:List Int):Int :=
 if (c.kind=1\/c.rule=1)/\(qV n cap c price).2=true then YL c n price (qV n cap c price).1 else ZbH n cap c price
theorem Zvd{S:Store}{o:PV}{price:List Int}(c:Cust)(n:Nat)(cap:Int)(p:RowOf S o price)(hp:∀z∈price,zT z)(a0:price.length<=1000)(hm:CustMade c n)(a1:c.pats.length<=1000)(hn:n<=60)(a2:CustFits c)(hv:VisOk (qV n cap c price).1):
  Spec prog 170 [.agg (yi c),I n,I cap,o] S (λq S'=>q=I (Jo n cap c price)/\S'=S):=by
 have a3:=ZjV c n cap DO;have a4:=Zu6 c n DO;have r:=λS (p:RowOf S o price)=>Zd7 (S:=S) c n cap p hp a0 hm a1 hn
 have t:=λS (p:RowOf S o price)=>Zd3 (S:=S) c n (qV n cap c price).1 p a2 hv
 have w:=λS (p:RowOf S o price) (d:Int)=>Zd0 (S:=S) d p
 obtain⟨i,b⟩:∃i,i=Jo n cap c price:=⟨_,rfl⟩;rw[<-b];unfold Jo at b;generalize qV n cap c price=az at *;obtain⟨av,f⟩:=az;simp only at b r t;have g:(c.kind=1\/c.rule=1)->f=true->i=YL c n price av:=λh1 h2=>by rw[b,if_pos ⟨h1,h2⟩]
 have m:¬((c.kind=1\/c.rule=1)/\f=true)->i=ZbH n cap c price:=λh=>by rw[b,if_neg h]
 clear b;unfold ZbH at m;generalize YL c n price av=cv at *;generalize ux c n cap=fo at *;generalize ZbF c n=ke at *;refine yt func170 ntmps170 results170 λnx x=>?_
 have e:=λobs=>p.ext x obs
 refine DY ?_;intro v0;refine ze (qy (nx:=nx) (σ:=Unit) (λ_=>¬((c.kind=1\/c.rule=1)/\f=true)) (λ_=>[(1,I n),(2,I cap),(3,o),(4,.ptr nx v0 0)]) (λ_=>S) (λ_=>[.cells v0 87 (yi c)]) ?_ ?_)
 ·by_cases u:c.kind=1
  ·refine ze (zi [(3,17)] (zq u zB) ?_);refine zo DP ?_;refine DY ?_;refine λa=>((r _ (e _)).mono ?_).v
   rintro _ _ ⟨rfl,rfl⟩;refine⟨_,_,rfl,zR a ?_⟩;refine DY ?_;cases f with
   | true =>
    refine zo DP ?_;refine DY ?_;refine λa=>((t _ (e _)).mono ?_).v
    rintro _ _ ⟨rfl,rfl⟩;refine⟨_,_,rfl,zR a ?_⟩;exact zj (zm x DQ (by rw[g (.inl u) rfl];rfl))
   | false =>
    refine zp DP ?_;exact zk (zZ () [] DP DP rfl DP)
  ·by_cases j:c.rule=1
   ·refine ze (zi [(3,17)] (zq u j) ?_);refine zo DP ?_;refine DY ?_;refine λa=>((r _ (e _)).mono ?_).v
    rintro _ _ ⟨rfl,rfl⟩;refine⟨_,_,rfl,zR a ?_⟩;refine DY ?_;cases f with
    | true =>
     refine zo DP ?_;refine DY ?_;refine λa=>((t _ (e _)).mono ?_).v
     rintro _ _ ⟨rfl,rfl⟩;refine⟨_,_,rfl,zR a ?_⟩;exact zj (zm x DQ (by rw[g (.inr j) rfl];rfl))
    | false =>
     refine zp DP ?_;exact zk (zZ () [] DP DP rfl DP)
   ·refine ze (zi [(3,17)] (zq u j) ?_);refine zp DP ?_;exact zk (zZ () [] (λh=>h.1.elim u j) DP rfl DP)
 ·rintro _ hl;have y:=m hl;refine DY ?_;refine λa=>((w _ (e _) 0).mono ?_).v
  rintro _ _ ⟨rfl,rfl⟩;refine⟨_,_,rfl,zR a ?_⟩
  repeat apply ze
  refine zg ?_;refine zn (zK (λs:Nat × Nat=>s.1<=n) (λ(k,v)=>[(1,I n),(2,I cap),(3,o),(4,.ptr nx v 0),(11,I (Xf price k)),(38,I n),(39,I k)]) (λ(k,v)=>[.cells v 87 (yi c)]) (λs=>n-s.1) (0,v0) [] DP (by simp[Xf]) DP ?_);rintro⟨k,v⟩ u;simp only at u ⊢;refine DY ?_;refine ze (zA rfl (λhc=>?_) (λhc=>?_))
  ·simp at hc;refine zk (ze (zn (DY ?_)));refine zg ?_;refine λa=>((w _ (e _) k).mono ?_).v
   rintro _ _ ⟨rfl,rfl⟩;refine⟨_,_,rfl,zR a ?_⟩;refine zg ?_;exact zu (k+1,v) [] hc DT (by simp[zy k (by omega),Xf]) rfl DP
  ·simp at hc;obtain rfl:k=n:=DO
   generalize Xf price k=lp at *;refine zC (DY ?_);refine zv a3 ?_
   repeat apply ze
   refine zg ?_
   by_cases l:c.kind=2
   ·rw[if_pos l]at y;refine zo (by simp[l]) ?_;refine zg ?_;refine zv a4 ?_;refine DY ?_;exact zj (zm x DQ (by rw[y];rfl))
   ·rw[if_neg l]at y;refine zp (by simp[l]) ?_;refine zk (DY ?_);exact zj (zm x DQ (by rw[y];rfl))
open Go Go.Proofs
theorem Zve(x:Inst)(a b:List Int)(k:Nat)(n:k<x.cust.length)(hn:x.cust.length<=1048576)(o:a.length=x.cust.length+1)(hb:b.length=x.cust.length+1):
  Pure prog 169 [.agg (zE x),.agg [L a,L b],I k] (I (W (a.getD (k+1) 0+b.getD (k+1) 0))):=by
 obtain⟨t,tl,b1,b2,b3,f⟩:=zN rfl a (k+1) DO;obtain⟨u,i,c1,c2,c3,g⟩:=zN rfl b (k+1) DO;have j:a.getD (k+1) 0=t:=by rw[Aa,b1];rfl
 have e2:b.getD (k+1) 0=u:=by rw[Aa,c1];rfl
 rw[j,e2];have c:k+1<a.length:=DO
 have d:k+1<b.length:=DO
 have h0:¬(k:Int)<0:=DO
 have h1:¬(x.cust.length:Int)<=k:=DO
 have h:IntKind.i64.wrap ((k:Int)+1)=((k+1:Nat):Int):=zy k DO;obtain⟨k1,e⟩:∃m,m=k+1:=⟨_,rfl⟩;rw[<-e]at f g c d h;refine zx func169 ntmps169 results169 λS nx l=>?_
 refine DY ?_;intro v0 v1
 repeat apply ze
 refine zi [(2,9)] (zq h0 h1) ?_;refine zp DP ?_;refine zk (ze (zD (some [nx,nx+1]) (Row.pures [0,1,2,3,4,5,6,7,8,9,10,11,12,13] .done) mixed (yr h f g c d) ?_));exact DZ l
def Zp(x:Inst)(c:Nat):Nat->Int
 | 0=>arc x 0 c
 | k+1=>if k≠c then jJ (Zp x c k) (arc x k c) else Zp x c k
def Qw(x:Inst)(c:Nat):Nat->Int
 | 0=>arc x c 0
 | k+1=>if k≠c then jJ (Qw x c k) (arc x c k) else Qw x c k
def wv(x:Inst):List Int:=(List.range x.cust.length).map λi=>Zp x (i+1) (x.cust.length+1)
def Xg(x:Inst):List Int:=(List.range x.cust.length).map λi=>Qw x (i+1) (x.cust.length+1)
theorem Zvf(x:Inst)(k:Nat)(h:k<x.cust.length):(wv x).take (k+1)=(wv x).take k++[Zp x (k+1) (x.cust.length+1)]:=by
 rw[AC];congr 1;unfold wv;rw[Aj,Bl h];rfl
theorem Zvg(x:Inst)(k:Nat)(h:k<x.cust.length):(Xg x).take (k+1)=(Xg x).take k++[Qw x (k+1) (x.cust.length+1)]:=by
 rw[AC];congr 1;unfold Xg;rw[Aj,Bl h];rfl
theorem Zvh(x:Inst)(hn:x.cust.length<=1048576):Pure prog 171 [.agg (zE x)] (.tup [L (wv x),L (Xg x)]):=by
 have b:=vy x;have w:=Zvf x;have y:=Zvg x;have f:(wv x).length=x.cust.length:=by simp[wv]
 have g:(Xg x).length=x.cust.length:=by simp[Xg]
 generalize wv x=A at *;generalize Xg x=B at *;refine zx func171 ntmps171 results171 λS nx z=>?_
 refine DY ?_;intro v0;refine DY ?_;refine q9 4 3 1 rfl λv1=>?_
 refine q9 5 3 1 rfl λv2=>?_
 repeat apply ze
 refine zg ?_;refine zn (zK (λs:Nat × Nat × Nat × Nat=>s.1<=x.cust.length) (λ(k,v,d,w2)=>[(1,.ptr nx v 0),(4,.sl (nx+1) d 1 0 k),(5,.sl (nx+2) w2 1 0 k),(13,I x.cust.length),(14,I k)]) (λ(k,v,d,w2)=>[.cells v 25 (zE x),.cells d 3 ((A.take k).flatMap Enc.enc),.cells w2 3 ((B.take k).flatMap Enc.enc)]) (λs=>x.cust.length-s.1) (0,v0,v1,v2) [] DP DP DP ?_);rintro⟨k,v,d,w2⟩ hk;simp only at hk ⊢;refine DY ?_;refine ze (zA rfl (λhc=>?_) (λhc=>?_))
 ·simp at hc;have u:IntKind.i64.wrap ((k:Int)+1)=((k+1:Nat):Int):=zy k DO;obtain⟨a,c⟩:∃m,m=k+1:=⟨_,rfl⟩;rw[<-c]at u;have h:=w k hc;have i:=y k hc;rw[<-c]at h i;refine zk (ze (zn (DY ?_)));refine ze (zi [] u ?_);refine ze (zD (some [nx]) (Row.pures [0,1,2,3,4,5,6,7] .done) mixed trivial ?_);refine zO (b 0 a) trivial ?_;refine zO (b a 0) trivial ?_;have wn:IntKind.i64.wrap ((x.cust.length:Int)+1)=(x.cust.length:Int)+1:=by rw[AA];omega
  repeat apply ze
  refine zi [] wn ?_;refine zn (zK (λs:Nat × Nat=>s.1<=x.cust.length+1) (λ(j,v)=>[(1,.ptr nx v 0),(4,.sl (nx+1) d 1 0 k),(5,.sl (nx+2) w2 1 0 k),(7,I a),(8,I (Zp x a j)),(9,I (Qw x a j)),(13,I x.cust.length),(14,I k),(28,I ((x.cust.length:Int)+1)),(29,I j)]) (λ(j,v)=>[.cells v 25 (zE x),.cells d 3 ((A.take k).flatMap Enc.enc),.cells w2 3 ((B.take k).flatMap Enc.enc)]) (λs=>x.cust.length+1-s.1) (0,v) [] DP (by simp[Zp,Qw]) DP ?_);rintro⟨j,v⟩ hj;simp only at hj ⊢;refine DY ?_
  by_cases a0:j<x.cust.length+1
  ·have a1:(j:Int)<(x.cust.length:Int)+1:=DO
   refine ze (zo DT ?_);refine zk (ze (zn (DY ?_)));refine DY ?_
   by_cases e:j=a
   ·have l:IntKind.i64.wrap ((a:Int)+1)=(a:Int)+1:=by rw[AA];omega
    refine zp (by simp[e]) ?_;refine zk (zg ?_);exact zu (j+1,v) [] DT DT (by simp[l,Zp,Qw,e]) rfl DP
   ·repeat apply ze
    refine zo DT ?_;refine DY ?_;refine zv (b j a) ?_;refine zg ?_;refine zv (b a j) ?_;refine zg ?_;exact zu (j+1,v) [] DT DT (by simp[zy j (by omega),Zp,Qw,e]) rfl DP
  ·obtain rfl:j=x.cust.length+1:=DO
   refine ze (zp DP ?_);refine zC ?_;have n:((A.take k).flatMap Enc.enc).length=k:=by rw[jL];simp;omega
   have o:((B.take k).flatMap Enc.enc).length=k:=by rw[jL];simp;omega
   have p:List.take k ((A.take k).flatMap Enc.enc)=(A.take k).flatMap Enc.enc:=Af (by rw[n];exact Ag _);have q:List.take k ((B.take k).flatMap Enc.enc)=(B.take k).flatMap Enc.enc:=Af (by rw[o];exact Ag _);have r:(A.take (k+1)).flatMap Enc.enc=(A.take k).flatMap Enc.enc++[I (Zp x a (x.cust.length+1))]:=by rw[<-c,h,Aq];rfl
   have t:(B.take (k+1)).flatMap Enc.enc=(B.take k).flatMap Enc.enc++[I (Qw x a (x.cust.length+1))]:=by rw[<-c,i,Aq];rfl
   refine zi [] (zq p q) ?_;refine⟨by omega,by omega,?_⟩;refine zg ?_;exact zu (k+1,v,d+1,w2+1) [] hc DT (by simp[zy k (by omega)]) rfl (by simp only[r,t,AH])
 ·simp at hc;obtain rfl:k=x.cust.length:=DO
  rw[show A.take x.cust.length=A from Af DO,show B.take x.cust.length=B from Af DO];refine zC (yh 1 rfl ?_);refine yh 2 rfl ?_;refine ze (zi [] (zq f g) ?_);exact zj (zm z DQ (by simp[zr,f,g]))
open Go Go.Proofs
theorem ZeA{P:Program}{n:Nat}{F:Nat->PV}{S:Store}{o:Oper}{s x:Operand}{t e m id ver et:Nat}{cs l:List PV}{K:PV->Store->Prop}(ho:o.op=.call { callee:=.builtin .copy,args:=#[s,x],argTypes:=#[t,t] })(ht:P.underlying t=some (.slice e))(f:(P.info? e).map (·.size)=some 1)
  (hs:ev F s=.sl id ver 1 0 m) (hx:ev F x=.lst l.length l) (hid:S id=.cells ver et cs) (hm:cs.length=m) (d5:0<m)
  (hK:K (I (min l.length m:Nat)) (S.set id (.cells ver et (l.take m++cs.drop (min l.length m))))):PO P jB n o F S K:=by
 intro G hG C w a N st next Q' h;have e1:=st.ev s;rw[(hG s (by grind[Op.operands,Call.operands])).trans hs]at e1;have e2:=st.ev x;rw[(hG x (by grind[Op.operands,Call.operands])).trans hx]at e2;have a6:∀c,o.op≠.defer c:=by intro c hc;rw[ho]at hc;cases hc
 generalize hv:a.eval s=v at e1;generalize hu:a.eval x=u at e2;cases e1 with
 | sl i1 i2 i3 =>
  rcases (i3 ver (by rw[hid];rfl)).2 rfl with ⟨_,q,_,_⟩ | ⟨b,k,ad,dcap,hl,rfl,hq0,_⟩
  ·omega
  obtain⟨rfl,d6⟩:=hq0 rfl;rcases st.sim.cells id ver et cs hid with ⟨hn,_⟩ | ⟨b',k',c,g1,g2,g3,g4,g5,g6⟩
  ·simp_all
  rw[hl]at g1;cases g1;have a7:∀(vs:List Value) (a':Addr) (cap:Nat),u=.slice (some a') l.length cap->vs.length=min l.length m->(∀j v,vs[j]?=some v->w.cell? (a'.add j)=some v)->(∀v∈vs,v.oneCell'=true)->(∀(i:Nat) (p:PV) (v:Value),(l.take m)[i]?=some p->vs[i]?=some v->Rel C S w p v)->o.wpIn (Fe jB) n P a w next Q':=by
   intro vs a' cap c7 y a1 a0 a8;have g:=run_copy_row P w t t o.type e b 0 m dcap a' l.length cap c et vs ht f g2 (by rw[y]) a1 DO a0;have d:=VD (P:=P) (a:=a) (w:=w) ho (by rw[hv,hu,c7];exact g);simp only[Dh,AQ,AS]at d;generalize a9:w.setRow b (vs++c.toList.drop vs.length).toArray=w' at d;have a2:w'.heap[b]?=some (.cells (vs++c.toList.drop vs.length).toArray et (0,0)):=by rw[<-a9];exact setRow_heap w b c _ et _ g2
   have c8:w.grownBy w' (some b)/\w.drawn<=w'.drawn:=by
    rw[<-a9];exact⟨⟨rfl,rfl,rfl,by simp,λj r d0=>setRow_other w b j _ (λe=>d0 (by rw[e]))⟩,Ag _⟩
   have a3:(vs++c.toList.drop vs.length).toArray.size=k:=DT
   have a4:(l.take m).length=vs.length:=by rw[Ax,y];omega
   obtain⟨t1,t2⟩:=st.sim.turn (l:=C.loc id) (ver':=ver) (cs':=l.take m++cs.drop (min l.length m)) hid (Ag _) (λ_=>rfl) (by rw[hl];exact c8)
    (.inr ⟨b,k,_,hl,.inr (by rw[hl];rfl),a2,a3,by rw[Am,Bo,a4];omega,λi z hi f=>by
      rw[AG]at f
      by_cases q1:i<vs.length
      ·rw[As q1]at f;exact a0 z (Ab f)
      ·rw[Ak DO,AP]at f;rw[Am,Bo,a4]at hi;have e9:vs.length+(i-vs.length)=i:=DO
       rw[e9]at f;exact g5 i z DO (by rw[<-Array.getElem?_toList];exact f),
     λi p z hp f=>by
      rw[AG]at f
      by_cases q1:i<vs.length
      ·rw[As q1]at f;rw[As DO]at hp;exact a8 i p z hp f
      ·rw[Ak DO,AP]at f;rw[Ak DO,AP,a4,<-y]at hp;have e9:vs.length+(i-vs.length)=i:=DO
       rw[e9]at f hp;exact g6 i p z hp (by rw[<-Array.getElem?_toList];exact f)⟩)
   have b7:goInt vs.length=Value.int .i64 ((min l.length m:Nat):Int):=by rw[y];rfl
   exact qg a6 d (h _ _ _ _ _ hK (by rw[b7];exact .sc _) t1 t2)
  generalize hk:l.length=kk at e2;cases e2 with
  | lst0 =>
   rename_i cap a';have g:(Builtin.copy_ #[t,t] o.type #[a.eval s,a.eval x]).run P w=.ok (goInt 0) w:=by
    rw[hv,hu];cases hq:P.info? e with
    | none=>simp[hq]at f
    | some i =>
     cases a'<;>simp[Builtin.copy_,run_underlying ht,Builtin.lenOf,Builtin.firstCells,sizeOf,typeInfo,hq,storeCells,loadCells,loadCellsFrom]
   have d:=VD (P:=P) (a:=a) (w:=w) ho g;have eS:S.set id (.cells ver et cs)=S:=by
    funext i
    by_cases hi:i=id
    ·subst hi;grind[q11]
    ·exact q10 _ _ _ _ hi
   simp only[Ah,Nat.zero_min,Ds,Dl,AQ,eS]at hK;exact qg a6 d (h _ _ _ _ _ hK (.sc _) st.sim (Step.refl _ _ _))
  | lst1 hn d7 hb hM d1 h1 h2 =>
   rename_i cap b' o' c' e' fz;subst hk;have b8:∀j,(⟨b',o',none⟩:Addr).add j=⟨b',o'+j,none⟩:=by intro j;unfold Addr.add;split<;>simp_all
   have a5:∀(j:Nat) (v:Value),((c'.toList.drop o').take (min l.length m))[j]?=some v->j<min l.length m/\c'[o'+j]?=some v:=λj v r=>by
    rw[BI]at r;split at r
    ·rename_i d2;rw[AP,Array.getElem?_toList]at r;exact⟨d2,r⟩
    ·cases r
   refine a7 ((c'.toList.drop o').take (min l.length m)) ⟨b',o',none⟩ cap rfl ?_ ?_ ?_ ?_
   ·rw[Ax,Bo];have e9:c'.toList.length=c'.size:=Array.length_toList
    by_cases c6:l=[]
    ·subst c6;simp
    ·have:=d1 c6;omega
   ·intro j v r;obtain⟨q1,q2⟩:=a5 j v r;rw[b8];simp[World.cell?,hb,q2]
   ·intro v d3;obtain⟨j,r⟩:=Ca d3;obtain⟨q1,q2⟩:=a5 j v r;exact h1 j v DO q2
   ·intro i p v hp d4;obtain⟨q1,q2⟩:=a5 i v d4;rw[AL DO]at hp;exact h2 i p v hp q2
open Go
def ww(id ver id2 v2:Nat)(p:PV):PV :=
 match p with
 | .sl o v sz off k=>if o=id/\v=ver then .sl id2 v2 sz off k else .sl o v sz off k
 | .ptr o v off=>if o=id/\v=ver then .ptr id2 v2 off else .ptr o v off
 | p=>p
def Qx(id ver id2 v2:Nat)(x:Ob):Ob :=
 match x with
 | .cells v e ds=>.cells v e (ds.map (ww id ver id2 v2))
 | x=>x
theorem Zvi{C C':Ctx}{S T:Store}{w:World}{id ver e b d e2:Nat}{cs f:List PV}(hid:S id=.cells ver e cs)(st:Step C S w C' T w)(hn:T b=.cells d e2 f)(hl:C'.loc b=C.loc id)(c:b<C'.next/\d<C'.clock){p:PV}{u:Value}
  (h:Rel C S w p u):Rel C' T w (ww id ver b d p) u:=by
 unfold ww;split
 ·split
  ·rename_i hc;obtain⟨rfl,rfl⟩:=hc;cases h with
   | sl h1 h2 h3 =>
    refine .sl h1 c λv0 a=>?_
    rw[hn]at a;cases a;refine⟨Ag _,λ_=>?_⟩;rw[hl];exact(h3 _ (by rw[hid];rfl)).2 rfl
  ·exact h.mono st
 ·split
  ·rename_i hc;obtain⟨rfl,rfl⟩:=hc;cases h with
   | ptr h1 h2 h3 =>
    refine .ptr h1 c λv0 a=>?_
    rw[hn]at a;cases a;refine⟨Ag _,λ_=>?_⟩;rw[hl];exact(h3 _ (by rw[hid];rfl)).2 rfl
  ·exact h.mono st
 ·exact h.mono st
theorem YU{P:Program}{r:Rd}{n nx N:Nat}{Q:Exit->(Nat->PV)->Store->Prop}{F:Nat->PV}{S:Store}{obs:List Ob}{c:Code}(j:Nat){ver e:Nat}{cs:List PV}(hj:obs[j]?=some (.cells ver e cs))
  (h:∀v2,PW P r n N c Q (λi=>ww (nx+j) ver (nx+obs.length) v2 (F i)) (ext S nx ((obs.map (Qx (nx+j) ver (nx+obs.length) v2)).set j .dead++[.cells v2 e (cs.map (ww (nx+j) ver (nx+obs.length) v2))]))):PW P r n N c Q F (ext S nx obs):=by
 intro C w a st;have a0:j<obs.length:=(Ad.1 hj).1;have h:=h C.clock;have hid:ext S nx obs (nx+j)=.cells ver e cs:=by rw[zY,Aa,hj];rfl
 have a3:ext S nx obs (nx+obs.length)=.dead:=Zt;have g:ext S nx ((obs.map (Qx (nx+j) ver (nx+obs.length) C.clock)).set j .dead++[.cells C.clock e (cs.map (ww (nx+j) ver (nx+obs.length) C.clock))]) (nx+obs.length)=.cells C.clock e (cs.map (ww (nx+j) ver (nx+obs.length) C.clock)):=by
  rw[zY,Aa,Ak DP];simp
 have a4:ext S nx ((obs.map (Qx (nx+j) ver (nx+obs.length) C.clock)).set j .dead++[.cells C.clock e (cs.map (ww (nx+j) ver (nx+obs.length) C.clock))]) (nx+j)=.dead:=by
  rw[zY,Aa,As (by simpa using a0),AW (by simpa using a0)];rfl
 have s:∀o,o≠nx+j->o≠nx+obs.length->ext S nx ((obs.map (Qx (nx+j) ver (nx+obs.length) C.clock)).set j .dead++[.cells C.clock e (cs.map (ww (nx+j) ver (nx+obs.length) C.clock))]) o=ext S nx obs o \/
   ext S nx ((obs.map (Qx (nx+j) ver (nx+obs.length) C.clock)).set j .dead++[.cells C.clock e (cs.map (ww (nx+j) ver (nx+obs.length) C.clock))]) o=Qx (nx+j) ver (nx+obs.length) C.clock (ext S nx obs o):=by
  intro o h1 h2
  by_cases ho:o<nx
  ·simp_all[zJ]
  ·right;simp only[ext];rw[if_neg ho,if_neg ho,Aa,Aa]
   by_cases f:o-nx<obs.length
   ·grind
   ·rw[Ao DT,Ao DO];rfl
 generalize a5:ext S nx ((obs.map (Qx (nx+j) ver (nx+obs.length) C.clock)).set j .dead++[.cells C.clock e (cs.map (ww (nx+j) ver (nx+obs.length) C.clock))])=T at *;generalize a6:ext S nx obs=S1 at *;generalize a7:nx+obs.length=id2 at *;generalize a8:nx+j=id at *;clear a5 a6 a7 a8 hj a0;have t:=st.sim;have a9:id≠id2:=by intro e2;rw[e2,a3]at hid;cases hid
 have d:∀o,o≠id2->T o≠.dead->S1 o≠.dead/\o≠id:=by
  intro o h2 hT
  by_cases h1:o=id
  ·simp_all
  ·refine⟨λhs=>?_,h1⟩;rcases s o h1 h2 with q | q
   ·simp_all
   ·rw[q,hs]at hT;exact hT rfl
 have a1:∀o v,o≠id2->(T o).ver=some v->(S1 o).ver=some v:=by
  intro o v h2 hv
  by_cases h1:o=id
  ·subst h1;rw[a4]at hv;cases hv
  ·rcases s o h1 h2 with q | q
   ·simp_all
   ·rw[q]at hv;cases hs:S1 o with
    | dead=>rw[hs]at hv;cases hv
    | cells v0 e0 ds=>rw[hs]at hv;exact hv
    | map v0 es=>rw[hs]at hv;exact hv
 obtain⟨C',y⟩:∃C':Ctx,C'={ loc:=λo=>if o=id2 then C.loc id else C.loc o,next:=max C.next (id2+1),clock:=C.clock+1 }:=⟨_,rfl⟩;have l:C'.loc id2=C.loc id:=by rw[y];simp
 have f:∀o,o≠id2->C'.loc o=C.loc o:=λo ho=>by simp_all
 have b7:C'.next=max C.next (id2+1):=by rw[y]
 have b8:C'.clock=C.clock+1:=by rw[y]
 clear y;have step:Step C S1 w C' T w:=by
  refine⟨rfl,⟨rfl,Ag _⟩,rfl,Ag _,by omega,by omega,λb c6 hM=>⟨rfl,?_⟩,λo v1 hv=>?_⟩
  ·rintro⟨o,k,ho,hl⟩
   by_cases h2:o=id2
   ·subst h2;rw[l]at hl;exact hM ⟨id,k,by rw[hid];simp,hl⟩
   ·rw[f o h2]at hl;exact hM ⟨o,k,(d o h2 ho).1,hl⟩
  ·by_cases h2:o=id2
   ·subst h2;rw[g]at hv;cases hv;exact .inl (.inr (Ag _))
   simp_all
 have mv:∀{p:PV} {u:Value},Rel C S1 w p u->Rel C' T w (ww id ver id2 C.clock p) u:=λhr=>Zvi hid step g l ⟨by omega,by omega⟩ hr
 have c7:∀{ds:List PV} {i:Nat} {p:PV},(ds.map (ww id ver id2 C.clock))[i]?=some p->∃q,ds[i]?=some q/\p=ww id ver id2 C.clock q:=by
  intro ds i p hp;rw[Aj,Ap]at hp;obtain⟨q,h1,h2⟩:=hp;exact⟨q,h1,h2.symm⟩
 have sim:Sim C' T w:=by
  refine⟨λo ho=>?_,λo v hv=>?_,λo o' b k k' h1 h2 h3 h4=>?_,λo v0 e0 ds ho=>?_,λo v0 es ho=>?_⟩
  ·by_cases h2:o=id2
   ·omega
   ·have:=t.lt o (d o h2 ho).1;omega
  ·by_cases h2:o=id2
   ·subst h2;rw[g]at hv;cases hv;omega
   ·have:=t.clk o v (a1 o v h2 hv);omega
  ·by_cases z:o=id2<;>by_cases q2:o'=id2
   ·omega
   ·subst z;rw[l]at h3;rw[f o' q2]at h4;obtain⟨d1,d2⟩:=d o' q2 h2;exact absurd (t.dist id o' b k k' (by rw[hid];simp) d1 h3 h4).symm d2
   ·subst q2;rw[l]at h4;rw[f o z]at h3;obtain⟨d1,d2⟩:=d o z h1;exact absurd (t.dist o id b k k' d1 (by rw[hid];simp) h3 h4) d2
   ·rw[f o z]at h3;rw[f o' q2]at h4;exact t.dist o o' b k k' (d o z h1).1 (d o' q2 h2).1 h3 h4
  ·by_cases h2:o=id2
   ·subst h2;rw[g]at ho;cases ho;rw[l];rcases t.cells id ver e cs hid with ⟨z,q2⟩ | ⟨b,k,cc,g1,g2,g3,g4,g5,g6⟩
    ·exact .inl ⟨z,by rw[q2];rfl⟩
    grind
   ·have h1:=(d o h2 (by rw[ho];simp)).2;rw[f o h2];rcases s o h1 h2 with q | q
    ·rw[q]at ho;rcases t.cells o v0 e0 ds ho with hn | ⟨b,k,cc,g1,g2,g3,g4,g5,g6⟩
     ·exact .inl hn
     ·exact .inr ⟨b,k,cc,g1,g2,g3,g4,g5,λi p v hp hv=>(g6 i p v hp hv).mono step⟩
    ·rw[q]at ho;cases hs:S1 o with
     | dead=>simp_all
     | map v1 es=>rw[hs]at ho;cases ho
     | cells v1 e1 a2 =>
      rw[hs]at ho;cases ho;rcases t.cells o _ _ a2 hs with ⟨z,q2⟩ | ⟨b,k,cc,g1,g2,g3,g4,g5,g6⟩
      ·exact .inl ⟨z,by rw[q2];rfl⟩
      grind
  ·have h2:o≠id2:=by rintro rfl;rw[g]at ho;cases ho
   have h1:=(d o h2 (by rw[ho];simp)).2;have hs:S1 o=.map v0 es:=by
    rcases s o h1 h2 with q | q
    ·simp_all
    ·cases hs:S1 o with
     | dead=>simp_all
     | map v1 c8=>rw[q,hs]at ho;exact ho
     | cells v1 e1 a2=>rw[q,hs]at ho;cases ho
   obtain⟨b,k,ms,cl,g1,g2,g3,g4⟩:=t.maps o v0 es hs;exact⟨b,k,ms,cl,by simp_all,g2,g3,λi x m he hm=>⟨(g4 i x m he hm).1,(g4 i x m he hm).2.mono step⟩⟩
 refine wpIn_mono (h C' w a ⟨sim,st.size,λi=>mv (st.fr i),r.keep step st.v⟩) ?_;rintro e a' w' ⟨F2,S2,C2,h1,h2,h3,h4⟩;exact⟨F2,S2,C2,h1,h2,h3,step.trans h4⟩
open Go Go.Proofs
def uR(f:Nat->Int)(p:Nat):Nat->Option Int
 | 0=>none
 | k+1=>if k=p then uR f p k else match uR f p k with
  | none=>some (f k)
  | some b=>some (if f k<b then f k else b)
def ZJ(f:Nat->Int)(p k:Nat):Int:=(uR f p k).getD 0
theorem ZjX(f:Nat->Int)(p:Nat):uR f p (p+1)=uR f p p:=if_pos rfl
theorem ZjY{f:Nat->Int}{p k:Nat}(h:k≠p)(hn:uR f p k=none):uR f p (k+1)=some (f k):=by
 show (if k=p then _ else _)=_
 rw[if_neg h,hn]
theorem ZjZ{f:Nat->Int}{p k:Nat}{b:Int}(h:k≠p)(hn:uR f p k=some b):uR f p (k+1)=some (if f k<b then f k else b):=by
 show (if k=p then _ else _)=_
 rw[if_neg h,hn]
theorem Zj0{S:Store}(n p:Nat)(hn:n<=2097152)(u:p<=2097152)(g:FuncId)(ps:List PV)(f:Nat->Int)
  (h:∀k,k<n->k≠p->∀T:Store,(∀o,S o≠.dead->T o=S o)->Spec prog g (ps++[I p,I k]) T (λq S'=>q=I (f k)/\S'=T)) :
  Spec prog 161 [I n,I p,.fn (.func g) ps []] S (λq S'=>q=I (ZJ f p n)/\S'=S):=by
 have l:=ZjX f p;have e:=@ZjY f p;have i:=@ZjZ f p;unfold ZJ;have h0:uR f p 0=none:=rfl;generalize uR f p=lo at *;refine yt func161 ntmps161 results161 λnx r=>?_
 have s:∀obs o,S o≠.dead->ext S nx obs o=S o:=λobs o ho=>by
  apply zJ;rcases Bh o nx with q | q
  ·exact q
  ·exact absurd (r o q) ho
 refine DY ?_;refine DY ?_
 repeat apply ze
 refine zg ?_;refine zn (zK (λk:Nat=>k<=n) (λk=>[(1,I p),(2,.fn (.func g) ps []),(7,I ((lo k).getD 0)),(8,B (lo k).isSome),(11,I n),(12,I k)]) (λ_=>[]) (λk=>n-k) 0 [] DP (by simp[h0]) DP ?_);rintro k w;refine DY ?_;refine ze (zA rfl (λhc=>?_) (λhc=>?_))
 ·simp at hc;refine zk (ze (zn (DY ?_)))
  repeat apply ze
  refine zg ?_
  by_cases a:k=p
  ·subst a;refine zo DP ?_;refine zC (zg ?_);exact zu (k+1) [] hc DO (by simp[zy k (by omega),l]) rfl DP
  ·have t:¬(k:Int)=p:=DO
   have e:=e a;have i:=@i k;refine zp DT ?_;refine zk (DY ?_);refine λj=>((h k hc a _ (s _)).mono ?_).v
   rintro _ _ ⟨rfl,rfl⟩;refine⟨_,_,rfl,zR j ?_⟩;cases hl:lo k with
   | none =>
    have m:=e hl;refine ze (zi [(2,24)] zB ?_);refine zo DP ?_;refine zg ?_;refine zg ?_;exact zu (k+1) [] hc DO (by simp[zy k (by omega),m]) rfl DP
   | some b =>
    have c:=i a hl;refine ze (zi [(2,24)] trivial ?_)
    by_cases d:f k<b
    ·rw[if_pos d]at c;refine zo (by simp[d]) ?_;refine zg ?_;refine zg ?_;exact zu (k+1) [] hc DO (by simp[zy k (by omega),c]) rfl DP
    ·rw[if_neg d]at c;refine zp (by simp[d]) ?_;refine zk (zg ?_);exact zu (k+1) [] hc DO (by simp[zy k (by omega),c]) rfl DP
 ·simp at hc;obtain rfl:k=n:=DO
  refine zC (DY ?_);exact DZ r
abbrev Jp(x:Inst)(s:PV):List PV:=[I x.days,I x.veh,I x.cap,I x.len,L x.cust,L x.dist,s]
theorem Zvj{S:Store}{id ver:Nat}(x:Inst)(s:PV)(b a:Nat)(e:S id=.cells ver 223 (Jp x s)):
  Spec prog 162 [.ptr id ver 0,I b,I a] S (λq S'=>q=I (arc x a b)/\S'=S):=by
 have c:=vy x a b;refine yt func162 ntmps162 results162 λnx f=>?_
 have d:id<nx:=jh f e DP;have x1:∀obs,ext S nx obs id=.cells ver 223 (Jp x s):=λobs=>(zJ d).trans e
 refine DY ?_;refine ze (zi [] x1 ?_);refine yW [] c x1 ?_;exact DZ f
theorem Zvk{S:Store}{id ver ib w:Nat}(x:Inst)(l:List Int)(a b:Nat){z:Int}(h:S id=.cells ver 223 (Jp x (.sl ib w 1 0 l.length)))(i:S ib=.cells w 3 (l.flatMap Enc.enc))(hb:l[b]?=some z):
  Spec prog 163 [.ptr id ver 0,I a,I b] S (λq S'=>q=I (W (arc x a b-z))/\S'=S):=by
 have c:=vy x a b;have e:b<l.length:=(Ad.1 hb).1;obtain⟨t,tl,b1,b2,b3,j⟩:=zN rfl l b e;obtain rfl:t=z:=by rw[hb]at b1;exact(Option.some.inj b1).symm
 refine yt func163 ntmps163 results163 λnx f=>?_
 have g:id<nx:=jh f h DP;have d:ib<nx:=jh f i DP;have x1:∀obs,ext S nx obs id=.cells ver 223 (Jp x (.sl ib w 1 0 l.length)):=λobs=>(zJ g).trans h
 have x2:∀obs,ext S nx obs ib=.cells w 3 (l.flatMap Enc.enc):=λobs=>(zJ d).trans i
 refine DY ?_;refine ze (zD (some [id,ib]) (Row.pures [0,1,2,3,4,5,6,7,8,9,10,11,12,13,14,15] .done) mixed (zS x1 x2 j e) ?_);refine zO (c) (zS x1 x2 j e) ?_;exact DZ f
theorem ZbI(x:Inst)(hx:x.cust.length<=1048576):Pure prog 119 [.agg (zE x)] (I ((x.cust.length+1:Nat):Int)):=by
 have a:IntKind.i64.wrap ((x.cust.length:Int)+1)=(x.cust.length:Int)+1:=by rw[AA];omega
 refine zx func119 ntmps119 results119 λS nx b=>?_
 refine DY ?_;intro v0;refine ze (zi [] a ?_);exact zj (zm b DQ (by simp[zr]))
open Go Go.Proofs
@[simp] theorem Zz6(a b c d:Nat)(v:Value):ww a b c d (.sc v)=.sc v:=rfl
@[simp] theorem Zz7(a b c d:Nat)(k:Nat)(l:List PV):ww a b c d (.lst k l)=.lst k l:=rfl
@[simp] theorem Zz8(a b c d:Nat)(l:List PV):ww a b c d (.agg l)=.agg l:=rfl
@[simp] theorem Zz9(a b c d o v sz off k:Nat):ww a b c d (.sl o v sz off k)=if o=a/\v=b then .sl c d sz off k else .sl o v sz off k:=rfl
@[simp] theorem ZAa(a b c d o v off:Nat):ww a b c d (.ptr o v off)=if o=a/\v=b then .ptr c d off else .ptr o v off:=rfl
@[simp] theorem ZAb(a b c d v e:Nat)(l:List PV):Qx a b c d (.cells v e l)=.cells v e (l.map (ww a b c d)):=rfl
@[simp] theorem ZAc(a b c d:Nat):Qx a b c d .dead=.dead:=rfl
theorem ZeB(n:Nat):qa n (.int .i64 0)=List.replicate n (I 0):=by apply A3<;>simp_all[qa,Nat.mod_one]
theorem Zj1{S:Store}{nx:Nat}{obs:List Ob}(a:yd nx S){j k:Nat}{x y:Ob}(b:obs[j]?=some x)(c:obs[k]?=some y)(o:Nat):((S.set (nx+j) x).set (nx+k) y) o=ext S nx obs o\/((S.set (nx+j) x).set (nx+k) y) o=.dead:=by grind[q11,zY,q10,JD]
theorem Zvl{S:Store}{nx:Nat}(f:yd nx S)(x:Inst)(hx:x.cust.length<=1048576):
  Spec prog 160 [.agg (zE x)] S (λq S'=>∃v w,q=.agg [.sl (nx+4) v 1 0 (x.cust.length+1),.sl (nx+5) w 1 0 (x.cust.length+1)] /\
   S'=(S.set (nx+4) (.cells v 3 (List.replicate (x.cust.length+1) (I 0)))).set (nx+5) (.cells w 3 (List.replicate (x.cust.length+1) (I 0)))):=by
 have d:=ZbI x hx;obtain⟨n,hn⟩:∃n,n=x.cust.length+1:=⟨_,rfl⟩;rw[<-hn]at d ⊢;have g:n<=1048577:=DO
 have c:=ZeB n;refine Zv f func160 ntmps160 results160 ?_;refine DY ?_;intro v0 v1;refine DY ?_;refine zv d ?_;refine ze (zD (some []) (Row.pures [0,2] (.alt 1 (.alt 3 (Row.pures [4] (.alt 5 (.done) .stop)) .stop) (.alt 3 (.alt 1 (Row.pures [4] (.alt 5 (.done) .stop)) .stop) .stop))) mixed trivial ?_);have e:(n:Int)<=140737488355328/\n*8<=281474976710656:=DO
 refine⟨⟨e,λv=>⟨e,λw=>?_⟩⟩,⟨e,λv=>⟨e,λw=>?_⟩⟩⟩
 ·refine YU 2 rfl λa=>?_
  refine YU 3 rfl λb=>?_
  exact zj ⟨_,_,by simp;rfl,⟨a,b,by simp[zr],rfl⟩,λo=>Zj1 (j:=4) (k:=5) f (by simp[c]) (by simp[c]) o⟩
 ·refine YU 3 rfl λa=>?_
  refine YU 2 rfl λb=>?_
  exact zj ⟨_,_,by simp;rfl,⟨a,b,by simp[zr],rfl⟩,λo=>Zj1 (j:=4) (k:=5) f (by simp[c]) (by simp[c]) o⟩
theorem Zvm{S:Store}{nx:Nat}{obs:List Ob}(x:Inst)(hx:x.cust.length<=1048576):
  Spec prog 160 [.agg (zE x)] (ext S nx obs) (λq S'=>∃v w,q=.agg [.sl (nx+(obs.length+4)) v 1 0 (x.cust.length+1),.sl (nx+(obs.length+5)) w 1 0 (x.cust.length+1)] /\
   S'=ext S nx (obs++[.dead,.dead,.dead,.dead,.cells v 3 (List.replicate (x.cust.length+1) (I 0)),.cells w 3 (List.replicate (x.cust.length+1) (I 0))])):=by
 refine(Zvl xB x hx).mono ?_;rintro _ _ ⟨v,w,rfl,rfl⟩;refine⟨v,w,by rw[Nat.add_assoc,Nat.add_assoc],?_⟩;rw[WO 4];have e2:=jr (S:=S) (nx:=nx) (obs:=obs++List.replicate 4 .dead++[.cells v 3 (List.replicate (x.cust.length+1) (I 0))]) (.cells w 3 (List.replicate (x.cust.length+1) (I 0)));rw[show nx+obs.length+5=nx+(obs++List.replicate 4 Ob.dead++[Ob.cells v 3 (List.replicate (x.cust.length+1) (I 0))]).length by simp;omega,e2];simp[List.replicate]
def wH(x:Inst)(l:List Int):List Int:=(List.range (x.cust.length+1)).map λb:Nat=>min (max (l.getD b 0) 0) (ZJ (λa=>arc x a b) b (x.cust.length+1))
def xZ(x:Inst)(i:List Int):List Int:=(List.range (x.cust.length+1)).map λa:Nat=>ZJ (λb=>W (arc x a b-i.getD b 0)) a (x.cust.length+1)
theorem ZbJ(x:Inst)(l:List Int):(wH x l).length=x.cust.length+1:=by simp[wH]
theorem ZeC(x:Inst)(i:List Int):(xZ x i).length=x.cust.length+1:=by simp[xZ]
theorem Zvn{f:Nat->Int}{p:Nat}{lo hi:Int}(h0:lo<=0)(h1:0<=hi)(h:∀k:Nat,lo<=f k/\f k<=hi)(n:Nat):lo<=ZJ f p n/\ZJ f p n<=hi:=by
 have:∀n,∀b,uR f p n=some b->lo<=b/\b<=hi:=by
  intro n
  induction n with
  | zero=>intro b hb;cases hb
  | succ n d =>
   intro b hb
   by_cases a:n=p
   ·subst a;rw[ZjX]at hb;exact d b hb
   ·cases ho:uR f p n with
    | none=>rw[ZjY a ho]at hb;cases hb;exact h n
    | some c =>
     rw[ZjZ a ho]at hb;cases hb;split
     ·exact h n
     ·exact d c ho
 unfold ZJ;cases e:uR f p n with
 | none=>exact⟨h0,h1⟩
 | some b=>exact this n b e
theorem ZeD(cs:List PV)(k:Nat)(v:PV)(h:k<cs.length):yk cs k [v]=cs.set k v:=by
 unfold yk;rw[AE,if_pos h];simp
theorem Zj2{l m:List Int}{k:Nat}{z:Int}(c:k<m.length)(hl:l.length=m.length)(h:m[k]?=some z):yk ((m.take k++l.drop k).flatMap Enc.enc) k [I z]=(m.take (k+1)++l.drop (k+1)).flatMap Enc.enc:=by
 have e:∀l:List Int,l.flatMap Enc.enc=l.map I:=λl=>by
  induction l with
  | nil=>rfl
  | cons a l b=>rw[Az,b];rfl
 rw[ZeD _ _ _ (by rw[e];simp;omega),e,e,<-List.map_set];congr 1;rw[AC,h,BE _ _ DT,Ax,Bf DO,Bz,List.append_assoc];congr 1;rw[AJ DO];rfl
theorem Zj3(x:Inst)(l:List Int)(hx:x.cust.length<=1048576)(hl:l.length=x.cust.length+1):Pure prog 120 [.agg (zE x),L l] (.agg [L (xZ x (wH x l)),L (wH x l)]):=by
 have a0:=ZbI x hx;have y:=λ(S:Store) nx obs=>Zvm (S:=S) (nx:=nx) (obs:=obs) x hx
 have g:=ZbJ x l;have a1:∀k,k<x.cust.length+1->(wH x l)[k]?=some (min (max (l.getD k 0) 0) (ZJ (λa=>arc x a k) k (x.cust.length+1))):=λk f=>by unfold wH;rw[Aj,Bl f];rfl
 generalize wH x l=i at *;have a2:=ZeC x i;have a3:∀k,k<x.cust.length+1->(xZ x i)[k]?=some (ZJ (λb=>W (arc x k b-i.getD b 0)) k (x.cust.length+1)):=λk f=>by unfold xZ;rw[Aj,Bl f];rfl
 generalize xZ x i=o at *;obtain⟨n,hn⟩:∃n,n=x.cust.length+1:=⟨_,rfl⟩;rw[<-hn]at a0 y hl g a1 a2 a3;have e0:n<=1048577:=DO
 have p:∀l:List Int,l.flatMap Enc.enc=l.map I:=λl=>by
  induction l with
  | nil=>rfl
  | cons a l ih=>rw[Az,ih];rfl
 have q:(l.flatMap Enc.enc:List PV).length=n:=by rw[p];simpa using hl
 have a8:L l=.lst (l.flatMap Enc.enc:List PV).length (l.flatMap Enc.enc):=by
  show PV.lst l.length _=_
  rw[q,hl]
 rw[a8];obtain⟨M,hM⟩:∃M:Nat->List Int,M=λk=>i.take k++l.drop k:=⟨_,rfl⟩
 have a9:M 0=l:=by rw[hM];simp
 have b7:M n=i:=by rw[hM];show i.take n++l.drop n=i;rw[Af DO,AX DO,AH]
 have b8:∀k,k<=n->(M k).length=n:=λk f=>by rw[hM];simp;omega
 have c6:∀k,k<n->(M k)[k]?=some (l.getD k 0):=λk f=>by
  rw[hM]
  show (i.take k++l.drop k)[k]?=_
  rw[Ak DT,Ax,Bf DO,Bz,AP,By,Aa,Ac DO];rfl
 have c7:∀k z,k<n->i[k]?=some z->yk ((M k).flatMap Enc.enc) k [I z]=(M (k+1)).flatMap Enc.enc:=λk z f y=>by rw[hM];exact Zj2 DO DO y
 clear hM;refine zx func120 ntmps120 results120 λS nx hd=>?_
 refine DY ?_;intro v0 v1;refine ze (zD (some [nx]) (Row.pures [0,2] (.alt 1 (Row.pures [3] (.alt 4 (.alt 5 (Row.pures [6] .done) .stop) .stop)) (.alt 4 (.alt 1 (Row.pures [3] (.alt 5 (Row.pures [6] .done) .stop)) .stop) .stop))) mixed trivial ?_);refine⟨?_,λv2=>?_⟩
 all_goals
  refine((y S nx _).mono ?_).v;rintro _ _ ⟨vo,vi,rfl,rfl⟩;simp only[Ae,Ah,Nat.reduceAdd,List.cons_append,AQ];refine⟨by simp[yR],jY trivial ?_⟩;refine zO (a0) trivial ?_;intros
 all_goals first
  | (refine YU 6 rfl λwo=>?_;refine YU 7 rfl λd=>?_;refine YU 8 rfl λwp=>?_)
  | (refine YU 7 rfl λwo=>?_;refine YU 8 rfl λd=>?_;refine YU 2 rfl λwp=>?_)
 all_goals
  refine DY ?_;refine λa4=>ZeA (id:=nx+10) (ver:=d) (e:=3) (l:=l.flatMap Enc.enc) rfl underlying26 DR (m:=n) rfl (by show PV.lst l.length _=_;rw[q,hl]) (by rw[zY];rfl) DP DO ?_
  rw[q,Nat.min_self,Af DO,AX DP,AH];refine⟨_,_,yl _ DO DP,zR a4 ?_⟩;refine DY ?_;intro v3
  repeat apply ze
  refine zg ?_;have c8:l.flatMap Enc.enc=(M 0).flatMap Enc.enc:=by rw[a9]
  refine zn (zK (λk:Nat=>k<=n) (λk=>[(4,.ptr (nx+1) v1 0),(5,.ptr (nx+11) wp 0),(6,I n),(7,.ptr (nx+12) v3 0),(23,I n),(24,I k)]) (λk=>[.cells v0 25 (zE x),.cells v1 68 [.sc (.slice none 0 0),.sc (.slice none 0 0)],.dead,.dead,.dead,.dead,.dead,.dead,.dead,.cells wo 3 (List.replicate n (I 0)),.cells d 3 ((M k).flatMap Enc.enc),.cells wp 68 [.sl (nx+9) wo 1 0 n,.sl (nx+10) d 1 0 n],.cells v3 223 (Jp x (.sl (nx+10) d 1 0 n))]) (λk=>n-k) 0 [] DP DP (by simp[c8]) ?_);rintro k f;refine DY ?_
  by_cases hc:k<n
  ·have d0:(k:Int)<n:=DO
   refine ze (zo DT ?_);refine zk (ze (zn ?_));have d1:=a1 k hc;have r:=b8 k f;have d2:=c6 k hc;have s:=λz h=>c7 k z hc h
   have u:=λ(T0:Store) (h0:T0 (nx+12)=.cells v3 223 (Jp x (.sl (nx+10) d 1 0 n)))=>Zj0 (S:=T0) n k DO DO 162 [.ptr (nx+12) v3 0] (λa=>arc x a k) (λa _ _ T hT=>Zvj x (.sl (nx+10) d 1 0 n) k a (by rw[hT _ (by rw[h0];simp),h0]))
   have d3:=X2 (l.getD k 0) 0 (ZJ (λa=>arc x a k) k n);generalize ZJ (λa=>arc x a k) k n=lv at *;generalize l.getD k 0=t at *;generalize min (max t 0) lv=z at *;have s:=s z d1;generalize a5:M (k+1)=mk1 at *;generalize M k=mk at *;obtain⟨t',tl,b1,b2,b3,f0⟩:=zN rfl mk k DO;obtain rfl:t'=t:=by rw[d2]at b1;exact(Option.some.inj b1).symm
   have c:k<mk.length:=DO
   refine DY ?_;refine zD (some [nx+11]) (Row.pures [0,1,2,3,4,5,6,8,9,10,11] (.alt 7 (.alt 12 (Row.pures [13,14] (.alt 15 (.done) .stop)) .stop) (.alt 12 (.alt 7 (Row.pures [13,14] (.alt 15 (.done) .stop)) .stop) .stop))) mixed (zS f0 c hc r) ?_;refine⟨?_,?_⟩
   all_goals
    refine((u _ (by rw[zY];rfl)).mono ?_).v;rintro _ _ ⟨rfl,rfl⟩;refine⟨by simp[yR],jY (zS f0 c hc r) ?_⟩;refine zO (d3) (zS f0 c hc r) ?_;refine⟨by omega,?_⟩;refine zg ?_;exact zu (k+1) [] DO DO (by simp[zy k (by omega)]) rfl (by simp[s,a5])
  ·obtain rfl:k=n:=DO
   refine ze (zp DP ?_);refine zC ?_;rw[b7];obtain⟨U,hU⟩:∃U:Nat->List Int,U=λj=>o.take j++(List.replicate k (0:Int)).drop j:=⟨_,rfl⟩
   have d4:List.replicate k (I 0)=(U 0).flatMap Enc.enc:=by rw[hU,p];simp
   have d5:U k=o:=by rw[hU];show o.take k++(List.replicate k (0:Int)).drop k=o;rw[Af DO,AX DP,AH]
   have d6:∀j,j<=k->(U j).length=k:=λj hj=>by rw[hU];simp;omega
   have d7:∀j z,j<k->o[j]?=some z->yk ((U j).flatMap Enc.enc) j [I z]=(U (j+1)).flatMap Enc.enc:=λj z hj y=>by rw[hU];exact Zj2 DO DT y
   clear hU
   repeat apply ze
   refine zg ?_;refine zn (zK (λj:Nat=>j<=k) (λj=>[(4,.ptr (nx+1) v1 0),(5,.ptr (nx+11) wp 0),(6,I k),(7,.ptr (nx+12) v3 0),(43,I k),(44,I j)]) (λj=>[.cells v0 25 (zE x),.cells v1 68 [.sc (.slice none 0 0),.sc (.slice none 0 0)],.dead,.dead,.dead,.dead,.dead,.dead,.dead,.cells wo 3 ((U j).flatMap Enc.enc),.cells d 3 (i.flatMap Enc.enc),.cells wp 68 [.sl (nx+9) wo 1 0 k,.sl (nx+10) d 1 0 k],.cells v3 223 (Jp x (.sl (nx+10) d 1 0 k))]) (λj=>k-j) 0 [] DP DP (by simp[d4]) ?_);rintro j hj;refine DY ?_
   by_cases hc:j<k
   ·have d0:(j:Int)<k:=DO
    refine ze (zo DT ?_);refine zk (ze (zn ?_));have d8:=a3 j hc;have a6:=d6 j hj;have w:=λz h=>d7 j z hc h
    have u:=λ(T0:Store) (h0:T0 (nx+12)=.cells v3 223 (Jp x (.sl (nx+10) d 1 0 k))) (h1:T0 (nx+10)=.cells d 3 (i.flatMap Enc.enc))=>Zj0 (S:=T0) k j DO DO 163 [.ptr (nx+12) v3 0] (λb=>W (arc x j b-i.getD b 0)) (λb hb _ T hT=>Zvk x i j b (by rw[hT _ (by rw[h0];simp),h0,g]) (by rw[hT _ (by rw[h1];simp),h1]) (by rw[Aa,Ac (by omega)];rfl))
    generalize ZJ (λb=>W (arc x j b-i.getD b 0)) j k=lv at *;have w:=w lv d8;generalize d9:U (j+1)=u1 at *;generalize U j=uj at *;have c:j<uj.length:=DO
    have a7:j<(uj.flatMap Enc.enc:List PV).length:=by rw[p];simpa using c
    refine DY ?_;refine zD (some [nx+11]) (Row.pures [0,1,2,3,4,5,6] (.alt 7 (Row.pures [8] (.alt 9 (.done) .stop)) .stop)) mixed (zS c a7 hc a6) ?_;refine((u _ (by rw[zY];rfl) (by rw[zY];rfl)).mono ?_).v;rintro _ _ ⟨rfl,rfl⟩;refine⟨by simp[yR],jY (zS c a7 hc a6) ?_⟩;refine⟨by omega,?_⟩;refine zg ?_;exact zu (j+1) [] DO DO (by simp[zy j (by omega)]) rfl (by simp[w,d9])
   ·obtain rfl:j=k:=DO
    refine ze (zp DP ?_);refine zC ?_;rw[d5];refine yh 9 rfl ?_;refine yh 10 rfl ?_;refine DY ?_;exact zj (zm hd DQ (by simp[zr,a2,g]))
theorem Zvo(n:Nat)(z:Int):L (List.replicate n z)=.lst n (List.replicate n (I z)):=by
 show PV.lst _ _=_
 rw[BZ];congr 1
 induction n with
 | zero=>rfl
 | succ n a=>rw[BC,Az,a];rfl
theorem Zvp(x:Inst)(hx:x.cust.length<=1048576):Pure prog 77 [.agg (zE x)] (.agg [L (xZ x (wH x (List.replicate (x.cust.length+1) 2147483648))),L (wH x (List.replicate (x.cust.length+1) 2147483648))]):=by
 have b:=ZbI x hx;have a:=Zj3 x (List.replicate (x.cust.length+1) 2147483648) hx DP;rw[Zvo]at a;generalize wH x (List.replicate (x.cust.length+1) 2147483648)=i at *;generalize xZ x i=o at *;obtain⟨n,hn⟩:∃n,n=x.cust.length+1:=⟨_,rfl⟩;rw[<-hn]at b a;have j:n<=1048577:=DO
 have d:=ZeB n;have e:(n:Int)<=140737488355328/\n*8<=281474976710656:=DO
 refine zx func77 ntmps77 results77 λS nx l=>?_
 refine DY ?_;intro v0 v1;refine DY ?_;refine zv b ?_;refine⟨e,λh=>?_⟩
 repeat apply ze
 refine zg ?_;have c:∀k,k<n->yk (List.replicate k (I 2147483648)++List.replicate (n-k) (I 0)) k [I 2147483648]=List.replicate (k+1) (I 2147483648)++List.replicate (n-(k+1)) (I 0):=λk m=>by
  rw[ZeD _ _ _ DT,BE _ _ DP,BZ,Bz,show n-k=(n-(k+1))+1 by omega,BC,A7,Da];simp
 refine zn (zK (λk:Nat=>k<=n) (λk=>[(1,.ptr nx v0 0),(2,.ptr (nx+1) v1 0),(3,.sl (nx+2) h 1 0 n),(9,I n),(10,I k)]) (λk=>[.cells v0 25 (zE x),.cells v1 68 [.sc (.slice none 0 0),.sc (.slice none 0 0)],.cells h 3 (List.replicate k (I 2147483648)++List.replicate (n-k) (I 0))]) (λk=>n-k) 0 [] DP DP (by simp[d]) ?_);rintro k m;refine DY ?_
 by_cases hc:k<n
 ·refine ze (zo DT ?_);refine zk (ze (zn ?_));have hs:=c k hc;have hl:(List.replicate k (I 2147483648)++List.replicate (n-k) (I 0)).length=n:=DT
  generalize f:List.replicate (k+1) (I 2147483648)++List.replicate (n-(k+1)) (I 0)=c1 at *;generalize List.replicate k (I 2147483648)++List.replicate (n-k) (I 0)=c0 at *;have g:k<c0.length:=DO
  refine DY ?_;refine zi [] (zq hc g) ?_;refine⟨by omega,?_⟩;refine zg ?_;exact zu (k+1) [] DO DO (by simp[zy k (by omega)]) rfl (by simp only[hs,f,AH])
 ·obtain rfl:k=n:=DO
  refine ze (zp DP ?_);refine zC ?_;rw[Bz,List.replicate_zero,AH];refine yh 2 rfl ?_;refine DY ?_;refine zv a ?_;exact DZ l
theorem Zvq(x:Inst)(a b:List Int)(c:Nat)(d:Int)(hx:x.cust.length<=1048576)(hb:b.length=x.cust.length+1)(q:c<x.cust.length+1):
  Pure prog 82 [.agg (zE x),.agg [L a,L b],I c,I d] (.agg [L (xZ x (wH x (b.set c (W (b.getD c 0-d))))),L (wH x (b.set c (W (b.getD c 0-d))))]):=by
 have h:=ZbI x hx;have f:=Zj3 x (b.set c (W (b.getD c 0-d))) hx (by simpa using hb);generalize wH x (b.set c (W (b.getD c 0-d)))=i at *;generalize xZ x i=o at *;obtain⟨t,tl,b1,b2,b3,w⟩:=zN rfl b c DO;have y:b.getD c 0=t:=by rw[Aa,b1];rfl
 rw[y]at f;have g:∀l:List Int,l.flatMap Enc.enc=l.map I:=λl=>by
  induction l with
  | nil=>rfl
  | cons a l z=>rw[Az,z];rfl
 have j:yk (b.flatMap Enc.enc) c [I (W (t-d))]=(b.set c (W (t-d))).flatMap Enc.enc:=by rw[ZeD _ _ _ (by rw[g];simp;omega),g,g,List.map_set]
 have r:(b.set c (W (t-d))).length=b.length:=BJ;have s:L (b.set c (W (t-d)))=.lst b.length ((b.set c (W (t-d))).flatMap Enc.enc):=by show PV.lst _ _=_;rw[r]
 rw[s]at f;obtain⟨n,hn⟩:∃n,n=x.cust.length+1:=⟨_,rfl⟩;rw[<-hn]at h q hb;have a0:n<=1048577:=DO
 have a1:=ZeB n;have u:(n:Int)<=140737488355328/\n*8<=281474976710656:=DO
 have k:(b.flatMap Enc.enc:List PV).length=n:=by rw[g];simpa using hb
 have c1:¬(c:Int)<0:=DO
 have v:c<b.length:=DO
 rw[hb]at f;refine zx func82 ntmps82 results82 λS nx hd=>?_
 refine DY ?_;intro v0 v1 v2;refine DY ?_;refine zv h ?_;refine⟨u,λv3=>?_⟩;refine DY ?_;refine λp=>ZeA (id:=nx+3) (ver:=v3) (e:=3) (l:=b.flatMap Enc.enc) rfl underlying26 DR (m:=n) rfl (by show PV.lst b.length _=_;rw[k,hb]) (by rw[zY];rfl) (by simp[qa]) DO ?_
 rw[k,Nat.min_self,Af DO,AX (by simp[qa]),AH];refine⟨_,_,yl _ DO DP,zR p ?_⟩
 repeat apply ze
 refine zi [(2,19)] (zq c1 q) ?_;refine zo DP ?_;refine zi [] (zF w v q) ?_;refine⟨by omega,?_⟩;rw[j];refine yh 3 rfl ?_;refine ze (zi [] hb ?_);refine yW [] f hb ?_;exact DZ hd
open Go Go.Proofs
theorem Qy(a:Int):zT (W a):=by
 show -9223372036854775808<=IntKind.i64.wrap a/\IntKind.i64.wrap a<=9223372036854775807
 rw[AA];omega
def Jq(x:Inst):Int:=wR (λk=>W ((wv x).getD k 0*ux (x.cust.getD k default) x.days x.cap)) x.cust.length
theorem Zvr(x:Inst)(hn:x.cust.length<=1048576)(h:∀c∈x.cust,c.pats.length<=1048576):Pure prog 127 [.agg (zE x)] (I (Jq x)):=by
 have e:=Zvh x hn;have i:(wv x).length=x.cust.length:=by simp[wv]
 obtain⟨f,hf⟩:∃f:Nat->Int,f=λk=>W ((wv x).getD k 0*ux (x.cust.getD k default) x.days x.cap):=⟨_,rfl⟩
 have g:Jq x=wR f x.cust.length:=by rw[hf];rfl
 have a:∀k,zT (f k):=λk=>by rw[hf];exact Qy _
 rw[g];refine zx func127 ntmps127 results127 λS nx j=>?_
 refine DY ?_;intro v0;refine DY ?_;intro v1;refine DY ?_;refine zv e ?_;have b:=Zey (S:=ext S nx [.cells v0 25 (zE x),.cells v1 182 (ZI x yD yD (L (wv x)))]) x 172 [.ptr (nx+1) v1 0] f hn a (λk l T m=>by
  have hc:x.cust[k]?=some (x.cust.getD k default):=by rw[Aa,Ac l];rfl
  have n:(wv x)[k]?=some ((wv x).getD k 0):=by rw[Aa,Ac DO];rfl
  have:=Zvb (S:=T) (id:=nx+1) (ver:=v1) x yD yD (wv x) k (by rw[m _ (by rw[zY];simp),zY];rfl) hn hc (h _ (Ab hc)) n;rw[hf];exact this)
 refine DY ?_;refine λd=>(b.mono ?_).v
 rintro _ _ ⟨rfl,rfl⟩;refine⟨_,_,rfl,zR d ?_⟩;exact DZ j
def Qz(x:Inst):Nat->Int
 | 0=>0
 | k+1=>jy (Qz x k) (ux (x.cust.getD k default) x.days x.cap)
def ZbK(x:Inst):Int:=wR (λk=>Yh (x.cust.getD k default) x.days x.cap) x.cust.length
def QA(x:Inst):Int:=if 0<x.cap then jy (Qz x x.cust.length) (Qu (ZbK x) x.cap) else Qz x x.cust.length
theorem Zvs(x:Inst)(hn:x.cust.length<=1048576)(l:∀c∈x.cust,c.pats.length<=1048576)(j:∀k,zT (Yh (x.cust.getD k default) x.days x.cap)):Pure prog 122 [.agg (zE x)] (I (QA x)):=by
 have d:∀k,k<x.cust.length->x.cust[k]?=some (x.cust.getD k default):=λk f=>by rw[Aa,Ac f];rfl
 refine zx func122 ntmps122 results122 λS nx m=>?_
 refine DY ?_;intro v0;refine DY ?_;intro v1;refine DY ?_
 repeat apply ze
 refine zg ?_;refine zn (zK (λs:Nat × Nat × Nat=>s.1<=x.cust.length) (λ(k,v,w)=>[(1,.ptr nx v 0),(3,.ptr (nx+1) w 0),(4,I (Qz x k)),(13,I x.cust.length),(14,I k)]) (λ(k,v,w)=>[.cells v 25 (zE x),.cells w 182 (ZI x yD yD yD)]) (λs=>x.cust.length-s.1) (0,v0,v1) [] DP (by simp[Qz]) DP ?_);rintro⟨k,v,w⟩ f;simp only at f ⊢;refine DY ?_;refine ze (zA rfl (λhc=>?_) (λhc=>?_))
 ·simp at hc;refine zk (ze (zn (DY ?_)));refine zg ?_;refine λg=>((Zez x yD yD yD k (by rw[zY];rfl) hn (d k hc) (l _ (Ab (d k hc)))).mono ?_).v
  rintro _ _ ⟨rfl,rfl⟩;refine⟨_,_,rfl,zR g ?_⟩;refine zg ?_;exact zu (k+1,v,w) [] hc DT (by simp[zy k (by omega),Qz]) rfl DP
 ·simp at hc;obtain rfl:k=x.cust.length:=DO
  refine zC ?_
  repeat apply ze
  refine zg ?_;have h:=λv w=>Zey (S:=ext S nx [.cells v 25 (zE x),.cells w 182 (ZI x yD yD yD)]) x 166 [.ptr (nx+1) w 0] (λk=>Yh (x.cust.getD k default) x.days x.cap) hn j (λk f T n =>
   Zvc (S:=T) (id:=nx+1) (ver:=w) x yD yD yD k (by rw[n _ (by rw[zY];simp),zY];rfl) hn (d k f) (l _ (Ab (d k f))))
  have i:=h v w;rw[show wR (λk=>Yh (x.cust.getD k default) x.days x.cap) x.cust.length=ZbK x from rfl]at i;have a:QA x=if 0<x.cap then jy (Qz x x.cust.length) (Qu (ZbK x) x.cap) else Qz x x.cust.length:=rfl
  generalize QA x=res at *;generalize Qz x x.cust.length=mo at *;generalize ZbK x=ne at *
  by_cases b:0<x.cap
  ·rw[if_pos b]at a;have e:=ZjU ne x.cap b;refine zo (by simp[b]) ?_;refine ze (zD (some [nx]) (Row.pures [0,1,2,4,5] (.alt 3 (Row.pures [6,7,8,9,10,11] .done) .stop)) mixed trivial ?_);refine(i.mono ?_).v;rintro _ _ ⟨rfl,rfl⟩;refine⟨by simp[yR],jY trivial ?_⟩;refine zO (e) trivial ?_;refine zg ?_;refine DY ?_;exact zj (zm m DQ (by rw[a];rfl))
  ·rw[if_neg b]at a;refine zp DT ?_;refine zk (DY ?_);exact zj (zm m DQ (by rw[a];rfl))
open Go Go.Proofs
theorem Zj4{α:Type}(l:List α)(a q i:Nat)(h:a+q<=l.length):(l.take a++(l.take q++l.drop (a+q)))[i]?=l[if i<a then i else if i<a+q then i-a else i]?:=by
 by_cases h1:i<a
 ·grind
 ·rw[if_neg h1,Ak DT,Ax,Bf DO]
  grind
theorem Zvt{P:Program}{n:Nat}{F:Nat->PV}{S:Store}{o:Oper}{s x:Operand}{t e m k0 off id ver et:Nat}{cs:List PV}{K:PV->Store->Prop}(ho:o.op=.call { callee:=.builtin .copy,args:=#[s,x],argTypes:=#[t,t] })(ht:P.underlying t=some (.slice e))(g:(P.info? e).map (·.size)=some 1)
  (hs:ev F s=.sl id ver 1 off m) (hx:ev F x=.sl id ver 1 0 k0) (hid:S id=.cells ver et cs) (hm:off+m=cs.length) (c6:0<m) (hk:k0<=cs.length) (c7:0<k0)
  (hK:K (I (min k0 m:Nat)) (S.set id (.cells ver et (cs.take off++(cs.take (min k0 m)++cs.drop (off+min k0 m)))))):PO P jB n o F S K:=by
 intro G hG C w a N st next Q' h;have e1:=st.ev s;rw[(hG s (by grind[Op.operands,Call.operands])).trans hs]at e1;have e2:=st.ev x;rw[(hG x (by grind[Op.operands,Call.operands])).trans hx]at e2;have a7:∀c,o.op≠.defer c:=by intro c hc;rw[ho]at hc;cases hc
 generalize hv:a.eval s=v at e1;generalize hu:a.eval x=u at e2;cases e1 with
 | sl i1 i2 i3 =>
  rcases (i3 ver (by rw[hid];rfl)).2 rfl with ⟨_,q,_,_⟩ | ⟨b,k,ad,dcap,hl,rfl,_,hq0⟩
  ·omega
  obtain rfl:=hq0 DO;cases e2 with
  | sl j1 j2 j3 =>
   rcases (j3 ver (by rw[hid];rfl)).2 rfl with ⟨_,q,_,_⟩ | ⟨b2,k2,ad2,scap,hl2,rfl,_,hq2⟩
   ·omega
   rw[hl]at hl2;cases hl2;obtain rfl:=hq2 DO;rcases st.sim.cells id ver et cs hid with ⟨hn,_⟩ | ⟨b',k',c,g1,g2,g3,g4,g5,g6⟩
   ·simp_all
   rw[hl]at g1;cases g1;obtain⟨vs,r⟩:∃vs,vs=c.toList.take (min k0 m):=⟨_,rfl⟩;have c8:c.toList.length=c.size:=Array.length_toList;have a2:vs.length=min k0 m:=by rw[r,Ax];omega
   have a3:∀(j:Nat) (v:Value),vs[j]?=some v->j<min k0 m/\c[j]?=some v:=λj v f=>by
    rw[r,BI]at f;split at f
    ·rename_i a8;rw[Array.getElem?_toList]at f;exact⟨a8,f⟩
    ·cases f
   have y:∀j v,vs[j]?=some v->w.cell? ((⟨b,0,none⟩:Addr).add j)=some v:=λj v f=>by
    obtain⟨q1,q2⟩:=a3 j v f;rw[Addr.add_plain];simp[World.cell?,g2,q2]
   have a4:∀v∈vs,v.oneCell'=true:=λv a9=>by
    obtain⟨j,f⟩:=Ca a9;obtain⟨q1,q2⟩:=a3 j v f;exact g5 j v DO q2
   have a0:=run_copy_row P w t t o.type e b off m dcap ⟨b,0,none⟩ k0 scap c et vs ht g g2 (by rw[a2]) y DO a4;have d:=VD (P:=P) (a:=a) (w:=w) ho (by rw[hv,hu];exact a0);rw[a2,List.append_assoc,r]at d;generalize a5:w.setRow b (c.toList.take off++(c.toList.take (min k0 m)++c.toList.drop (off+min k0 m))).toArray=w' at d;have a1:w'.heap[b]?=some (.cells (c.toList.take off++(c.toList.take (min k0 m)++c.toList.drop (off+min k0 m))).toArray et (0,0)):=by rw[<-a5];exact setRow_heap w b c _ et _ g2
   have b7:w.grownBy w' (some b)/\w.drawn<=w'.drawn:=by
    rw[<-a5];exact⟨⟨rfl,rfl,rfl,by simp,λj f b8=>setRow_other w b j _ (λe=>b8 (by rw[e]))⟩,Ag _⟩
   have hV:=λi=>Zj4 c.toList off (min k0 m) i DO
   have hP:=λi=>Zj4 cs off (min k0 m) i DO
   have d0:(c.toList.take off++(c.toList.take (min k0 m)++c.toList.drop (off+min k0 m))).length=c.size:=DT
   have d1:(cs.take off++(cs.take (min k0 m)++cs.drop (off+min k0 m))).length=cs.length:=DT
   generalize c.toList.take off++(c.toList.take (min k0 m)++c.toList.drop (off+min k0 m))=V at *;generalize cs.take off++(cs.take (min k0 m)++cs.drop (off+min k0 m))=cs' at *;have a6:∀i,i<cs.length->(if i<off then i else if i<off+min k0 m then i-off else i)<cs.length:=λi hi=>by split<;>(try split)<;>omega
   obtain⟨t1,t2⟩:=st.sim.turn (l:=C.loc id) (ver':=ver) (cs':=cs') hid (Ag _) (λ_=>rfl) (by rw[hl];exact b7)
    (.inr ⟨b,k,_,hl,.inr (by rw[hl];rfl),a1,by simp;omega,by omega,λi z hi g=>by
      rw[AG,hV i,Array.getElem?_toList]at g;exact g5 _ z (a6 i DO) g,
     λi p z hp g=>by
      rw[AG,hV i,Array.getElem?_toList]at g;rw[hP i]at hp;exact g6 _ p z hp g⟩)
   exact qg a7 d (h _ _ _ _ _ hK (.sc _) t1 t2)
open Go Go.Proofs
theorem Zvu(n:Nat)(hn:n<=1048576):Pure prog 206 [U 1,U n] (.tup [U 0,U n]):=by
 intro S;refine⟨Zl9,λC w us d a b=>?_⟩;obtain⟨e,f,rfl⟩:=Zjd a;have r0:=b 0 _ e rfl rfl;have r1:=b 1 _ f rfl rfl;cases r0;cases r1;have h1:1*n / 18446744073709551616=0:=DO
 have h2:1*n % 18446744073709551616=n:=DO
 have hm:=bits_Mul 1 n DO DO w;rw[h1,h2]at hm;refine hm.mono ?_;rintro _ _ ⟨rfl,rfl⟩;refine⟨_,_,S,C,rfl,⟨rfl,rfl⟩,.tup rfl λj c v h1 h2=>?_,d,.refl _ _ _⟩
 match j,h1,h2 with
 | 0,h1,h2=>cases h1;cases h2;exact .sc _
 | 1,h1,h2=>cases h1;cases h2;exact .sc _
theorem Zvv(p:Int)(m:Nat):(List.replicate m p).flatMap Enc.enc=List.replicate m (I p):=by
 induction m with
 | zero=>rfl
 | succ m a=>rw[BC,Az,a];rfl
theorem Zvw(p:Int)(n:Nat)(h1:1<=n)(hn:n<=1000):Pure prog 168 [L [p],I n] (L (List.replicate n p)):=by
 have c:=Zvu n DO;have c0:¬(n:Int)<0:=DO
 have o:IntKind.u64.wrap (n:Int)=n:=by simp only[IntKind.wrap,IntKind.bits,IntKind.signed];simp;omega
 have w2:IntKind.i64.wrap (n:Int)=n:=by rw[AA];omega
 have c1:¬(9223372036854775807:Int)<n:=DO
 refine zx func168 ntmps168 results168 λS nx r=>?_
 refine DY ?_
 repeat apply ze
 refine zi [] c0 ?_;refine zp DP ?_;refine zk ?_;have s:IntKind.u64.wrap 1=1:=DV
 refine ze (zi [] (zq o s) ?_);refine zv c ?_
 repeat apply ze
 refine zi [(2,23)] c1 ?_;refine zp DP ?_;refine zk (ze (zi [] w2 ?_));refine⟨by omega,λv0=>?_⟩;refine DY ?_;refine λd=>ZeA (id:=nx) (ver:=v0) (e:=3) (l:=[I p]) rfl underlying26 DR (m:=n) rfl rfl (by rw[uy];rfl) (by simp[qa]) h1 ?_
 have f:List.take n [I p]++List.drop (min [I p].length n) (qa n (.int .i64 0))=List.replicate 1 (I p)++List.replicate (n-1) (I 0):=by
  rw[Af DT];have:min [I p].length n=1:=DT
  have t:qa n (.int .i64 0)=List.replicate n (I 0):=by
   apply A3
   ·simp[qa]
   ·intro i q1 q2;simp[qa,Nat.mod_one]
  rw[this,t,List.drop_replicate];rfl
 have g:min [I p].length n=1:=DT
 rw[f,g];refine⟨_,_,yl _ (Ag _) DP,zR d ?_⟩;refine ze (zn (zK (λm:Nat=>1<=m/\m<=n) (λm=>[(7,.sl nx v0 1 0 n),(8,I m)]) (λm=>[.cells v0 3 (List.replicate m (I p)++List.replicate (n-m) (I 0))]) (λm=>n-m) 1 [] ⟨Ag _,h1⟩ DP DP ?_));rintro m ⟨u,h⟩
 repeat apply ze
 refine zg ?_
 by_cases hc:m<n
 ·repeat apply ze
  refine zo DT ?_;refine zk (zn ?_);have a:(List.replicate m (I p)++List.replicate (n-m) (I 0):List PV).length=n:=DT
  obtain⟨q,v⟩:∃q,q=min m (n-m):=⟨_,rfl⟩;have b:(List.replicate m (I p)++List.replicate (n-m) (I 0):List PV).take m++((List.replicate m (I p)++List.replicate (n-m) (I 0):List PV).take q++(List.replicate m (I p)++List.replicate (n-m) (I 0):List PV).drop (m+q))=List.replicate (m+q) (I p)++List.replicate (n-(m+q)) (I 0):=by
   have w:(List.replicate m (I p)++List.replicate (n-m) (I 0):List PV).take m=List.replicate m (I p):=DD DP;have e2:(List.replicate m (I p)++List.replicate (n-m) (I 0):List PV).take q=List.replicate q (I p):=by rw[BM DT,List.take_replicate,Bf DO]
   have x:(List.replicate m (I p)++List.replicate (n-m) (I 0):List PV).drop (m+q)=List.replicate (n-(m+q)) (I 0):=by rw[Cs,AX DP,AQ,BZ,List.drop_replicate];congr 1;omega
   rw[w,e2,x,<-List.append_assoc,List.replicate_append_replicate]
  have y:1<=q:=DO
  have j:m+q<=n:=DO
  have z:IntKind.i64.wrap ((m:Int)+q)=((m+q:Nat):Int):=by rw[AA];omega
  refine zD (some []) (Row.pures [0,1,2,3,4,5,6] (.alt 7 (Row.pures [8,9] .done) .stop)) mixed h ?_;refine⟨by rfl,(Zvt (id:=nx) (ver:=v0) (off:=m) (m:=n-m) (k0:=m) (e:=3) rfl underlying26 DR rfl rfl (by rw[uy];rfl) (by rw[a];omega) DO (by rw[a];omega) DO ?_)⟩;rw[<-v,b,yl _ (Ag _) DP];refine⟨by simp[yR],jY z ?_⟩;exact zu (m+q) [] ⟨by omega,j⟩ DO DP rfl DP
 ·obtain rfl:m=n:=DO
  refine zp DP ?_;refine zC (yh 0 rfl ?_);rw[Bz,List.replicate_zero,AH];have k:=Zvv p m;refine DY ?_;exact zj (zm r DQ (by simp[zr,k]))
open Go Go.Proofs
def YV(x:Inst)(n:Nat)(a b:List Int)(k:Nat):Int:=Jo n x.cap (x.cust.getD k default) (List.replicate n (W (a.getD (k+1) 0+b.getD (k+1) 0)))
structure BndOk (x:Inst) (n:Nat):Prop where
 days:x.days=n
 n1:1<=n
 n60:n<=60
 ncust:x.cust.length<=1048576
 pats:∀c∈x.cust,c.pats.length<=1000
 made:∀c∈x.cust,CustMade c n
 fits:∀c∈x.cust,CustFits c
 vis:∀c∈x.cust,∀price:List Int,price.length<=1000->(∀z∈price,zT z)->VisOk (qV n x.cap c price).1
theorem Zvx{S:Store}{id ver:Nat}(x:Inst)(n:Nat)(a b:List Int)(o:PV)(k:Nat)(hx:BndOk x n)(j:k<x.cust.length)(u:a.length=x.cust.length+1)(hb:b.length=x.cust.length+1)(r:S id=.cells ver 182 (ZI x (L a) (L b) o)):
  Spec prog 125 [.ptr id ver 0,I k] S (λq S'=>q=I (YV x n a b k)/\S'=S):=by
 have l:=Zve x a b k j hx.ncust u hb;unfold YV;have hc:x.cust[k]?=some (x.cust.getD k default):=by rw[Aa,Ac j];rfl
 have hm:=Ab hc;obtain⟨t,tl,b1,b2,b3,v,w⟩:=el 8 rfl x.cust k j;obtain rfl:t=x.cust.getD k default:=by rw[hc]at b1;exact(Option.some.inj b1).symm
 have g:=Qy (a.getD (k+1) 0+b.getD (k+1) 0);generalize W (a.getD (k+1) 0+b.getD (k+1) 0)=p at *;generalize x.cust.getD k default=c at *;have d:=Zvw p n hx.n1 (by have:=hx.n60;omega);have e:∀z∈List.replicate n p,zT z:=λz y=>by rw[(List.mem_replicate.1 y).2];exact g
 have h:(List.replicate n p).length<=1000:=by rw[BZ];have:=hx.n60;omega
 have i:Pure prog 170 [.agg (yi c),I n,I x.cap,L (List.replicate n p)] (I (Jo n x.cap c (List.replicate n p))):=λS=>Zvd c n x.cap (.inl rfl) e h (hx.made c hm) (hx.pats c hm) hx.n60 (hx.fits c hm) (hx.vis c hm _ h e)
 generalize Jo n x.cap c (List.replicate n p)=res at *;have f:=hx.days;generalize List.replicate n p=pl at *;rw[<-f]at d i;refine yt func125 ntmps125 results125 λnx s=>?_
 have m:id<nx:=jh s r DP;have x1:∀obs,ext S nx obs id=.cells ver 182 (ZI x (L a) (L b) o):=λobs=>(zJ m).trans r
 refine DY ?_;refine ze (zD (some [id]) (Row.pures [0,1,2,3,4,5,6,7,8,9,10,11,12,13,14,15,16,17] .done) mixed x1 ?_);refine zO (l) x1 ?_;refine zO (d) x1 ?_;refine ze (zD (some [id]) (Row.pures [0,1,2,3,4,5,6,7,8,9,10,11,12,13,14,15,16,17,18,19,20] .done) mixed (zS x1 j v w) ?_);refine zO (i) trivial ?_;exact DZ s
def QB(x:Inst)(a b:List Int):Int:=if (Qv (W (a.getD 0 0+b.getD 0 0)) (QA x)).2=true then (Qv (W (a.getD 0 0+b.getD 0 0)) (QA x)).1 else 9223372036854775807
def Jr(x:Inst)(n:Nat)(a b:List Int):Int:=w8 (wR (YV x n a b) x.cust.length) (QB x a b)
theorem Zj5(x:Inst)(n:Nat)(a b:List Int)(hx:BndOk x n)(m:∀k,zT (Yh (x.cust.getD k default) x.days x.cap))(o:∀k,zT (YV x n a b k))(l:zT (QB x a b))(ha:a.length=x.cust.length+1)(hb:b.length=x.cust.length+1):
  Pure prog 79 [.agg (zE x),.agg [L a,L b]] (I (Jr x n a b)):=by
 have p:=Zvs x hx.ncust (λc hc=>by have:=hx.pats c hc;omega) m;have h:=Zu7 (W (a.getD 0 0+b.getD 0 0)) (QA x);have g:=ZaX (wR (YV x n a b) x.cust.length) (QB x a b) (ZjW _ _) l;have hv:Jr x n a b=w8 (wR (YV x n a b) x.cust.length) (QB x a b):=rfl;rw[hv];have f:QB x a b=if (Qv (W (a.getD 0 0+b.getD 0 0)) (QA x)).2=true then (Qv (W (a.getD 0 0+b.getD 0 0)) (QA x)).1 else 9223372036854775807:=rfl
 obtain⟨t,tl,b1,b2,b3,r⟩:=zN rfl a 0 DO;obtain⟨u,a0,c1,c2,c3,s⟩:=zN rfl b 0 DO;have e1:a.getD 0 0=t:=by rw[Aa,b1];rfl
 have e2:b.getD 0 0=u:=by rw[Aa,c1];rfl
 rw[e1,e2]at h f;have i:0<a.length:=DO
 have j:0<b.length:=DO
 have e:∀(S:Store) (id ver:Nat),S id=.cells ver 182 (ZI x (L a) (L b) yD)->Spec prog 124 [.agg (zE x),.fn (.func 125) [.ptr id ver 0] []] S (λq S'=>q=I (wR (YV x n a b) x.cust.length)/\S'=S):=λS id ver y =>
  Zey (S:=S) x 125 [.ptr id ver 0] (YV x n a b) hx.ncust o (λk hk T hT=>Zvx (S:=T) (id:=id) (ver:=ver) x n a b yD k hx hk ha hb (by rw[hT _ (by rw[y];simp),y]))
 generalize wR (YV x n a b) x.cust.length=su at *;generalize QA x=le at *;generalize QB x a b=ca at *;generalize Qv (W (t+u)) le=mz at *;obtain⟨mv,w⟩:=mz;simp only at h f;refine zx func79 ntmps79 results79 λS nx z=>?_
 refine DY ?_;intro v0 v1;refine DY ?_;intro v2;refine ze (zD (some [nx,nx+1]) (Row.pures [0,1,2,3,4,5,6,7,8,9,10,11,12,13,14,15,16] .done) mixed (zS r s i j) ?_);refine zO (p) (zS r s i j) ?_;refine zO (h) (zS r s i j) ?_
 repeat apply ze
 refine zg ?_;cases w with
 | true =>
  obtain rfl:ca=mv:=by rw[f];exact if_pos rfl
  refine zp DP ?_;refine zk (DY ?_);refine λd=>((e _ (nx+2) v2 (by rw[zY];rfl)).mono ?_).v
  rintro _ _ ⟨rfl,rfl⟩;refine⟨_,_,rfl,zR d ?_⟩;refine λd=>((g _).mono ?_).v
  rintro _ _ ⟨rfl,rfl⟩;refine⟨_,_,rfl,zR d ?_⟩;exact DZ z
 | false =>
  obtain rfl:ca=9223372036854775807:=by rw[f];exact if_neg DP
  refine zo DP ?_;refine zg ?_;refine DY ?_;refine λd=>((e _ (nx+2) v2 (by rw[zY];rfl)).mono ?_).v
  rintro _ _ ⟨rfl,rfl⟩;refine⟨_,_,rfl,zR d ?_⟩;refine λd=>((g _).mono ?_).v
  rintro _ _ ⟨rfl,rfl⟩;refine⟨_,_,rfl,zR d ?_⟩;exact DZ z
def Ws(x:Inst)(n:Nat)(a b:List Int):Int:=jy (Jr x n a b) (Jq x)
theorem Zvy(x:Inst)(n:Nat)(a b:List Int)(hx:BndOk x n)(e:∀k,zT (Yh (x.cust.getD k default) x.days x.cap))(f:∀k,zT (YV x n a b k))(d:zT (QB x a b))(i:a.length=x.cust.length+1)(hb:b.length=x.cust.length+1):
  Pure prog 83 [.agg (zE x),.agg [L a,L b]] (I (Ws x n a b)):=by
 have g:=Zj5 x n a b hx e f d i hb;have h:=Zvr x hx.ncust (λc hc=>by have:=hx.pats c hc;omega);have j:Ws x n a b=jy (Jr x n a b) (Jq x):=rfl;generalize Ws x n a b=z at *;generalize Jr x n a b=va at *;generalize Jq x=ba at *;refine zx func83 ntmps83 results83 λS nx l=>?_
 refine DY ?_;intro v0 v1;refine ze (zD (some [nx,nx+1]) (Row.pures [0,1,2,3,4,5,6] .done) mixed trivial ?_);refine zO (g) trivial ?_;refine zO (h) trivial ?_;exact zj (zm l DQ (by rw[j];rfl))
open Go Go.Proofs Hp
theorem Zvz{n:Nat}{cap:Int}{c:Cust}{price:List Int}(h:(qV n cap c price).2=false):(qV n cap c price).1=[]:=by
 unfold qV at h ⊢;split at h
 ·rename_i a;rw[if_pos a];unfold Z4 at h ⊢;split at h
  ·rename_i h1;rw[if_pos h1]
  ·cases h
 ·rename_i a;rw[if_neg a];split at h
  ·rename_i b;rw[if_pos b];unfold Qm at h ⊢;split at h
   ·rename_i h1;rw[if_pos h1]
   ·cases h
  ·rename_i b;rw[if_neg b];unfold J5 at h ⊢;split at h
   ·cases h
   ·rename_i h1;rw[if_neg h1];split at h
    ·cases h
    ·rename_i h2;rw[if_neg h2]
theorem ZvA{c:Cust}{n:Nat}(hm:CustMade c n)(hn:n<=60)(cap:Int)(price:List Int):VisOk (qV n cap c price).1:=by
 cases h:(qV n cap c price).2 with
 | false=>rw[Zvz h];exact⟨by simp,by simp,by simp⟩
 | true =>
  have a:=Zbj hm hn cap price h;exact⟨by have:=a.len;omega,λs hs=>by have:=a.ok s hs;omega,λs hs=>by have:=a.ok s hs;unfold zT;omega⟩
theorem ZvB{x:Inst}{n:Nat}(h:InstQ x n):BndOk x n :=
 ⟨h.k.a.days,h.t.n1,h.k.a.n60,by have:=h.six;omega,h.k.a.pats,h.k.a.made,λc hc=>(h.k.a.made c hc).fits,λc hc price _ _=>ZvA (h.k.a.made c hc) h.k.a.n60 _ _⟩
theorem VF:zT 0:=⟨by decide,by decide⟩
theorem Zj6(c:Cust)(n cap:Int):zT (Yh c n cap):=by
 unfold Yh;split
 ·exact Qy _
 ·unfold Yg jy;split
  ·exact VF
  ·exact Qy _
theorem ZvC(price:List Int)(v:List Visit):zT (Jc price v):=by
 have:∀(v:List Visit) (s:Int),zT s->zT (v.foldl (λs w=>W (s+Qj price w.d)) s):=by
  intro v
  induction v with
  | nil=>intro s h;exact h
  | cons w v a=>intro s _;exact a _ (Qy _)
 exact this v 0 VF
theorem Zj7(n:Nat)(cap:Int)(c:Cust)(price:List Int):zT (Jo n cap c price):=by
 unfold Jo;split
 ·unfold YL;split
  ·exact ZvC _ _
  ·exact Qy _
 ·unfold ZbH;split<;>exact Qy _
theorem Zj8(x:Inst)(a b:List Int):zT (QB x a b):=by
 unfold QB;split
 ·unfold Qv;split
  ·exact VF
  ·split
   ·exact VF
   ·exact Qy _
 ·exact⟨by decide,by decide⟩
theorem ZvD{x:Inst}{n:Nat}(h:BndOk x n)(a b:List Int)(c:a.length=x.cust.length+1)(hb:b.length=x.cust.length+1):
  Pure prog 79 [.agg (zE x),.agg [L a,L b]] (I (Jr x n a b)) :=
 Zj5 x n a b h (λk=>Zj6 _ _ _) (λk=>Zj7 _ _ _ _) (Zj8 x a b) c hb
theorem ZvE{x:Inst}{n:Nat}(h:BndOk x n)(a b:List Int)(c:a.length=x.cust.length+1)(hb:b.length=x.cust.length+1):
  Pure prog 83 [.agg (zE x),.agg [L a,L b]] (I (Ws x n a b)) :=
 Zvy x n a b h (λk=>Zj6 _ _ _) (λk=>Zj7 _ _ _ _) (Zj8 x a b) c hb
open Go Go.Proofs
structure Clm where
 i:List Int
 m:Int
 s:Int
def ZK(x:Inst)(c:Clm):Nat:=xz c.s (x.cust.length+1)
def Wt(x:Inst)(c:Clm):Nat:=xz (yQ c.s) ((c.i.getD (ZK x c) 0).toNat+1)
def QC(x:Inst)(c:Clm):List Int:=wH x (c.i.set (ZK x c) (W (c.i.getD (ZK x c) 0-Wt x c)))
def QD(x:Inst)(n:Nat)(i:List Int):Int:=Jr x n (xZ x i) i
def VG(x:Inst)(n:Nat)(c:Clm):Clm:=if c.m<QD x n (QC x c) then ⟨QC x c,QD x n (QC x c),yQ (yQ c.s)⟩ else ⟨c.i,c.m,yQ (yQ c.s)⟩
def Wu(x:Inst):List Int:=wH x (List.replicate (x.cust.length+1) 2147483648)
def wI(x:Inst)(n:Nat)(s:Int):Nat->Clm
 | 0=>⟨Wu x,QD x n (Wu x),IntKind.u64.wrap s⟩
 | k+1=>VG x n (wI x n s k)
def Wv(x:Inst)(n:Nat)(s:Int)(k:Nat):Int:=Ws x n (xZ x (wI x n s k).i) (wI x n s k).i
def ZbL(x:Inst)(i:List Int):Prop:=i.length=x.cust.length+1/\∀z∈i,0<=z/\z<=2147483648
theorem Zj9{x:Inst}(d:qQ x)(l:List Int):ZbL x (wH x l):=by
 refine⟨ZbJ x l,λz c=>?_⟩;unfold wH at c;obtain⟨b,-,rfl⟩:=Al.1 c;have:=Zvn (f:=λa=>arc x a b) (p:=b) (lo:=0) (hi:=2147483648) DV DV (λk=>d k b) (x.cust.length+1);omega
theorem ZvF{x:Inst}(a:qQ x){n:Nat}{c:Clm}(h:ZbL x c.i):ZbL x (VG x n c).i:=by
 unfold VG;split
 ·exact Zj9 a _
 ·exact h
theorem ZeE{x:Inst}(a:qQ x)(n:Nat)(s:Int):∀k,ZbL x (wI x n s k).i
 | 0=>Zj9 a _
 | k+1=>ZvF a (ZeE a n s k)
theorem ZvG{x:Inst}{n:Nat}(hx:BndOk x n)(ha:qQ x)(s:Int)(b:Nat)(hb:b<=1000):
  ∃pa pb,Pure prog 34 [.agg (zE x),I s,I b] (.tup [.agg [pa,pb],I (Wv x n s b)]):=by
 refine⟨L (xZ x (wI x n s b).i),L (wI x n s b).i,?_⟩;have hn:=hx.ncust;have e0:wI x n s 0=⟨Wu x,QD x n (Wu x),IntKind.u64.wrap s⟩:=rfl;have j:∀i:List Int,i.length=x.cust.length+1->Pure prog 79 [.agg (zE x),.agg [L (xZ x i),L i]] (I (QD x n i)):=λi hi=>by unfold QD;exact ZvD hx (xZ x i) i (ZeC x i) hi
 have a3:Pure prog 77 [.agg (zE x)] (.agg [L (xZ x (wI x n s 0).i),L (wI x n s 0).i]):=by rw[e0];dsimp only;unfold Wu;exact Zvp x hn
 have a4:Pure prog 79 [.agg (zE x),.agg [L (xZ x (wI x n s 0).i),L (wI x n s 0).i]] (I (wI x n s 0).m):=by rw[e0];dsimp only;exact j _ (by unfold Wu;exact ZbJ x _)
 have o:Pure prog 83 [.agg (zE x),.agg [L (xZ x (wI x n s b).i),L (wI x n s b).i]] (I (Wv x n s b)):=by unfold Wv;exact ZvE hx _ _ (ZeC x _) (ZeE ha n s b).1
 have p:Pure prog 80 [I b,I 0,I 1000] (I b):=by
  have:=X2 b 0 1000
  rwa[show min (max (b:Int) 0) 1000=b by omega]at this
 have a5:(wI x n s 0).s=IntKind.u64.wrap s:=by rw[e0]
 clear e0;have q:∀k,wI x n s (k+1)=VG x n (wI x n s k):=λ_=>rfl
 have a6:=ZeE ha n s;have y:=λ(b:List Int) (pl:Nat) (d:Int) hb hp=>Zvq x (xZ x b) b pl d hn hb hp
 have a7:∀l,(wH x l).length=x.cust.length+1:=ZbJ x;generalize Wv x n s b=res at *;generalize wI x n s=C at *;generalize xZ x=O at *;refine zx func34 ntmps34 results34 λS nx hd=>?_
 refine DY ?_;intro v0 v1;refine DY ?_;refine zv a3 ?_;refine λe=>((ZjE s xB).mono ?_).v
 rintro _ _ ⟨v2,rfl,rfl⟩;refine⟨_,_,jr _,zR e ?_⟩;intro v3;rw[<-a5];refine DY ?_;refine zv a4 ?_
 repeat apply ze
 refine zg ?_;refine zv p ?_;refine zn (zK (λk:Nat=>k<=b) (λk=>[(3,.ptr nx v0 0),(6,.ptr (nx+1) v1 0),(8,.ptr (nx+3) v3 0),(9,.ptr (nx+2) v2 0),(10,I (C k).m),(23,I b),(24,I k)]) (λk=>[.cells v0 25 (zE x),.cells v1 68 [.sc (.slice none 0 0),.sc (.slice none 0 0)],.cells v2 179 (xK (C k).s),.cells v3 68 [L (O (C k).i),L (C k).i]]) (λk=>b-k) 0 [] DP DP DP ?_);rintro k hk;refine DY ?_;refine ze (zA rfl (λhc=>?_) (λhc=>?_))
 ·simp at hc;have a8:=q k;obtain⟨hl,a9⟩:=a6 k;generalize d1:C k=c at *;refine zk (ze (zn ?_));have b7:ZK x c<x.cust.length+1:=J9 _ DO;have z:=λ(S:Store) hS=>Vy c.s (x.cust.length+1) DO DO (S:=S) (id:=nx+2) (v:=v2) hS
  have b8:xz c.s (x.cust.length+1)=ZK x c:=rfl;rw[b8]at z;have w1:IntKind.i64.wrap ((x.cust.length:Int)+1)=((x.cust.length+1:Nat):Int):=by rw[AA];omega
  obtain⟨t,tl,b1,b2,b3,f0⟩:=zN rfl c.i (ZK x c) DO;have c6:c.i.getD (ZK x c) 0=t:=by rw[Aa,b1];rfl
  have d2:=a9 t (Ab b1);obtain⟨w,d3⟩:∃w:Nat,(w:Int)=t+1:=⟨(t+1).toNat,by omega⟩;have a0:=λ(S:Store) hS=>Vy (yQ c.s) w DO DO (S:=S) (id:=nx+2) (v:=v2) hS
  have c7:xz (yQ c.s) w=Wt x c:=by unfold Wt;rw[c6,show t.toNat+1=w by omega]
  rw[c7]at a0;have w2:IntKind.i64.wrap (t+1)=(w:Int):=by rw[AA];omega
  have a1:=y c.i (ZK x c) (Wt x c) hl b7;have c8:wH x (c.i.set (ZK x c) (W (c.i.getD (ZK x c) 0-Wt x c)))=QC x c:=rfl;rw[c8]at a1;have hv:=j (QC x c) (a7 _);have a:C (k+1)=if c.m<QD x n (QC x c) then ⟨QC x c,QD x n (QC x c),yQ (yQ c.s)⟩ else ⟨c.i,c.m,yQ (yQ c.s)⟩:=by rw[a8];unfold VG;rfl
  have a2:ZK x c<c.i.length:=DO
  generalize ZK x c=pl at *;generalize Wt x c=off at *;generalize QC x c=tr at *;generalize QD x n tr=va at *;generalize yQ c.s=s1 at *;generalize yQ s1=s2 at *;obtain⟨ci,cm,cs⟩:=c;simp only at *;refine ze (zi [] w1 ?_);refine λe=>((z _ (by rw[zY];rfl)).mono ?_).v
  rintro _ _ ⟨rfl,rfl⟩;refine⟨_,_,yl _ DO DP,zR e ?_⟩;obtain⟨lc,r⟩:∃lc,lc=L ci:=⟨_,rfl⟩;rw[<-r];have d0:Jt prog 26 lc (I pl)=some (.ip (I t :: tl)):=by rw[r];simp -implicitDefEqProofs [Jt,a2,f0]
  clear f0 a2;refine ze (xL [] DU DU λK Gc Gh hK g u X f hX=>?_);simp -implicitDefEqProofs [f,hX,d0,w2,-Jt]
  try clear f hX X
  refine g _ _ _ _ _ _ _ λe=>((a0 _ (by rw[zY];rfl)).mono ?_).v
  rintro _ _ ⟨rfl,rfl⟩;refine⟨_,_,yl _ DO DP,?_⟩;clear g u;clear Gc Gh;refine wK e (D:=[]) DU λGc Gh g u X f hX=>?_
  simp -implicitDefEqProofs [f,hX];clear f hX X;refine hK _ _ _ ?_;clear hK g u;clear K Gc Gh;subst r;refine DY ?_;refine zv a1 ?_;intro v4;refine DY ?_;refine zv hv ?_;refine DY ?_
  by_cases h:cm<va
  ·rw[if_pos h]at a;refine zo (by simp[h]) ?_;refine zg ?_;refine zg ?_;exact zu (k+1) [_] hc DO (by simp[zy k (by omega),a]) rfl (by simp[a];rfl)
  ·rw[if_neg h]at a;refine zp (by simp[h]) ?_;refine zk (zg ?_);exact zu (k+1) [_] hc DO (by simp[zy k (by omega),a]) rfl (by simp[a];rfl)
 ·simp at hc;obtain rfl:k=b:=DO
  refine zC (ze (zD (some [nx,nx+3]) (Row.pures [0,1,2,3] (.alt 4 (Row.pures [5] .done) .stop)) mixed trivial ?_));refine zO (o) trivial ?_;exact zj (zm hd DQ (by simp[zr]))
open Go Go.Proofs
theorem ZvH(n p k:Nat)(h:k<n):(qW n p).take (k+1)=(qW n p).take k++[UInt8.ofNat (48+yL p k)]:=by
 rw[AC];congr 1;unfold qW;rw[Aj,Bl h];rfl
theorem ZvI(p n:Nat)(h1:1<=n)(hn:n<=64)(r:p<2 ^ 64):Pure prog 54 [U p,I n] (T (bs (qW n p))):=by
 have a:=Zcs p r;have t:(qh p).length=64:=by simp[qh]
 have d:∀k,k<64->(qh p)[k]?=some ((yL p k:Nat):Int):=λk h=>by unfold qh;rw[Aj,Bl h];rfl
 have m:=Vr n p;have c:=ZvH n p;have f:∀k,yL p k<=1:=XC p;generalize qh p=B at *;generalize qW n p=P at *;have c1:¬(n:Int)<1:=DO
 have c2:¬(64:Int)<n:=DO
 refine zx func54 ntmps54 results54 λS nx w=>?_
 refine DY ?_
 repeat apply ze
 refine zi [(2,10)] (zq c1 c2) ?_;refine zp DP ?_;refine zk (DY ?_);refine ze (q9 5 5 1 rfl λv1=>?_);refine zg ?_;refine zv a ?_
 repeat apply ze
 refine zg ?_;refine zn (zK (λs:Nat × Nat=>s.1<=n) (λ(k,v)=>[(1,I n),(5,.sl nx v 1 0 k),(6,L B),(7,I k)]) (λ(k,v)=>[.cells v 5 ((P.map U8).take k)]) (λs=>n-s.1) (0,v1) [] DP DP DP ?_);rintro⟨k,v⟩ x;simp only at x ⊢
 repeat apply ze
 refine zg ?_;refine zA rfl (λhc=>?_) (λhc=>?_)
 ·simp at hc;obtain⟨z,tl,b1,b2,b3,y⟩:=zN rfl B k DO;obtain rfl:z=((yL p k:Nat):Int):=by have:=d k DO;rw[b1]at this;exact Option.some.inj this
  have hb:=f k;have g:k<B.length:=DO
  have hs:=c k hc;have hu:=YF (k:=yL p k) DO;generalize UInt8.ofNat (48+yL p k)=u at *;generalize yL p k=b at *;have w1:IntKind.i64.wrap (48+(b:Int))=(u.toNat:Int):=by rw[hu,AA];omega
  have w2:=ZdJ u.toNat DO;have hl:((P.map U8).take k).length=k:=DT
  have o:List.take k ((P.map U8).take k)=(P.map U8).take k:=Af (by rw[hl];exact Ag _);have q:(P.map U8).take (k+1)=(P.map U8).take k++[U8 u]:=by rw[<-List.map_take,hs,List.map_append,List.map_take];rfl
  generalize (P.map U8).take k=cs at *;refine zk (ze (zn (zi [] (yr y g w1 w2 o) ?_)));refine⟨by omega,?_⟩;refine zg ?_;exact zu (k+1,v+1) [] hc DO (by simp[zy k (by omega)]) rfl (by simp only[q,AH])
 ·simp at hc;obtain rfl:k=n:=DO
  rw[show List.take k (P.map U8)=P.map U8 from Af DT];refine zC (DY ?_);refine λj=>Zih (e:=5) (l:=P) (off:=0) (id:=nx) (ver:=v) rfl DP DP DP (by simp[m]) (by rw[uy];rfl) (λi u h=>by rw[AS,Aj,h];rfl) DO ?_
  refine⟨_,_,rfl,zR j ?_⟩;exact DZ w
open Go Go.Proofs
theorem y9(a b:List UInt8)(h:a.length+b.length<=1099511627776):∃s,s=a++b/\s.length=a.length+b.length/\yC .add (bs a) (bs b)=some (.string (bs s)):=⟨_,rfl,by simp,YG a b DO⟩
structure InstS (x:Inst) (n:Nat):Prop where
 t:InstT x n
 n7:n<=60
 cust:x.cust.length<=1000
 pats:∀c∈x.cust,c.pats.length<=1000
theorem Zka{x:Inst}{n:Nat}(h:InstQ x n):InstS x n:=⟨h.t,by have:=h.n7;omega,by have:=h.six;omega,h.k.a.pats⟩
theorem Xh{z:Int}(h:Z9 z):(zG z).length<=20:=ut (by obtain⟨a,b⟩:=h;unfold zT;omega)
theorem Zkb(n p:Nat)(h:n<=60):(qW n p).length<=60:=by simp_all[Vr]
theorem Zkc{x:Inst}{n:Nat}(h:InstS x n){c:Cust}(hc:c∈x.cust):(∀w∈qL n c,w.length<=60)/\(qL n c).length<=1006:=by
 have f:=h.pats c hc;unfold qL;rcases (h.t.cust c hc).kind with ⟨k,d,-⟩ | ⟨k,-,-,a,b,s,-,ho⟩
 ·rw[if_pos k];refine⟨λw e=>?_,by simp;omega⟩;simp only[Au,Al]at e;rcases e with rfl | rfl | ⟨p,-,rfl⟩
  ·decide
  ·have:=Xh d;omega
  ·exact Zkb n p h.n7
 grind[Xh]
theorem Zkd{x:Inst}{n K:Nat}(h:InstS x n)(k:8<=K)(h1:x.cust.length+1<=K)(h2:∀c∈x.cust,c.pats.length+2<=K):∀l∈xg x,(zQ l).length+1<=61*K+1:=by
 have hn:x.days.toNat=n:=by have:=h.t.days;omega
 have m:(zG x.days).length<=20:=ut (by have:=h.t.days;have:=h.n7;unfold zT;omega);have hv:=Xh h.t.nums.1;have hc:=Xh h.t.nums.2.1;have hl:=Xh h.t.nums.2.2;have g:=wu (n:=x.cust.length) (by have:=h.cust;omega);have key:∀l:Ln,(∀w∈l,w.length<=60)->l.length<=K->(zQ l).length+1<=61*K+1:=λl a b=>by have:=Wp a;omega
 intro l e;simp only[xg,Au,AB,Al]at e;rcases e with rfl | rfl | rfl | ⟨c,i,rfl⟩ | rfl | ⟨r,f,rfl⟩
 ·exact key _ DP DT
 ·refine key _ (λw d=>?_) DO;simp only[Au,A9,or_false]at d;rcases d with rfl | rfl | rfl | rfl | rfl | rfl | rfl | rfl
  all_goals first | omega | decide
 ·refine key _ (λw d=>?_) DT;simp only[Au,A9,or_false]at d;rcases d with rfl | rfl
  ·decide
  ·omega
 ·grind[Zkc,qL]
 ·exact key _ DP DT
 ·refine key _ (λw d=>?_) (by simp;have:=(h.t.row r f).1;omega);obtain⟨z,j,rfl⟩:=Al.1 d;have:=Xh ((h.t.row r f).2 z j);omega
theorem Zke{x:Inst}{n:Nat}(h:InstS x n):∀l∈xg x,(zQ l).length+1<=61367:=λl hl=>by
 have:=Zkd (K:=1002) h DO (by have:=h.cust;omega) (λc hc=>by have:=h.pats c hc;omega) l hl;omega
theorem ZvJ{x:Inst}{n:Nat}(h:InstS x n)(ls:List Ln)(hs:∀l∈ls,l∈xg x)(hl:ls.length<=3000):(z8 ls).length<=184101000:=by
 have:=VC (ls:=ls) λl hm=>Zke h l (hs l hm)
 omega
def YW(x:Inst):List Ln:=[[jG,[49]],[qE,zG x.days,qG,zG x.veh,qH,zG x.cap,qI,zG x.len],[qJ,zM x.cust.length]]
theorem ZeF(x:Inst):xg x=YW x++(x.cust.map (qL x.days.toNat)++[qK] :: x.dist.map (λr:List Int=>r.map zG)):=rfl
theorem ZvK{x:Inst}{n:Nat}(h:InstS x n):Pure prog 13 [.agg (zE x)] (T (bs (z8 (xg x)))):=by
 have g:=h.t.days;have a5:x.days.toNat=n:=DO
 have g6:=h.n7;have v5:=h.t.n1;obtain⟨⟨k0,v6⟩,⟨k1,v7⟩,⟨k2,v8⟩⟩:=h.t.nums;obtain⟨ve,a6⟩:=Ay k0;obtain⟨ca,a7⟩:=Ay k1;obtain⟨le,a8⟩:=Ay k2;have v9:=h.cust;have w5:=h.t.rows;have g7:Pure prog 52 [.lst 5 [I n,I ve,I ca,I le,I x.cust.length]] (.lst 5 [T (bs (zM n)),T (bs (zM ve)),T (bs (zM ca)),T (bs (zM le)),T (bs (zM x.cust.length))]) :=
  ZdK [n,ve,ca,le,x.cust.length] DP (by intro m hm;simp only[Au,A9,or_false]at hm;rcases hm with rfl | rfl | rfl | rfl | rfl<;>omega)
 have hb:=ZvJ h;have k3:=Zke h;have a9:z8 (YW x)=[116,114,97,110,116,101,114,32,49,10,100,97,121,115,32]++zM n++[32,118,101,104,105,99,108,101,115,32]++zM ve++[32,99,97,112,97,99,105,116,121,32]++zM ca++[32,108,101,110,103,116,104,32]++zM le++[10,99,117,115,116,111,109,101,114,115,32]++zM x.cust.length++[10]:=by
  simp[YW,z8,zQ,zG,g,a6,a7,a8]
 obtain⟨P,hP⟩:∃P:Nat->List UInt8,P=λk=>z8 (YW x++(x.cust.take k).map (qL n)):=⟨_,rfl⟩
 have k4:P 0=z8 (YW x):=by rw[hP];simp
 have k5:∀k c,x.cust[k]?=some c->P (k+1)=P k++(zQ (qL n c)++[10]):=λk c hc=>by
  rw[hP]
  show z8 (YW x++(x.cust.take (k+1)).map (qL n))=_
  rw[AC,hc,List.map_append,<-List.append_assoc];exact Zie _ _
 have g8:∀k,(P k).length<=184101000:=λk=>by
  rw[hP];refine hb _ (λl hl=>?_) (by simp[YW];omega);rw[ZeF,a5,AB,AB];rcases AB.1 hl with hl | hl
  ·exact .inl hl
  ·obtain⟨c,hc,rfl⟩:=Al.1 hl;exact .inr (.inl (List.mem_map_of_mem (BA hc)))
 obtain⟨D,hD⟩:∃D:Nat->List UInt8,D=λk=>z8 (YW x++(x.cust.map (qL n)++[qK] :: (x.dist.take k).map (λr:List Int=>r.map zG))):=⟨_,rfl⟩
 have k6:D 0=P x.cust.length++[100,105,115,116,97,110,99,101,115,10]:=by
  rw[hD,hP];simp[z8,zQ]
 have k7:∀k r,x.dist[k]?=some r->D (k+1)=D k++(zQ (r.map zG)++[10]):=λk r hr=>by
  rw[hD]
  show z8 (YW x++(x.cust.map (qL n)++[qK] :: (x.dist.take (k+1)).map (λr:List Int=>r.map zG)))=_
  rw[AC,hr,List.map_append,<-List.cons_append,<-List.append_assoc,<-List.append_assoc];exact Zie _ _
 have g9:D x.dist.length=z8 (xg x):=by rw[hD,ZeF,a5];simp
 have k8:∀k,(D k).length<=184101000:=λk=>by
  rw[hD];refine hb _ (λl hl=>?_) (by simp[YW];omega);rw[ZeF,a5,AB,AB];rcases AB.1 hl with hl | hl
  ·exact .inl hl
  ·rcases AB.1 hl with hl | hl
   ·exact .inr (.inl hl)
   ·rcases Au.1 hl with rfl | hl
    ·exact .inr (.inr DP)
    ·obtain⟨r,hr,rfl⟩:=Al.1 hl;exact .inr (.inr (Cy _ (List.mem_map_of_mem (BA hr))))
 rw[<-g9];clear hb hP hD g9;have q0:=wu (n:=n) DO;have q1:=wu (n:=ve) DO;have q2:=wu (n:=ca) DO;have q3:=wu (n:=le) DO;have q4:=wu (n:=x.cust.length) DO;generalize zM n=w0 at *;generalize zM ve=w1 at *;generalize zM ca=w2 at *;generalize zM le=w3 at *;generalize w6:zM x.cust.length=w4 at *;obtain⟨s1,k9,l0,l1⟩:=y9 [116,114,97,110,116,101,114,32,49,10,100,97,121,115,32] w0 (by (try simp only[Ae,Ah]);omega);have w7:s1.length<=35:=by rw[l0];(try simp only[Ae,Ah]);omega
 obtain⟨s2,l2,l3,l4⟩:=y9 s1 [32,118,101,104,105,99,108,101,115,32] (by (try simp only[Ae,Ah]);omega);have x0:s2.length<=45:=by rw[l3];(try simp only[Ae,Ah]);omega
 obtain⟨s3,l5,l6,l7⟩:=y9 s2 w1 (by (try simp only[Ae,Ah]);omega);have x1:s3.length<=65:=by rw[l6];(try simp only[Ae,Ah]);omega
 obtain⟨s4,l8,l9,m0⟩:=y9 s3 [32,99,97,112,97,99,105,116,121,32] (by (try simp only[Ae,Ah]);omega);have x2:s4.length<=75:=by rw[l9];(try simp only[Ae,Ah]);omega
 obtain⟨s5,m3,m4,m5⟩:=y9 s4 w2 (by (try simp only[Ae,Ah]);omega);have x3:s5.length<=95:=by rw[m4];(try simp only[Ae,Ah]);omega
 obtain⟨s6,m6,m7,m8⟩:=y9 s5 [32,108,101,110,103,116,104,32] (by (try simp only[Ae,Ah]);omega);have x4:s6.length<=103:=by rw[m7];(try simp only[Ae,Ah]);omega
 obtain⟨s7,m9,n0,n2⟩:=y9 s6 w3 (by (try simp only[Ae,Ah]);omega);have x5:s7.length<=123:=by rw[n0];(try simp only[Ae,Ah]);omega
 obtain⟨s8,n3,n4,n5⟩:=y9 s7 [10,99,117,115,116,111,109,101,114,115,32] (by (try simp only[Ae,Ah]);omega);have x6:s8.length<=134:=by rw[n4];(try simp only[Ae,Ah]);omega
 obtain⟨s9,n6,n8,n9⟩:=y9 s8 w4 (by (try simp only[Ae,Ah]);omega);have y0:s9.length<=154:=by rw[n8];(try simp only[Ae,Ah]);omega
 obtain⟨h0,h4,h5,h6⟩:=y9 s9 [10] (by (try simp only[Ae,Ah]);omega);have v4:h0.length<=155:=by rw[h5];(try simp only[Ae,Ah]);omega
 have o0:P 0=h0:=by rw[k4,a9,h4,n6,n3,m9,m6,m3,l8,l5,l2,k9]
 refine zx func13 ntmps13 results13 λS nx hd=>?_
 refine DY ?_;intro v0;refine ze (zi [] (zS g a6 a7 a8) ?_);refine yW [] g7 (zS g a6 a7 a8) ?_;refine ze (zD none (Row.pures [0,1,2,3,4,5,6,7,8,9,10,11,12,13,14,15,16,17,18,19,20,21,22,23,24,25] .done) mixed (zW l1 l4 l7 m0 m5 (yr m8 n2 n5 n9 h6)) ?_)
 repeat apply ze
 refine zg ?_;rw[<-o0];refine zn (zK (λk:Nat=>k<=x.cust.length) (λk=>[(1,.ptr nx v0 0),(4,T (bs (P k))),(5,I k)]) (λ_=>[.cells v0 25 (zE x)]) (λk=>x.cust.length-k) 0 [] DP DP DP ?_);rintro k hk
 repeat apply ze
 refine zg ?_;refine zA rfl (λhc=>?_) (λhc=>?_)
 ·simp at hc;obtain⟨c,tl,a1,a2,a3,f0,f1⟩:=el 8 rfl x.cust k hc;have a:=k5 k c a1;have b7:=Ab a1;have h7:=(h.t.cust c b7).kind;have o1:=h.pats c b7;have h8:=Zkc h b7;have y3:=g8 k;generalize P k=ss at *;refine zk (ze (zn ?_));obtain⟨kd,dm,ps,ra,si,st,ru,ho⟩:=c;simp only at h7 o1;refine ze (zi [] (zF f0 f1 hc) ?_);intro v2
  repeat apply ze
  refine zg ?_;rcases h7 with ⟨o2,h9,o3,-⟩ | ⟨o4,-,-,b8,c6,c7,y4,c8⟩
  ·subst o2;obtain⟨dn,rfl⟩:=Ay h9.1;have y5:=h9.2;have o5:=Q9 dn DO;have y6:=wu (n:=dn) DO;have d0:qL n ⟨1,dn,ps,ra,si,st,ru,ho⟩=qA :: zM dn :: ps.map (qW n):=by simp[qL,zG]
   rw[d0]at a h8;obtain⟨V,hV⟩:∃V:Nat->List UInt8,V=λj=>ss++zQ (qA :: zM dn :: (ps.take j).map (qW n)):=⟨_,rfl⟩
   have o6:V 0=ss++[118,105,115,105,116,32]++zM dn:=by rw[hV];simp[zQ]
   have o7:∀j p,ps[j]?=some p->V (j+1)=V j++[32]++qW n p:=λj p hp=>by
    rw[hV]
    show ss++zQ (qA :: zM dn :: (ps.take (j+1)).map (qW n))=_
    rw[AC,hp,List.map_append];have:=Zid (zM dn :: (ps.take j).map (qW n)) (qW n p) qA;simp only[List.cons_append]at this
    show ss++zQ (qA :: zM dn :: ((ps.take j).map (qW n)++[qW n p]))=_
    rw[this];simp
   have o8:P (k+1)=V ps.length++[10]:=by rw[a,hV];simp
   have i5:∀j,(V j).length<=184201000:=λj=>by
    rw[hV];have:=Wp (ws:=qA :: zM dn :: (ps.take j).map (qW n)) (m:=60) (λw hw=>h8.1 w (by
     simp only[Au,Al]at hw ⊢;rcases hw with r | r | ⟨p,hp,r⟩
     ·exact .inl r
     ·exact .inr (.inl r)
     ·exact .inr (.inr ⟨p,BA hp,r⟩)))
    have hl:(qA :: zM dn :: (ps.take j).map (qW n)).length<=1002:=DT
    simp only[Am];have:61*(qA :: zM dn :: (ps.take j).map (qW n)).length<=61*1002:=Cb _ hl;omega
   clear hV a;generalize zM dn=dw at *;obtain⟨m1,o9,p4,i6⟩:=y9 ss [118,105,115,105,116,32] (by simp only[Ae,Ah];omega);obtain⟨m2,p5,y7,i7⟩:=y9 m1 dw (by rw[p4];simp only[Ae,Ah];omega);have i8:V 0=m2:=by rw[o6,p5,o9]
   refine zo DP ?_;refine ze (zi [] (zq i6 i7) ?_);refine yW [] o5 (zq i6 i7) ?_;rw[<-i8];refine DY ?_;refine zn (zK (λj:Nat=>j<=ps.length) (λj=>[(1,.ptr nx v0 0),(4,T (bs (V j))),(5,I k),(6,.ptr (nx+1) v2 0),(7,I j)]) (λ_=>[.cells v0 25 (zE x),.cells v2 87 [I 1,I dn,L ps,I ra,I si,I st,I ru,I ho]]) (λj=>ps.length-j) 0 [] DP DP DP ?_);rintro j hj
   repeat apply ze
   refine zg ?_;refine zA rfl (λe=>?_) (λe=>?_)
   ·simp at e;obtain⟨p,z0,b1,b2,b3,g0⟩:=zN rfl ps j e;have p6:=Ab b1;have j0:p<2 ^ 64:=Bj (o3 p p6) (BH DV DO);have p7:=ZvI p n DO DO j0;have hpl:=Zkb n p g6;have p8:=o7 j p b1;have p9:=i5 j;generalize qW n p=pw at *;generalize q5:V (j+1)=vj1 at *;generalize V j=vj at *;obtain⟨y1,i,d1,f⟩:=y9 vj [32] (by simp only[Ae,Ah];omega);obtain⟨y2,d2,q6,o⟩:=y9 y1 pw (by rw[d1];simp only[Ae,Ah];omega);obtain rfl:vj1=y2:=by rw[p8,d2,i]
    refine zk (ze (zn (zD (some [nx,nx+1]) (Row.pures [0,1,2,3,4,5,6,7,8,9,10,11] .done) mixed (yr g0 e f o g) ?_)));refine zO (p7) (yr g0 e f o g) ?_;refine zg ?_;exact zu (j+1) [] e DO (by simp[zy j (by omega),q5]) rfl DP
   ·simp at e;obtain rfl:j=ps.length:=DO
    have p9:=i5 ps.length;obtain⟨y1,i,d1,f⟩:=y9 (V ps.length) [10] (by simp only[Ae,Ah];omega);have b:P (k+1)=y1:=by rw[o8,i]
    refine zC (zi [] f ?_);refine zg ?_;exact zu (k+1) [_] hc DO (by simp[zy k (by omega),b]) rfl DQ
  ·subst o4;obtain⟨ra,rfl⟩:=Ay b8.1;obtain⟨si,rfl⟩:=Ay c6.1;obtain⟨st,rfl⟩:=Ay c7.1;obtain⟨ho,rfl⟩:=Ay c8.1;obtain⟨-,b8⟩:=b8;obtain⟨-,c6⟩:=c6;obtain⟨-,c7⟩:=c7;obtain⟨-,c8⟩:=c8;have j1:Pure prog 52 [.lst 4 [I ra,I si,I st,I ho]] (.lst 4 [T (bs (zM ra)),T (bs (zM si)),T (bs (zM st)),T (bs (zM ho))]) :=
    ZdK [ra,si,st,ho] DP (by intro m hm;simp only[Au,A9,or_false]at hm;rcases hm with rfl | rfl | rfl | rfl<;>omega)
   have p0:=wu (n:=ra) DO;have p1:=wu (n:=si) DO;have p2:=wu (n:=st) DO;have p3:=wu (n:=ho) DO;have d0:qL n ⟨2,dm,ps,ra,si,st,ru,ho⟩=[jS,zM ra,zM si,zM st,if ru=2 then vN else wE,zM ho]:=by simp[qL,zG]
   rw[d0]at a;generalize zM ra=u0 at *;generalize zM si=u1 at *;generalize zM st=u2 at *;generalize zM ho=u3 at *;refine zp DP ?_;refine DY ?_;refine zv j1 ?_;refine DY ?_
   repeat apply ze
   refine zg ?_
   by_cases d3:ru=2
   ·subst d3;rw[if_pos rfl]at a;refine zo DP ?_;refine zg ?_;obtain⟨t1,d4,d5,d6⟩:=y9 ss [116,97,110,107,32] (by (try simp only[Ae,Ah]);omega);have r1:t1.length<=184101005:=by rw[d5];(try simp only[Ae,Ah]);omega
    obtain⟨t2,d7,d8,d9⟩:=y9 t1 u0 (by (try simp only[Ae,Ah]);omega);have r2:t2.length<=184101025:=by rw[d8];(try simp only[Ae,Ah]);omega
    obtain⟨t3,e0,e3,e4⟩:=y9 t2 [32] (by (try simp only[Ae,Ah]);omega);have r3:t3.length<=184101026:=by rw[e3];(try simp only[Ae,Ah]);omega
    obtain⟨t4,e5,e6,e7⟩:=y9 t3 u1 (by (try simp only[Ae,Ah]);omega);have r4:t4.length<=184101046:=by rw[e6];(try simp only[Ae,Ah]);omega
    obtain⟨t5,e8,e9,f2⟩:=y9 t4 [32] (by (try simp only[Ae,Ah]);omega);have r5:t5.length<=184101047:=by rw[e9];(try simp only[Ae,Ah]);omega
    obtain⟨t6,f3,f4,f5⟩:=y9 t5 u2 (by (try simp only[Ae,Ah]);omega);have r6:t6.length<=184101067:=by rw[f4];(try simp only[Ae,Ah]);omega
    obtain⟨t7,f6,f7,f8⟩:=y9 t6 [32] (by (try simp only[Ae,Ah]);omega);have r7:t7.length<=184101068:=by rw[f7];(try simp only[Ae,Ah]);omega
    obtain⟨t8,f9,g1,g2⟩:=y9 t7 [97,110,121] (by (try simp only[Ae,Ah]);omega);have r8:t8.length<=184101071:=by rw[g1];(try simp only[Ae,Ah]);omega
    obtain⟨t9,g3,g4,g5⟩:=y9 t8 [32] (by (try simp only[Ae,Ah]);omega);have r9:t9.length<=184101072:=by rw[g4];(try simp only[Ae,Ah]);omega
    obtain⟨q,s,u,v⟩:=y9 t9 u3 (by (try simp only[Ae,Ah]);omega);have j2:q.length<=184101092:=by rw[u];(try simp only[Ae,Ah]);omega
    obtain⟨y,a0,a4,d⟩:=y9 q [10] (by (try simp only[Ae,Ah]);omega);have j3:y.length<=184101093:=by rw[a4];(try simp only[Ae,Ah]);omega
    have b:P (k+1)=y:=by rw[a,a0,s,g3,f9,f6,f3,e8,e5,e0,d7,d4];simp[zQ]
    refine zD none (Row.pures [0,1,2,3,4,5,6,7,8,9,10,11,12,13,14,15,16,17,18,19,20,21,22,23,24] .done) mixed (zW d6 d9 e4 e7 f2 (zW f5 f8 g2 g5 v d)) ?_;refine zi [] d ?_;refine zg ?_;exact zu (k+1) [_] hc DO (by simp[zy k (by omega),b]) rfl DQ
   ·rw[if_neg d3]at a;refine zp (by simp[d3]) ?_;refine zk ?_;obtain⟨t1,d4,d5,d6⟩:=y9 ss [116,97,110,107,32] (by (try simp only[Ae,Ah]);omega);have r1:t1.length<=184101005:=by rw[d5];(try simp only[Ae,Ah]);omega
    obtain⟨t2,d7,d8,d9⟩:=y9 t1 u0 (by (try simp only[Ae,Ah]);omega);have r2:t2.length<=184101025:=by rw[d8];(try simp only[Ae,Ah]);omega
    obtain⟨t3,e0,e3,e4⟩:=y9 t2 [32] (by (try simp only[Ae,Ah]);omega);have r3:t3.length<=184101026:=by rw[e3];(try simp only[Ae,Ah]);omega
    obtain⟨t4,e5,e6,e7⟩:=y9 t3 u1 (by (try simp only[Ae,Ah]);omega);have r4:t4.length<=184101046:=by rw[e6];(try simp only[Ae,Ah]);omega
    obtain⟨t5,e8,e9,f2⟩:=y9 t4 [32] (by (try simp only[Ae,Ah]);omega);have r5:t5.length<=184101047:=by rw[e9];(try simp only[Ae,Ah]);omega
    obtain⟨t6,f3,f4,f5⟩:=y9 t5 u2 (by (try simp only[Ae,Ah]);omega);have r6:t6.length<=184101067:=by rw[f4];(try simp only[Ae,Ah]);omega
    obtain⟨t7,f6,f7,f8⟩:=y9 t6 [32] (by (try simp only[Ae,Ah]);omega);have r7:t7.length<=184101068:=by rw[f7];(try simp only[Ae,Ah]);omega
    obtain⟨t8,f9,g1,g2⟩:=y9 t7 [102,105,108,108] (by (try simp only[Ae,Ah]);omega);have r8:t8.length<=184101072:=by rw[g1];(try simp only[Ae,Ah]);omega
    obtain⟨t9,g3,g4,g5⟩:=y9 t8 [32] (by (try simp only[Ae,Ah]);omega);have r9:t9.length<=184101073:=by rw[g4];(try simp only[Ae,Ah]);omega
    obtain⟨q,s,u,v⟩:=y9 t9 u3 (by (try simp only[Ae,Ah]);omega);have j2:q.length<=184101093:=by rw[u];(try simp only[Ae,Ah]);omega
    obtain⟨y,a0,a4,d⟩:=y9 q [10] (by (try simp only[Ae,Ah]);omega);have j3:y.length<=184101094:=by rw[a4];(try simp only[Ae,Ah]);omega
    have b:P (k+1)=y:=by rw[a,a0,s,g3,f9,f6,f3,e8,e5,e0,d7,d4];simp[zQ]
    refine zD none (Row.pures [0,1,2,3,4,5,6,7,8,9,10,11,12,13,14,15,16,17,18,19,20,21,22,23,24] .done) mixed (zW d6 d9 e4 e7 f2 (zW f5 f8 g2 g5 v d)) ?_;refine zi [] d ?_;refine zg ?_;exact zu (k+1) [_] hc DO (by simp[zy k (by omega),b]) rfl DQ
 ·simp at hc;obtain rfl:k=x.cust.length:=DO
  refine zC ?_;have hpb:=g8 x.cust.length;obtain⟨y1,i,d1,f⟩:=y9 (P x.cust.length) [100,105,115,116,97,110,99,101,115,10] (by simp only[Ae,Ah];omega);obtain rfl:D 0=y1:=by rw[k6,i]
  refine ze (zi [] f ?_)
  repeat apply ze
  refine zg ?_;refine zn (zK (λk:Nat=>k<=x.dist.length) (λk=>[(1,.ptr nx v0 0),(4,T (bs (D k))),(10,I k)]) (λ_=>[.cells v0 25 (zE x)]) (λk=>x.dist.length-k) 0 [] DP DP DP ?_);rintro k hk
  repeat apply ze
  refine zg ?_;refine zA rfl (λhc=>?_) (λhc=>?_)
  ·simp at hc;obtain⟨r,tl,a1,a2,a3,f0⟩:=zN rfl x.dist k hc;have hr:=h.t.row r (Ab a1);have s0:=k7 k r a1;have hdb:=k8 k;have j4:∀ws:Ln,(∀w∈ws,w∈r.map zG)->ws.length<=1001->(zQ ws).length<=61061:=λws hs hl=>by
    have:=Wp (ws:=ws) (m:=60) (λw hw=>by
     obtain⟨z,hz,rfl⟩:=Al.1 (hs w hw);have:=Xh (hr.2 z hz);omega)
    have:61*ws.length<=61*1001:=Cb _ hl;omega
   have t0:r.length<=1001:=by have:=hr.1;omega
   have hwj:=j4 (r.map zG) (λw hw=>hw) (by simpa using t0);have u4:Pure prog 52 [L r] (L ((r.map zG).map bs)):=by
    have e1:(r.map Int.toNat).map (λm:Nat=>(m:Int))=r:=by
     rw[BX];refine(AM λz hz=>?_).trans (Df _);have:=(hr.2 z hz).1;simp;omega
    have:=ZdK (r.map Int.toNat) DT (λm hm=>by
     obtain⟨z,hz,rfl⟩:=Al.1 hm;have:=(hr.2 z hz).2;omega)
    rw[e1]at this;have e2:uK (r.map Int.toNat)=(r.map zG).map bs:=by simp[uK,zG,Function.comp_def]
    rwa[e2]at this
   have u8:=ZrD (r.map zG) DT DO (λj=>by have:=j4 ((r.map zG).take j) (λw hw=>BA hw) DT;omega);generalize (r.map zG).map bs=wl at *;generalize v3:D (k+1)=dk1 at *;generalize zQ (r.map zG)=jw at *;obtain⟨y2,d2,q6,o⟩:=y9 (D k) (jw++[10]) (by simp only[Am,Ae,Ah];omega);obtain rfl:dk1=y2:=by rw[s0,d2]
   generalize jw++[10]=jn at *;generalize D k=dk at *;refine zk (ze (zn (zi [] (zq f0 hc) ?_)));refine yW [] u4 (zF f0 hc o) ?_;refine yW [] u8 (zF f0 hc o) ?_;refine zg ?_;exact zu (k+1) [] hc DO (by simp[zy k (by omega),v3]) rfl DP
  ·simp at hc;obtain rfl:k=x.dist.length:=DO
   refine zC (DY ?_);exact DZ hd
open Go Go.Proofs Hp
theorem ZvL{x:Inst}{n:Nat}(h:InstQ x n):InstOk x:=by
 have hm:=Jm h.m;obtain⟨j,d,o,p⟩:=VA hm.dist;have u:=h.six;have r:∀z:Int,0<=z->z<=2147483648->zT z:=λz a b=>by unfold zT;omega
 refine⟨by have:=hm.days;unfold zT;omega,r _ hm.veh.1 hm.veh.2,r _ hm.cap.1 hm.cap.2,r _ hm.len.1 hm.len.2,by omega,λc hc=>?_,by omega,λrow f=>⟨by have:=(d row f).1;omega,λz g=>r z ((d row f).2 z g).1 ((d row f).2 z g).2⟩⟩;have i:=(h.k.a.made c hc).pats;rcases Zbx (hm.custs c hc) with ⟨k,a,b,l,r1,r2,r3,r4,r5⟩ | ⟨k,q,s,t,v,ho,e,w⟩
 ·exact⟨r _ DO DO,r _ DO DO,i,by omega,r _ DO DO,r _ DO DO,r _ DO DO,r _ DO DO,r _ DO DO⟩
 ·exact⟨r _ DO DO,r _ DO DO,i,by rw[e];simp,r _ DO DO,r _ DO DO,r _ DO DO,r _ DO DO,r _ DO DO⟩
theorem ZvM{x:Inst}{n:Nat}{p:zH}(h:PlanG x n p):PlanSz p:=⟨h.serves.sz,λd a=>by have:=(h.s.ok d a).2.1;omega⟩
def Ww(x:Inst)(n:Nat)(l:List Int):Int:=Wv x n (xY l) (yv l 3).toNat
def wy(x:Inst)(n:Nat)(l:List Int):zH × Int:=Qq x n (xY l) (yv l 1).toNat (yv l 2)
theorem ZvN{x:Inst}{n:Nat}(h:InstQ x n):(z8 (xg x)).length<=1048576:=by
 have hm:=Jm h.m;have f:=h.six;have hl:=VC (ls:=xg x) (Zkd (K:=66) (Zka h) DO DO λc hc=>by
  rcases Zbx (hm.custs c hc) with ⟨k,a,b,l,-⟩ | ⟨k,q,s,t,g,ho,e,-⟩
  ·omega
  ·rw[e];simp)
 have d:(xg x).length<=18:=by simp[xg];have:=h.t.rows;omega
 have:4027*(xg x).length<=4027*18:=Cb _ d;omega
theorem Zkf:yF []=(zI,2):=by unfold yF;rw[X8];rfl
abbrev ZbM:Wd:=[111,117,116,99,111,109,101,32,109,97,108,102,111,114,109,101,100,10]
theorem Zkg:Pure prog 21 [.agg [I 1,I 0,I 0,I 0,L ([]:List Int),L ([]:zH)]] (T (bs ZbM)):=by
 have hl:Pure prog 59 [.lst 2 [T (bs xA),T (bs Zby)]] (T (bs ZbM)):=Wi [xA,Zby] DP DV;refine zx func21 ntmps21 results21 λS nx a=>?_
 refine DY ?_;intro v0
 repeat apply ze
 refine zg ?_;refine zn (DY ?_);refine zo DP ?_;refine DY ?_;refine zv hl ?_;exact DZ a
theorem ZvO:Pure prog 39 [T (bs []),L ([]:List Int)] (T (bs ZbM)):=by
 have h1:=ZjS [] DP [] (by rw[Zkf];decide);rw[Zkf]at h1;have h2:=Zkg;have h3:Pure prog 12 [T (bs []),L ([]:List Int)] (.agg [I 1,I 0,I 0,I 0,L ([]:List Int),L ([]:zH)]):=h1;refine zx func39 ntmps39 results39 λS nx a=>?_
 refine DY ?_;refine DY ?_;refine zv h3 ?_;refine zv h2 ?_;exact DZ a
theorem ZvP:Pure prog 31 [] (B true):=by
 have a:Pure prog 39 [T (bs []),.sc (.slice none 0 0)] (T (bs ZbM)):=λS=>ZlG (.cons Wk.rfl (.cons Wk.nil .nil)) (ZvO S)
 refine zx func31 ntmps31 results31 λS nx b=>?_
 refine DY ?_;refine DY ?_;refine zv a ?_;exact DZ b
def QE(l:List Int):List Int:=[xY l,yv l 1 % 9,yv l 2 % 21,yv l 3 % 13]
theorem ZvQ(l:List Int):Pure prog 32 [L l] (L (QE l)):=by
 have hs:=ZuZ l;unfold QE;generalize xY l=s at *;generalize yv l 1 % 9=a at *;generalize yv l 2 % 21=b at *;generalize yv l 3 % 13=c at *;refine zx func32 ntmps32 results32 λS nx d=>?_
 refine DY ?_;refine DY ?_;refine zv hs ?_;intro v0;refine DY ?_;exact DZ d
open Go Go.Proofs
theorem ZvR{P:Program}{n:Nat}{F:Nat->PV}{S:Store}{o:Oper}{t e len:Nat}{parts:Array (Nat × Operand)}{cs:List PV}{K:PV->Store->Prop}(id:Nat)(hid:S id=.dead)(ho:o.op=.buildSlice t len parts)(y:P.underlying t=some (.slice e))(z:P.cellsOf e=1)(h0:0<len)(a0:len<=64)
  (h:ZM P e len (parts.toList.map λx=>(x.1,ev F x.2))=some cs) (a3:cs.length=len) (hK:∀v,K (.sl id v 1 0 len) (S.set id (.cells v e cs))):PO P jB n o F S K:=by
 intro G hG C w a N st next Q' d;have k:∀c,o.op≠.defer c:=by intro c hc;rw[ho]at hc;cases hc
 have l:(parts.toList.map λx=>(x.1,ev G x.2))=parts.toList.map λx=>(x.1,ev F x.2):=by
  refine AM λx hx=>?_
  rw[hG x.2 (by simp only[ho,Op.operands];simp;exact⟨x.1,by simpa using hx⟩)]
 rw[<-l]at h;obtain⟨vs,g,b,m⟩:=ZbS (C:=C) (S:=S) (w:=w) y (λx=>ev G x) a.eval (λx=>st.ev x) h;have s:vs.size=len:=by rw[m,z,BO]
 obtain⟨a1,a2⟩:=st.sim.object' (o:=id) (ver:=C.clock) (.clock C hid) e vs cs DO (λi u _ q=>b.2.1 i u q) (λi p u hp q=>b.2.2 i p u hp q);have f:(execOp a.eval o).run P w=.ok (.value (.slice (some ⟨w.heap.size,0,none⟩) len len)) (w.alloc (.cells vs e)):=by
  unfold execOp;simp only[ho,Sem.run_bind];have e1:(parts.map λx=>(x.1,a.eval x.2))=(parts.toList.map λx=>(x.1,a.eval x.2)).toArray:=Array.ext' DP;rw[e1,g];rfl
 refine qg k f (d _ _ _ _ _ (hK C.clock) ?_ a1 a2);have r:id<(C.put id C.clock (some (w.heap.size,vs.size))).next/\C.clock<(C.put id C.clock (some (w.heap.size,vs.size))).clock:=by simp only[Ctx.put];omega
 refine .sl ⟨_,_,rfl,Ag _,by unfold xk;omega,by unfold maxLen;omega,λh=>⟨_,_,rfl⟩⟩ r λv0 j=>?_
 rw[q11]at j;cases j;exact⟨Ag _,λ_=>.inr ⟨w.heap.size,vs.size,_,_,by simp[Ctx.put],rfl,λ_=>⟨rfl,by omega⟩,λ_=>rfl⟩⟩
theorem ZvS{P:Program}{n nx:Nat}{ops:Array Oper}{K:KT}{F:Nat->PV}{S:Store}{obs:List Ob}{o:Oper}{os:List Oper}{p:PV}(h:jp P F (ext S nx obs) o=some (p,ext S nx obs))(a:XS P jB n nx ops K os (yg F o.dst p) S obs)(b:o.guard=none:=by rfl):XS P jB n nx ops K (o :: os) F S obs:=by
 unfold XS;simp only[gd,b];exact Xm h ⟨S,obs,rfl,a⟩
theorem ZeG{P:Program}{n nx:Nat}{ops:Array Oper}{K:KT}{F:Nat->PV}{S:Store}{obs:List Ob}{o:Oper}{os:List Oper}{p:PV}(h:vu P F o=some p)(a:XS P jB n nx ops K os (yg F o.dst p) S obs)(b:o.guard=none:=by rfl):XS P jB n nx ops K (o :: os) F S obs:=by
 unfold XS;simp only[gd,b];exact V4 h ⟨S,obs,rfl,a⟩
theorem Zkh{P:Program}{n nx:Nat}{ops:Array Oper}{K:KT}{F:Nat->PV}{S:Store}{obs:List Ob}{o:Oper}{os:List Oper}(h:PO P jB n o F (ext S nx obs) (λp S'=>∃S1 a,S'=ext S1 nx a/\XS P jB n nx ops K os (yg F o.dst p) S1 a))(b:o.guard=none:=by rfl):XS P jB n nx ops K (o :: os) F S obs:=by
 unfold XS;simp only[gd,b];exact h
open Go Go.Proofs Hp
theorem Zki{x:Inst}{n:Nat}(h:InstQ x n)(b:Int)(h0:(xx x b).2=0):PlanG x n (xx x b).1:=by
 have c:=h.k.a;obtain⟨v,pr,hv,m,e,i,hc⟩:=ZsZ c h0;have f:=ZdG x v b n;refine⟨c,h.six,by rw[e,f],?_⟩;rw[e];intro d g;obtain⟨r,j,rfl⟩:=Al.1 g;obtain⟨k,l,rfl⟩:=Al.1 j;exact(Zqw (Zh7 c.h hv k) c.h.diag b (i k (AK.1 l))).2.1
theorem Zkj{x:Inst}{n:Nat}(h:InstQ x n)(a:Int)(r:Nat)(b:Int)(h0:(Qq x n a r b).2=0):PlanG x n (Qq x n a r b).1:=by grind[Qq,Zes,Zki]
theorem ZvT{x:Inst}{n:Nat}(h:InstQ x n)(l:List Int):Below21 x l (Ww x n l) (wy x n l).1 (wy x n l).2 (Q6 x (wy x n l).1):=by
 have r:=Wq l 1;have u:=Wq l 2;have t3:=Wq l 3;have i:=h.t.n1;have f:=h.k.a;obtain⟨-,-,j,-⟩:=VA (Jm h.m).dist;have o:((yv l 1).toNat:Int)=yv l 1:=DO
 have p:((yv l 3).toNat:Int)=yv l 3:=DO
 have hc:=ZvG (ZvB h) j (xY l) (yv l 3).toNat DO;rw[p]at hc;have g:=ZuE f DO (λb h0=>Zki h b h0) (xY l) (yv l 1).toNat DO (yv l 2) DO (yv l 3);rw[o]at g;have hm:=Zkj h (xY l) (yv l 1).toNat (yv l 2);have hf:∀e c:Int,Zn e c=0->e=0:=λe c v=>by grind[Zn]
 have w:=h.six;refine⟨hc,g,λh0=>?_,λh0=>?_,λh0=>?_,λh0=>?_⟩
 ·exact Zrc x (wy x n l).1 (ZvL h) (ZvM (hm h0))
 ·exact(hm (hf _ _ h0)).cost
 ·exact ZiC x _ (hm (hf _ _ h0)).serves DO λc hc=>(f.made c hc).fits
 ·have g1:=hm (hf _ _ h0);exact ZiD x _ g1.serves.sz.n λd q=>(g1.s.ok d q).1
def uS(x:Inst)(n:Nat)(l:List Int):Rep:=Wr x (Ww x n l) (wy x n l).1 (wy x n l).2 (Q6 x (wy x n l).1)
theorem Zkk{x:Inst}{n:Nat}(h:InstQ x n)(l:List Int):Pure prog 12 [T (bs (z8 (xg x))),L l] (.agg (Qt (uS x n l))):=by
 have a:=Ztb h.t h.m;have:=Zu5 (z8 (xg x)) (ZvN h) l (bd:=Ww x n l) (p:=(wy x n l).1) (e:=(wy x n l).2) (c:=Q6 x (wy x n l).1) (by rw[a]) (by simp_all[ZvT]);rw[a]at this;exact this
open Go Go.Proofs Hp
theorem ZvU(u:List UInt8):((yF u).2=0/\yS (yF u).1=true/\∃ls b,jf u=some ls/\vO ls=some ((yF u).1,b))\/(yF u).2=2\/(yF u).2=3:=by
 cases a:jf u with
 | none=>right;left;unfold yF;rw[a]
 | some ls =>
  cases c:vO ls with
  | none=>right;left;unfold yF;rw[a];simp only[c]
  | some p =>
   obtain⟨x,ok⟩:=p
   by_cases hm:ok=true/\yS x=true
   ·have e:yF u=(x,0):=by unfold yF;rw[a];simp only[c];rw[if_pos hm]
    left;rw[e];exact⟨rfl,hm.2,ls,ok,rfl,c⟩
   ·right;right;unfold yF;rw[a];simp only[c];rw[if_neg hm]
open Go Go.Proofs
theorem ZvV(k:Nat)(u:UInt8)(l:List UInt8):yk (List.replicate (k+1) (U8 0)++l.map U8) k [U8 u]=List.replicate k (U8 0)++(u :: l).map U8:=by
 have e:List.replicate (k+1) (U8 0)++l.map U8=List.replicate k (U8 0)++(U8 0 :: l.map U8):=by rw[Da];simp
 unfold yk;rw[e,DD DP,Cs,AX DP];simp
theorem Xi(m:Nat)(hm:m<9223372036854775808):Pure prog 62 [I m] (T (bs (zM m))):=by
 have a:=Za5 m 18 DO;have c1:IntKind.u64.wrap (m:Int)=m:=by rw[IntWalk.u64_in _ DO]
 have c2:¬(m:Int)<0:=DO
 refine zx func62 ntmps62 results62 λS nx hd=>?_
 refine DY ?_;refine DY ?_;intro v0;refine ze (zi [] c1 ?_)
 repeat apply ze
 refine zg ?_;refine zp DP ?_;refine zk ?_;have t:qa 20 (.int .u8 0)=List.replicate 20 (U8 0)++([]:List UInt8).map U8:=rfl;refine ze (qy (nx:=nx) (σ:=List UInt8) (λl=>zM m=l) (λl=>[(0,I m),(3,.ptr nx v0 0),(5,I ((20-l.length:Nat):Int))]) (λ_=>S) (λl=>[.cells v0 154 (List.replicate (20-l.length) (U8 0)++l.map U8)]) ?_ ?_)
 ·refine zn (zK (λs:Nat × List UInt8=>zM m=zM s.1++s.2/\s.1<=m) (λ(r,l)=>[(0,I m),(3,.ptr nx v0 0),(4,U r),(5,I ((20-l.length:Nat):Int))]) (λ(r,l)=>[.cells v0 154 (List.replicate (20-l.length) (U8 0)++l.map U8)]) (λs=>s.1) (m,[]) [] DP DP (by simp[t]) ?_);rintro⟨r,l⟩ ⟨v,w⟩;simp only at v w ⊢;have a0:(zM r).length+l.length<=19:=by rw[v,Am]at a;exact a
  have a1:1<=(zM r).length:=Bs.2 (Za4 r);obtain⟨s1,s2⟩:=ZuQ v;have hu:=YF (k:=r % 10) DO;obtain⟨k,x⟩:∃k,20-l.length=k+1:=⟨19-l.length,by omega⟩;have n:=ZvV k (UInt8.ofNat (48+r % 10)) l;generalize UInt8.ofNat (48+r % 10)=u at *;have e1:((r:Int)).tmod 10=((r % 10:Nat):Int):=by rw[Be DO];omega
  have e2:((r:Int)).tdiv 10=((r / 10:Nat):Int):=by rw[BS DO];omega
  have f:r / 10<=r/\(r / 10=0<->r<10)/\(¬r<10->r / 10<r):=DO
  have y:r % 10<10:=DO
  generalize r % 10=d at *;generalize r / 10=q at *;have w0:IntKind.i64.wrap (((k+1:Nat):Int)-1)=(k:Int):=by rw[AA];omega
  have w1:IntKind.u64.wrap (48+(d:Int))=(u.toNat:Int):=by rw[IntWalk.u64_in _ DO,hu];rfl
  have w2:=ZdJ u.toNat DO;have w3:IntKind.u64.wrap (q:Int)=q:=by rw[IntWalk.u64_in _ DO]
  have o:k<20:=DO
  have z:IntKind.i64.wrap (k:Int)=k:=wr _ DO DO;have w5:(k:Int)<20:=DO
  rw[x];refine zn (ze (zi [] (zq w0 z) ?_));refine ze (zi [] (zW e1 w1 w2 o z (zq w5 n)) ?_);refine ze (zi [] (zq e2 w3) ?_);refine DY ?_;have p:20-(u :: l).length=k:=DT
  have g:19-l.length=k:=DO
  by_cases c:r<10
  ·have j:q=0:=f.2.1.2 c;refine zo (by simp[j]) ?_;exact zC (zZ (u :: l) [] (s1 c) (by simp[g]) rfl (by simp only[p,AH,AD]))
  ·have j:¬q=0:=λh=>c (f.2.1.1 h)
   refine zp (by simp[j]) ?_;exact zk (zu (q,u :: l) [] ⟨s2 c,by omega⟩ DO (by simp[g]) rfl (by simp only[p,AH,AD]))
 ·rintro l hl;rw[hl]at a ⊢;have a2:1<=l.length:=by rw[<-hl];exact Bs.2 (Za4 m)
  clear hl;obtain⟨k,x⟩:∃k,20-l.length=k:=⟨_,rfl⟩;rw[x]
  repeat apply ze
  refine zg ?_;refine zp DP ?_;refine zk (DY ?_);refine λb=>ZrB (k:=k) (m:=20) (id:=nx) (ver:=v0) rfl underlying154 DP rfl rfl DO DO (by rw[uy];rfl) DO ?_
  refine⟨_,_,rfl,zR b ?_⟩;refine λb=>Zih (e:=5) (l:=l) (off:=k) (id:=nx) (ver:=v0) rfl DP DP DP DT (by rw[uy];rfl) (λi u h=>by rw[Ak DP,BZ,AI,Aj,h];rfl) DO ?_
  refine⟨_,_,rfl,zR b ?_⟩;exact DZ hd
theorem ZvW(w:Wd)(c:w.length<=20)(m:Nat)(hm:m<9223372036854775808):Pure prog 60 [T (bs w),I m] (T (bs (zQ [w,zM m]++[10]))):=by
 have a:=Xi m hm;have d:=wu (n:=m) DO;have hl:Pure prog 59 [.lst 2 [T (bs w),T (bs (zM m))]] (T (bs (zQ [w,zM m]++[10]))):=Wi [w,zM m] DP (by simp[zQ];omega);generalize zQ [w,zM m]++[10]=r at *;generalize zM m=dm at *;refine zx func60 ntmps60 results60 λS nx b=>?_
 refine DY ?_;refine DY ?_;refine zv a ?_;refine zv hl ?_;exact DZ b
open Go Go.Proofs
theorem Zkl(z:Int)(h0:0<=z)(h:z<=1000000000000000000):Pure prog 53 [I z] (T (bs (zG z))):=by
 have:=Q9 z.toNat DO
 rwa[Cr h0]at this
theorem jx(a b:List UInt8)(h:a.length+b.length<=9223372036854775807):∃q,q=a++b/\yC .add (bs a) (bs b)=some (.string (bs q)):=⟨_,rfl,YG a b h⟩
def Js(t:List Stop):List UInt8:=t.flatMap λs=>32 :: zG s.c++32 :: zG s.q
theorem ZvX(t:zU):zQ (jV t)=ZbB++32 :: zM t.length++Js t:=by
 unfold jV;rw[Zbm];have:∀l:List Stop,((l.flatMap λs=>[zG s.c,zG s.q]).map λu=>(32:UInt8) :: u).flatten=Js l:=λl=>by
  induction l with
  | nil=>rfl
  | cons a l b=>simp only[Az,List.map_append,List.flatten_append,b];simp[Js]
 rw[AD,BG,this];simp
theorem ZvY(p:zH)(y:PlanTold p):Pure prog 23 [.agg [L p]] (.tup [T (bs (z8 (wG p))),B true]):=by
 have c8:=ZbD y;have v:z8 (wG p)=(([112,108,97,110,32]++zM p.length)++[10])++z8 (p.flatMap uu):=by unfold wG;rw[ul];simp[zQ]
 generalize z8 (wG p)=Z at *;have hn:=y.n;have z:=Q9 p.length DO;have a9:=wu (n:=p.length) DO;obtain⟨u,r,f⟩:=jx [112,108,97,110,32] (zM p.length) DT;obtain⟨c0,e2,o⟩:=jx u [10] (by rw[r];simp;omega);rw[<-r,<-e2]at v;refine zx func23 ntmps23 results23 λS nx hd=>?_
 repeat apply ze
 refine zg ?_;intro v0
 (repeat apply ze);refine zg ?_;intros
 repeat apply ze
 refine zg ?_;refine yW [] z (zq f o) ?_;intros
 (repeat apply ze);refine zg ?_;intros
 repeat apply ze
 refine zn (zK (λs:Nat × List UInt8=>s.1<=p.length/\Z=s.2++z8 ((p.drop s.1).flatMap uu)) (λ(k,c)=>[(1,.ptr nx v0 0),(4,B true),(5,T (bs c)),(6,I k)]) (λ_=>[.cells v0 30 [L p]]) (λs=>p.length-s.1) (0,c0) [] (by simp[v]) DP DP ?_);clear v r e2 f o z a9;rintro⟨k,c⟩ ⟨hk,l⟩;simp only at hk l ⊢
 (repeat apply ze);refine zg ?_;intros
 repeat apply ze
 refine zA rfl (λhc=>?_) (λhc=>?_)
 ·simp at hc;obtain⟨d,tl,b1,b2,b3,f0⟩:=zN rfl p k hc;have w:=Ab b1;have d0:=y.d d w;have a0:=Q9 d.length DO;have b:Z=(((c++[100,97,121,32])++zM d.length)++[10])++(z8 (d.map jV)++z8 ((p.drop (k+1)).flatMap uu)):=by
   rw[l,b2,Az,ZbC];unfold uu;rw[ul];simp[zQ]
  obtain⟨R,hR⟩:∃R,R=z8 ((p.drop (k+1)).flatMap uu):=⟨_,rfl⟩;rw[<-hR]at b;have a:=congrArg List.length b;simp only[Am]at a;obtain⟨u,r,f⟩:=jx c [100,97,121,32] (by simp at a ⊢;omega);obtain⟨q2,e2,o⟩:=jx u (zM d.length) (by rw[r];simp at a ⊢;omega);obtain⟨c1,e3,a3⟩:=jx q2 [10] (by rw[e2,r];simp at a ⊢;omega);rw[<-r,<-e2,<-e3]at b;clear a l r e2 e3;generalize zM d.length=dd at *;refine zk (ze (zn ?_))
  repeat apply ze
  refine zi [] (zF f0 hc f) ?_;refine yW [] a0 (yr f0 hc f o a3) ?_;intros
  (repeat apply ze);refine zg ?_;intros
  repeat apply ze
  refine zn (zK (λs:Nat × List UInt8=>s.1<=d.length/\Z=s.2++(z8 ((d.drop s.1).map jV)++R)) (λ(j,c)=>[(1,.ptr nx v0 0),(4,B true),(5,T (bs c)),(6,I k),(7,I j)]) (λ_=>[.cells v0 30 [L p]]) (λs=>d.length-s.1) (0,c1) [] (by simp[b]) DP DP ?_);clear b f o a3 a0;rintro⟨j,c⟩ ⟨hj,l⟩;simp only at hj l ⊢
  repeat apply ze
  refine zi [] (zq f0 hc) ?_;intros
  repeat apply ze
  refine zA rfl (λm=>?_) (λm=>?_)
  ·simp at m;obtain⟨t,d1,r,e2,e3,g0⟩:=zN rfl d j m;have a5:=Ab r;have d2:=y.t d w t a5;have b7:=y.s d w t a5;have a6:=Q9 t.length DO;have b:Z=((c++[116,111,117,114,32])++zM t.length)++(Js t++([10]++(z8 ((d.drop (j+1)).map jV)++R))):=by
    rw[l,e2,AD,ul,ZvX];simp
   obtain⟨R2,a7⟩:∃R2,R2=z8 ((d.drop (j+1)).map jV)++R:=⟨_,rfl⟩;rw[<-a7]at b;have a:=congrArg List.length b;simp only[Am]at a;obtain⟨u,e,f⟩:=jx c [116,111,117,114,32] (by simp at a ⊢;omega);obtain⟨c1,g,o⟩:=jx u (zM t.length) (by rw[e];simp at a ⊢;omega);rw[<-e,<-g]at b;clear a l e g;generalize zM t.length=dt at *;refine zk (ze (zn ?_))
   repeat apply ze
   refine zi [] (zS f0 hc g0 m) ?_;intros
   repeat apply ze
   refine zi [] f ?_;refine yW [] a6 (zq f o) ?_;intros
   (repeat apply ze);refine zg ?_;intros
   repeat apply ze
   refine zn (zK (λs:Nat × List UInt8=>s.1<=t.length/\Z=s.2++(Js (t.drop s.1)++([10]++R2))) (λ(i,c)=>[(1,.ptr nx v0 0),(4,B true),(5,T (bs c)),(6,I k),(7,I j),(8,L t),(9,I i)]) (λ_=>[.cells v0 30 [L p]]) (λs=>t.length-s.1) (0,c1) [] (by simp[b]) DP DP ?_);clear b f o a6;rintro⟨i,c⟩ ⟨hi,l⟩;simp only at hi l ⊢
   (repeat apply ze);refine zg ?_;intros
   repeat apply ze
   refine zA rfl (λh=>?_) (λh=>?_)
   ·simp at h;obtain⟨s,d3,s1,s2,s3,s4,h0⟩:=el 2 rfl t i h;have h1:=s4 1 DO;obtain⟨⟨p1,p2⟩,p3,p4⟩:=b7 s (Ab s1);have b8:=Zkl s.c p1 p2;have c6:=Zkl s.q p3 p4;have b:Z=(((((c++[32])++zG s.c)++[32])++zG s.q))++(Js (t.drop (i+1))++([10]++R2)):=by
     rw[l,s2];simp[Js]
    have a:=congrArg List.length b;simp only[Am]at a;obtain⟨u,e,f⟩:=jx c [32] (by simp at a ⊢;omega);obtain⟨q2,g,o⟩:=jx u (zG s.c) (by rw[e];simp at a ⊢;omega);obtain⟨q3,x,a3⟩:=jx q2 [32] (by rw[g,e];simp at a ⊢;omega);obtain⟨q4,a8,a4⟩:=jx q3 (zG s.q) (by rw[x,g,e];simp at a ⊢;omega);rw[<-e,<-g,<-x,<-a8]at b;clear a l s4 e g x a8;generalize zG s.c=dc at *;generalize zG s.q=dq at *;refine zk (ze (zn ?_))
    repeat apply ze
    refine zi [] (zF h0 h1 h) ?_;intros
    repeat apply ze
    refine zi [] (zF h0 h1 h) ?_;intros
    repeat apply ze
    refine zi [(1,81),(5,85),(9,89),(13,93)] (zS p1 p2 p3 p4) ?_;intros
    repeat apply ze
    refine zi [] f ?_;refine yW [] b8 (zF f o a3) ?_;refine yW [] c6 (zS f o a3 a4) ?_;intros
    (repeat apply ze);refine zg ?_;intros
    exact zu (i+1,q4) [] ⟨h,b⟩ DO (by simp[zy i (by omega)]) rfl rfl
   ·simp at h;obtain rfl:i=t.length:=DO
    refine zC ?_;have b:Z=(c++[10])++R2:=by rw[l];simp[Js]
    have a:=congrArg List.length b;simp only[Am]at a;obtain⟨u,e,f⟩:=jx c [10] (by simp at a ⊢;omega);rw[<-e]at b
    repeat apply ze
    refine zi [] f ?_;intros
    (repeat apply ze);refine zg ?_;intros
    exact zu (j+1,u) [] ⟨m,by rw[b,a7]⟩ DO (by simp[zy j (by omega)]) rfl rfl
  ·simp at m;obtain rfl:j=d.length:=DO
   refine zC ?_
   (repeat apply ze);refine zg ?_;intros
   exact zu (k+1,c) [] ⟨hc,by rw[l,hR];simp[z8]⟩ DO (by simp[zy k (by omega)]) rfl rfl
 ·simp at hc;obtain rfl:k=p.length:=DO
  have c7:c=Z:=by rw[l];simp[z8]
  rw[c7];refine zC ?_
  (repeat apply ze);refine zg ?_;intros
  repeat apply ze
  refine zp DP ?_;refine zk ?_
  (repeat apply ze);refine zg ?_;intros
  repeat apply ze
  exact DZ hd
open Go Go.Proofs
theorem Zkm(z:Int)(h1:0<=z)(h2:z<=1000000000000000000):Pure prog 100 [I z] (B true):=by
 refine zx func100 ntmps100 results100 λS nx a=>?_
 refine DY ?_;refine ze (zi [(2,5)] (zq h1 h2) ?_);exact DZ a
theorem Zkn(z:Int)(h0:0<=z)(h:z<=1000000000000000000):Pure prog 62 [I z] (T (bs (zG z))):=by
 have:=Xi z.toNat DO
 rwa[Cr h0]at this
theorem Zko{x:Stop × Nat}:∀{p:zH} {i:Nat},x∈told i p->∃d∈p,∃t∈d,x.1∈t
 | [],_,h=>by simp[told]at h
 | d :: p,i,h=>by
  simp only[told,AB,Al,Bt]at h;rcases h with ⟨s,⟨t,a,hs⟩,rfl⟩ | h
  ·exact⟨d,by simp,t,a,hs⟩
  ·obtain⟨b,c,q⟩:=Zko h;exact⟨b,by simp[c],q⟩
theorem ZeH{S:Store}{nx:Nat}{a b c d e A B:Ob}{more:List Ob}:((ext S nx (a :: b :: c :: d :: e :: more)).set (nx+4) B).set (nx+3) A=ext S nx (a :: b :: c :: A :: B :: more):=by
 rw[yl _ DO DP,yl _ DO DP];simp
theorem Zkp(w:Wd)(a:w.length<=20)(n:Nat)(hn:n<=1000):Pure prog 59 [.lst 2 [T (bs w),T (bs (zM n))]] (T (bs (zQ [w,zM n]++[10]))):=by
 have b:=wu (n:=n) DO;exact Wi [w,zM n] DP (by simp[zQ];omega)
theorem ZvZ(p:zH)(o:PlanTold p):Pure prog 63 [.agg [L p]] (.tup [T (bs (z8 (wG p))),I 0]):=by
 have f3:=ZbD o;have z:z8 (wG p)=(zQ [Yf,zM p.length]++[10])++z8 (p.flatMap uu):=by unfold wG;rw[ul];simp
 generalize z8 (wG p)=Z at *;have a8:∀x∈told 0 p,(0<=x.1.c/\x.1.c<=1000000000000000000)/\0<=x.1.q/\x.1.q<=1000000000000000000:=λx hx=>by
  obtain⟨d,hd,t,ht,hs⟩:=Zko hx;exact o.s d hd t ht _ hs
 have hn:=o.n;have a0:∀(S:Store) (nx b wx:Nat) (pp:PV) (l m:List UInt8),l.length+m.length<=Z.length->S (nx+3)=.cells b 113 [pp,.sl (nx+4) wx 1 0 l.length]->(pp=.sc (.pointer none)\/pp=.ptr (nx+3) b 0)->S (nx+4)=.cells wx 5 (l.map U8)->_:=λS nx b wx pp l m hl h1 o h2=>Zeg (S:=S) (id:=nx+3) (v:=b) (ib:=nx+4) (w0:=wx) (p:=pp) l m h1 o h2 DO
 have d0:=Xi p.length DO;have d1:=Zkp Yf DV p.length hn;have a9:zQ [Yf,zM p.length]++[10]≠[]:=DP
 generalize zQ [Yf,zM p.length]++[10]=l0 at *;generalize zM p.length=dp at *;refine zx func63 ntmps63 results63 λS nx hd=>?_
 refine DY ?_;intro v0 v1 r
 repeat apply ze
 refine zg ?_;refine zv (ZhM p) ?_;refine zn (JE (xs:=(told 0 p).map JY) (σ:=Unit) (λi s=>i<=(told 0 p).length) [(1,.ptr nx v0 0),(2,.ptr (nx+1) v1 0),(3,.ptr (nx+2) r 0)] (λ_=>S)
  (λ_=>[.cells v0 30 [L p],.cells v1 9 [T (bs [])],.cells r 47 [I 0]]) ()
  (ZhN p DO (λd hd=>by have:=o.d d hd;omega) (λd hd t ht=>by have:=o.t d hd t ht;omega)) rfl (by intro x hx;obtain⟨y,_,rfl⟩:=Al.1 hx;rfl) DV DP DP rfl DP DP ?_ ?_)
 ·rintro l i ⟨⟩ more x hi hx;rw[Aj]at hx;obtain⟨y,hy,rfl⟩:=Ap.1 hx;obtain⟨s,d⟩:=y;obtain⟨⟨c1,c2⟩,q1,q2⟩:=a8 _ (Ab hy);have d2:i<(told 0 p).length:=(Ad.1 hy).1;have hc:=Zkm s.c c1 c2;have hq:=Zkm s.q q1 q2;refine xL [] DU DU λK Gc Gh hK d3 d4 X b7 hX=>?_
  simp -implicitDefEqProofs [b7,hX,JY]
  try clear b7 hX X
  intro v4;refine hK _ _ _ ?_;clear hK d3 d4;clear K Gc Gh;refine zn (ze (zi [(5,21)] trivial ?_));refine yW [(5,21)] hc trivial ?_;refine yW [(5,21)] hq trivial ?_;refine zp DP ?_;refine zk ?_;simp only[jW];exact wU () [_] d2 rfl DQ
 ·rintro⟨⟩ -;refine DY ?_;intro b;refine jd 3 1 5 1 rfl rfl λwb=>?_
  refine DY ?_;refine zv d0 ?_;refine zv d1 ?_;refine λa=>((a0 _ nx b wb _ [] l0 (by rw[z];simp) (by rw[zY];rfl) (.inl rfl) (by rw[zY];rfl)).mono ?_).v
  rintro _ _ ⟨rfl,rfl⟩;refine⟨_,_,ZeH,zR a ?_⟩
  repeat apply ze
  refine zg ?_;refine zn (zK (λs:Nat × Nat × List UInt8=>s.1<=p.length/\Z=s.2.2++z8 ((p.drop s.1).flatMap uu)) (λ(k,w,c)=>[(1,.ptr nx v0 0),(2,.ptr (nx+1) v1 0),(3,.ptr (nx+2) r 0),(5,.ptr (nx+3) b 0),(36,L p),(37,I p.length),(38,I k)]) (λ(k,w,c)=>[.cells v0 30 [L p],.cells v1 9 [T (bs [])],.cells r 47 [I 0],.cells b 113 (YO (nx+3) b (nx+4) w c.length),.cells w 5 (c.map U8)]) (λs=>p.length-s.1) (0,wb+1,l0) [] (by simp[z]) DP DP ?_);rintro⟨k,w,c⟩ ⟨hk,hZ⟩;simp only at hk hZ ⊢;refine DY ?_;refine ze (zA rfl (λhc=>?_) (λhc=>?_))
  ·simp at hc;obtain⟨d,tl,a1,a2,a3,f0⟩:=zN rfl p k hc;have a4:=Ab a1;have d5:=o.d d a4;have d6:=Xi d.length DO;have d7:=Zkp xX DV d.length d5;have g:Z=(c++(zQ [xX,zM d.length]++[10]))++(z8 (d.map jV)++z8 ((p.drop (k+1)).flatMap uu)):=by
    rw[hZ,a2,Az,ZbC];unfold uu;rw[ul];simp
   generalize zQ [xX,zM d.length]++[10]=l1 at *;generalize zM d.length=dd at *;obtain⟨R,hR⟩:∃R,R=z8 ((p.drop (k+1)).flatMap uu):=⟨_,rfl⟩;rw[<-hR]at g;clear hZ;refine zk (ze (zn (ze (zi [] (zq f0 hc) ?_))));intro v7;refine DY ?_;refine zv d6 ?_;refine zv d7 ?_;refine λa=>((a0 _ nx b w _ c l1 (by rw[g];simp) (by rw[zY];rfl) (.inr rfl) (by rw[zY];rfl)).mono ?_).v
   rintro _ _ ⟨rfl,rfl⟩;obtain⟨c1,b8⟩:∃c1,c1=c++l1:=⟨_,rfl⟩;rw[<-b8]at g ⊢;refine⟨_,_,ZeH,zR a ?_⟩;refine DY ?_;refine zn (zK (λs:Nat × Nat × List UInt8=>s.1<=d.length/\Z=s.2.2++(z8 ((d.drop s.1).map jV)++R)) (λ(j,w,c)=>[(1,.ptr nx v0 0),(2,.ptr (nx+1) v1 0),(3,.ptr (nx+2) r 0),(5,.ptr (nx+3) b 0),(36,L p),(37,I p.length),(38,I k),(50,L d),(51,I d.length),(52,I j)]) (λ(j,w,c)=>[.cells v0 30 [L p],.cells v1 9 [T (bs [])],.cells r 47 [I 0],.cells b 113 (YO (nx+3) b (nx+4) w c.length),.cells w 5 (c.map U8),.cells v7 39 [L d]]) (λs=>d.length-s.1) (0,w+1,c1) [] (by simp[g]) DP DP ?_);clear g b8;rintro⟨j,w,c⟩ ⟨hj,a5⟩;simp only at hj a5 ⊢;refine DY ?_;refine ze (zA rfl (λe=>?_) (λe=>?_))
   ·simp at e;obtain⟨t,f4,b1,b2,b3,e2⟩:=zN rfl d j e;have c6:=Ab b1;have d8:=o.t d a4 t c6;have c7:=o.s d a4 t c6;have c8:=Xi t.length DO;have d9:Pure prog 59 [L ((jV t).map bs)] (T (bs (zQ (jV t)++[10]))):=Wi (jV t) (by rw[ZjN];omega) (by have:=ZjO d8 c7;omega);have a6:Z=(c++(zQ (jV t)++[10]))++(z8 ((d.drop (j+1)).map jV)++R):=by
     rw[a5,b2,AD,ul];simp
    refine zk (ze (zn (ze (zi [] (zq e2 e) ?_))));intro v9;refine ze (Zaq DU ?_);simp only[];refine ZeG DQ ?_;refine ZvS (p:=L t) (by simp[uy,zY]) ?_;refine ZeG DQ ?_;refine Zkh (QH (k:=62) (fs:=[]) (cs:=[]) rfl rfl DP (c8 S).1 (by exact(c8 _).2) ?_);rintro _ _ ⟨rfl,rfl⟩;refine⟨_,_,rfl,?_⟩;refine Zkh (ZvR (nx+7) (by rw[zY];rfl) rfl underlying81 DP DO DO (cs:=[T (bs ZbB),T (bs (zM t.length))]) (by simp[ZM,Yi]) rfl λv=>⟨S,_,jr _,?_⟩);refine ZeG DQ ?_;simp only[]
    repeat apply ze
    refine zg ?_;refine zn (zK (λs:Nat × Nat × Ln=>s.1<=t.length/\s.2.2.length=2+2*s.1/\jV t=s.2.2++(t.drop s.1).flatMap λs=>[zG s.c,zG s.q]) (λ(i,w7,ls)=>[(1,.ptr nx v0 0),(2,.ptr (nx+1) v1 0),(3,.ptr (nx+2) r 0),(5,.ptr (nx+3) b 0),(36,L p),(37,I p.length),(38,I k),(50,L d),(51,I d.length),(52,I j),(10,.sl (nx+7) w7 1 0 ls.length),(62,L t),(63,I t.length),(64,I i)]) (λ(i,w7,ls)=>[.cells v0 30 [L p],.cells v1 9 [T (bs [])],.cells r 47 [I 0],.cells b 113 (YO (nx+3) b (nx+4) w c.length),.cells w 5 (c.map U8),.cells v7 39 [L d],.cells v9 42 [L t],.cells w7 9 ((ls.map bs).flatMap Enc.enc)]) (λs=>t.length-s.1) (0,v,[ZbB,zM t.length]) [] (by simp[jV]) DP DP ?_);rintro⟨i,w7,ls⟩ ⟨hi,e0,hT⟩;simp only at hi e0 hT ⊢;refine DY ?_;refine ze (zA rfl (λf=>?_) (λf=>?_))
    ·simp at f;obtain⟨s,f5,s1,s2,s3,-,e3⟩:=el 2 rfl t i f;obtain⟨⟨p1,p2⟩,p3,p4⟩:=c7 s (Ab s1);have e1:=Zkn s.c p1 p2;have e4:=Zkn s.q p3 p4;have e5:((ls.map bs).flatMap Enc.enc:List PV).length=ls.length:=by rw[js];simp[Enc.sz]
     have a7:List.take ls.length ((ls.map bs).flatMap Enc.enc:List PV)=(ls.map bs).flatMap Enc.enc:=Af (by rw[e5];exact Ag _);have e6:((ls++[zG s.c,zG s.q]).map bs).flatMap Enc.enc=(ls.map bs).flatMap Enc.enc++[T (bs (zG s.c)),T (bs (zG s.q))]:=by rw[List.map_append,Aq];rfl
     have u:(ls++[zG s.c,zG s.q]).length=ls.length+2:=DP
     have e7:jV t=(ls++[zG s.c,zG s.q])++(t.drop (i+1)).flatMap λs=>[zG s.c,zG s.q]:=by rw[hT,s2];simp
     refine zk (ze (zn (ze (zi [] (zq e3 f) ?_))));intro f6;refine zD (some [nx+8]) (Row.pures [0,1,2,3,4,5,6,7] (.alt 8 (Row.pures [9] .done) .stop)) mixed a7 ?_;refine zO (e1) a7 ?_;refine zO (e4) a7 ?_;refine⟨by omega,?_⟩;refine zg ?_;exact zu (i+1,w7+1,ls++[zG s.c,zG s.q]) [_] ⟨f,by simp only[u];omega,e7⟩ DO (by simp[zy i (by omega),u]) rfl (by simp only[e6];rfl)
    ·simp at f;obtain rfl:i=t.length:=DO
     have e8:ls=jV t:=by rw[hT];simp
     clear hT;subst e8;refine zC (yh 7 rfl ?_);obtain⟨c2,h⟩:∃c2,c2=c++(zQ (jV t)++[10]):=⟨_,rfl⟩;rw[<-h]at a6;generalize jV t=ls at *;have e9:PV.lst ls.length ((ls.map bs).flatMap Enc.enc)=L (ls.map bs):=by unfold L;rw[List.length_map]
     generalize zQ ls++[10]=l2 at *;refine zi [] e9 ?_;refine zv d9 ?_;refine λa=>((a0 _ nx b w _ c l2 (by rw[a6,h];simp) (by rw[zY];rfl) (.inr rfl) (by rw[zY];rfl)).mono ?_).v
     rintro _ _ ⟨rfl,rfl⟩;rw[<-h];refine⟨_,_,ZeH,zR a ?_⟩;refine zg ?_;exact zu (j+1,w+1,c2) [_,_] ⟨e,a6⟩ DO (by simp[zy j (by omega)]) rfl rfl
   ·simp at e;obtain rfl:j=d.length:=DO
    refine zC (zg ?_);exact zu (k+1,w,c) [_] ⟨hc,by rw[a5,hR];simp[z8]⟩ DO (by simp[zy k (by omega)]) rfl rfl
  ·simp at hc;obtain rfl:k=p.length:=DO
   refine zC ?_;have f1:c=Z:=by rw[hZ];simp[z8]
   subst f1;have f2:c≠[]:=by rw[z];simp[a9]
   refine DY ?_;refine λa=>((Zef (id:=nx+3) (v:=b) (ib:=nx+4) (w0:=w) (p:=.ptr (nx+3) b 0) c (by rw[zY];rfl) (by rw[zY];rfl) f2 DO).mono ?_).v
   rintro _ _ ⟨rfl,rfl⟩;rw[yl _ DO DP];refine⟨_,_,rfl,zR a ?_⟩;exact DZ hd
open Go Go.Proofs
structure RepTold (r:Rep):Prop where
 b:0<=r.bound/\r.bound<=9223372036854775807
 c:0<=r.cost/\r.cost<=9223372036854775807
 h:0<=r.hold/\r.hold<=9223372036854775807
 n:r.days.length<=1000
 d:∀z∈r.days,0<=z/\z<=9223372036854775807
 p:PlanTold r.plan
theorem Zv0(z:Int)(h0:0<=z/\z<=9223372036854775807):Pure prog 62 [I z] (T (bs (zG z))):=by
 have:=Xi z.toNat DO
 rwa[Cr h0.1]at this
theorem ZbN(w:Wd)(a:w.length<=20)(z:Int)(h0:0<=z/\z<=9223372036854775807):Pure prog 60 [T (bs w),I z] (T (bs (zQ [w,zG z]++[10]))):=by
 have:=ZvW w a z.toNat DO
 rwa[Cr h0.1]at this
theorem ZeI(w v:Wd)(a:w.length<=20)(hv:v.length<=20):Pure prog 59 [.lst 2 [T (bs w),T (bs v)]] (T (bs (zQ [w,v]++[10]))) :=
 Wi [w,v] DP (by simp[zQ];omega)
theorem Wx{S:Store}{nx:Nat}{a d e A B:Ob}{more:List Ob}:((ext S nx (a :: d :: e :: more)).set (nx+2) B).set (nx+1) A=ext S nx (a :: A :: B :: more):=by
 rw[yl _ DO DP,yl _ DO DP];simp
theorem Zv1(a b c:Int)(ds:List Int)(p:zH):Pure prog 21 [.agg [I 2,I a,I b,I c,L ds,L p]] (T (bs (zQ [xA,VB]++[10]))):=by
 have hl:=ZeI xA VB DV DV;generalize zQ [xA,VB]++[10]=z at *;refine zx func21 ntmps21 results21 λS nx d=>?_
 refine DY ?_;intro v0
 repeat apply ze
 refine zg ?_;refine zn (DY ?_);refine zp DP ?_;refine DY ?_;refine zo DP ?_;refine DY ?_;refine zv hl ?_;exact DZ d
theorem Zv2(a b c:Int)(ds:List Int)(p:zH)(e:0<=a/\a<=9223372036854775807):Pure prog 21 [.agg [I 3,I a,I b,I c,L ds,L p]] (T (bs (z8 [[xA,Qr],[Zm,zG a]]))):=by
 have hl:=ZeI xA Qr DV DV;have hn:=ZbN Zm DV a e;have d:=ut (z:=a) (by unfold zT;omega);have f:z8 [[xA,Qr],[Zm,zG a]]=(zQ [xA,Qr]++[10])++(zQ [Zm,zG a]++[10]):=by simp[z8]
 have hs:=YG (zQ [xA,Qr]++[10]) (zQ [Zm,zG a]++[10]) (by simp[zQ];omega);rw[f];generalize zQ [xA,Qr]++[10]=z at *;generalize zQ [Zm,zG a]++[10]=y at *;refine zx func21 ntmps21 results21 λS nx g=>?_
 refine DY ?_;intro v0
 repeat apply ze
 refine zg ?_;refine zn (DY ?_);refine zp DP ?_;refine DY ?_;refine zp DP ?_;refine DY ?_;refine zo DP ?_;refine ze (zD (some [nx]) (Row.pures [0,1,2,3,4,5,6] .done) mixed hs ?_);refine zO (hl) hs ?_;refine zO (hn) hs ?_;exact DZ g
theorem Zv3(r:Rep)(h4:r.out=4)(h:RepTold r):Pure prog 21 [.agg (Qt r)] (T (bs (z8 (uv r)))):=by
 obtain⟨o,bd,g,ho,ds,p⟩:=r;obtain rfl:o=4:=h4;obtain⟨hb,hc,hh,hn,j,x⟩:=h;simp only at hb hc hh hn j x;have f:z8 (uv ⟨4,bd,g,ho,ds,p⟩)=(zQ [xA,Yf]++[10])++((zQ [Zm,zG bd]++[10])++((zQ [Zbz,zG g]++[10])++((zQ [ZbA,zG ho]++[10])++(z8 (uQ ds)++z8 (wG p))))):=by
  unfold uv;simp[ul,ZbC]
 have d2:(z8 (uv ⟨4,bd,g,ho,ds,p⟩)).length<=100000100500:=by
  have e1:=ZbD x;have e2:=VC (ls:=uQ ds) (m:=64) λl hl=>by
   obtain⟨i,hi,rfl⟩:=Al.1 hl;have q1:=wu (n:=i) (by have:=AK.1 hi;omega);have q2:=ut (z:=ds.getD i 0) (by
    rw[Aa];cases e:ds[i]? with
    | none=>simp;unfold zT;omega
    | some z=>have:=j z (Ab e);simp;unfold zT;omega)
   generalize zG (ds.getD i 0)=u at *;generalize zM i=v at *;simp[zQ];omega
  have e3:(uQ ds).length=ds.length:=by simp[uQ]
  have b1:=ut (z:=bd) (by unfold zT;omega);have b2:=ut (z:=g) (by unfold zT;omega);have b3:=ut (z:=ho) (by unfold zT;omega);rw[f];simp[zQ];omega
 generalize z8 (uv ⟨4,bd,g,ho,ds,p⟩)=Z at *;have a6:=ZeI xA Yf DV DV;have a7:=ZbN Zm DV bd hb;have a8:=ZbN Zbz DV g hc;have a9:=ZbN ZbA DV ho hh;have b7:=ZvZ p x;have y:zQ [xA,Yf]++[10]≠[]:=DP
 generalize zQ [xA,Yf]++[10]=l0 at *;generalize zQ [Zm,zG bd]++[10]=l1 at *;generalize zQ [Zbz,zG g]++[10]=l2 at *;generalize zQ [ZbA,zG ho]++[10]=l3 at *;generalize z8 (wG p)=R at *;obtain⟨c1,e1⟩:∃c,c=l0++l1:=⟨_,rfl⟩;obtain⟨c2,e2⟩:∃c,c=c1++l2:=⟨_,rfl⟩;obtain⟨c3,e3⟩:∃c,c=c2++l3:=⟨_,rfl⟩;have q:Z=c1++(l2++(l3++(z8 (uQ ds)++R))):=by rw[f,e1];simp
 have t:Z=c2++(l3++(z8 (uQ ds)++R)):=by rw[q,e2];simp
 have a0:Z=c3++(z8 (uQ ds)++R):=by rw[t,e3];simp
 have d:∀(S:Store) (nx b wx:Nat) (pp:PV) (l m:List UInt8),l.length+m.length<=Z.length->S (nx+1)=.cells b 113 [pp,.sl (nx+2) wx 1 0 l.length]->(pp=.sc (.pointer none)\/pp=.ptr (nx+1) b 0)->S (nx+2)=.cells wx 5 (l.map U8)->_:=λS nx b wx pp l m hl h1 x h2=>Zeg (S:=S) (id:=nx+1) (v:=b) (ib:=nx+2) (w0:=wx) (p:=pp) l m h1 x h2 DO
 show Pure _ _ [.agg [I 4,I bd,I g,I ho,L ds,L p]] _
 refine zx func21 ntmps21 results21 λS nx hd=>?_
 refine DY ?_;intro v0
 repeat apply ze
 refine zg ?_;refine zn (DY ?_);refine zp DP ?_;refine DY ?_;refine zp DP ?_;refine DY ?_;refine zp DP ?_;refine DY ?_;refine zo DP ?_;refine DY ?_;intro b;refine jd 1 1 5 1 rfl rfl λwb=>?_
 refine DY ?_;refine zv a6 ?_;refine λa=>((d _ nx b wb _ [] l0 (by rw[f];simp) (by rw[zY];rfl) (.inl rfl) (by rw[zY];rfl)).mono ?_).v
 rintro _ _ ⟨rfl,rfl⟩;refine⟨_,_,Wx,zR a ?_⟩;refine DY ?_;refine zv a7 ?_;refine λa=>((d _ nx b (wb+1) _ l0 l1 (by rw[f];simp) (by rw[zY];rfl) (.inr rfl) (by rw[zY];rfl)).mono ?_).v
 rintro _ _ ⟨rfl,rfl⟩;rw[<-e1];refine⟨_,_,Wx,zR a ?_⟩;refine DY ?_;refine zv a8 ?_;refine λa=>((d _ nx b (wb+1+1) _ c1 l2 (by rw[q];simp) (by rw[zY];rfl) (.inr rfl) (by rw[zY];rfl)).mono ?_).v
 rintro _ _ ⟨rfl,rfl⟩;rw[<-e2];refine⟨_,_,Wx,zR a ?_⟩;refine DY ?_;refine zv a9 ?_;refine λa=>((d _ nx b (wb+1+1+1) _ c2 l3 (by rw[t];simp) (by rw[zY];rfl) (.inr rfl) (by rw[zY];rfl)).mono ?_).v
 rintro _ _ ⟨rfl,rfl⟩;rw[<-e3];refine⟨_,_,Wx,zR a ?_⟩
 repeat apply ze
 refine zg ?_;have b8:∀k,k<ds.length->((List.range ds.length).drop k).map (λi=>[xX,zM i,zG (ds.getD i 0)])=[xX,zM k,zG (ds.getD k 0)] :: ((List.range ds.length).drop (k+1)).map (λi=>[xX,zM i,zG (ds.getD i 0)]):=λk hk=>by
  rw[AJ (by simpa using hk)];simp
 refine zn (zK (λs:Nat × Nat × List UInt8=>s.1<=ds.length/\Z=s.2.2++(z8 (((List.range ds.length).drop s.1).map (λi=>[xX,zM i,zG (ds.getD i 0)]))++R)) (λ(k,w,c)=>[(1,.ptr nx v0 0),(3,.ptr (nx+1) b 0),(44,L ds),(45,I ds.length),(46,I k)]) (λ(k,w,c)=>[.cells v0 32 [I 4,I bd,I g,I ho,L ds,L p],.cells b 113 (YO (nx+1) b (nx+2) w c.length),.cells w 5 (c.map U8)]) (λs=>ds.length-s.1) (0,wb+1+1+1+1,c3) [] (by simp[a0,uQ]) DP DP ?_);clear q t a0 e1 e2 e3;rintro⟨k,w,c⟩ ⟨hk,hZ⟩;simp only at hk hZ ⊢;refine DY ?_;refine ze (zA rfl (λhc=>?_) (λhc=>?_))
 ·simp at hc;obtain⟨z,tl,a1,a2,a3,f0⟩:=zN rfl ds k hc;have hz:=j z (Ab a1);have c6:=Xi k DO;have c7:=Zv0 z hz;have c8:ds.getD k 0=z:=by rw[Aa,a1];rfl
  rw[b8 k hc,c8,ul]at hZ;have q1:=wu (n:=k) DO;have q2:=ut (z:=z) (by unfold zT;omega);have d0:Pure prog 59 [.lst 3 [T (bs xX),T (bs (zM k)),T (bs (zG z))]] (T (bs (zQ [xX,zM k,zG z]++[10]))):=Wi [xX,zM k,zG z] DP (by simp[zQ];omega);obtain⟨c',e'⟩:∃c',c'=c++(zQ [xX,zM k,zG z]++[10]):=⟨_,rfl⟩;have a4:Z=c'++(z8 (((List.range ds.length).drop (k+1)).map (λi=>[xX,zM i,zG (ds.getD i 0)]))++R):=by rw[hZ,e'];simp
  generalize zQ [xX,zM k,zG z]++[10]=ln at *;generalize zM k=dk at *;generalize zG z=dz at *;refine zk (ze (zn (ze (zi [] (zq f0 hc) ?_))));refine zg ?_;refine zv c6 ?_;refine zv c7 ?_;refine zv d0 ?_;refine λa=>((d _ nx b w _ c ln (by rw[a4,e'];simp) (by rw[zY];rfl) (.inr rfl) (by rw[zY];rfl)).mono ?_).v
  rintro _ _ ⟨rfl,rfl⟩;rw[<-e'];refine⟨_,_,Wx,zR a ?_⟩;refine zg ?_;exact zu (k+1,w+1,c') [] ⟨hc,a4⟩ DO (by simp[zy k (by omega)]) rfl rfl
 ·simp at hc;obtain rfl:k=ds.length:=DO
  refine zC ?_;have a5:Z=c++R:=by rw[hZ,AX DP];simp[z8]
  clear hZ;have d1:Z≠[]:=by rw[f];simp[y]
  refine DY ?_;refine zv b7 ?_;refine DY ?_;refine λa=>((d _ nx b w _ c R (by rw[a5];simp) (by rw[zY];rfl) (.inr rfl) (by rw[zY];rfl)).mono ?_).v
  rintro _ _ ⟨rfl,rfl⟩;rw[<-a5];refine⟨_,_,Wx,zR a ?_⟩;refine DY ?_;refine λa=>((Zef (id:=nx+1) (v:=b) (ib:=nx+2) (w0:=w+1) (p:=.ptr (nx+1) b 0) Z (by rw[zY];rfl) (by rw[zY];rfl) d1 DO).mono ?_).v
  rintro _ _ ⟨rfl,rfl⟩;rw[yl _ DO DP];refine⟨_,_,rfl,zR a ?_⟩;exact DZ hd
open Go Go.Proofs
theorem VH(z:Int)(h0:0<=z/\z<=9223372036854775807):Pure prog 53 [I z] (T (bs (zG z))):=by
 have:=Q9 z.toNat DO
 rwa[Cr h0.1]at this
abbrev Zkq:List UInt8:=[111,117,116,99,111,109,101,32,110,111,110,101]
abbrev Zkr:List UInt8:=[111,117,116,99,111,109,101,32,112,108,97,110]
abbrev ZbO:List UInt8:=[10,98,111,117,110,100,32]
abbrev Zks:List UInt8:=[99,111,115,116,32]
abbrev Zkt:List UInt8:=[10,104,111,108,100,105,110,103,32]
theorem Zv4(a b c:Int)(ds:List Int)(p:zH):Pure prog 28 [.agg [I 1,I a,I b,I c,L ds,L p]] (T (bs (zQ [xA,Zby]++[10]))):=by
 refine zx func28 ntmps28 results28 λS nx d=>?_
 repeat apply ze
 refine zg ?_;intro v0
 (repeat apply ze);refine zg ?_;intros
 repeat apply ze
 refine zo DP ?_
 (repeat apply ze);refine zg ?_;intros
 repeat apply ze
 exact DZ d
theorem Zv5(a b c:Int)(ds:List Int)(p:zH):Pure prog 28 [.agg [I 2,I a,I b,I c,L ds,L p]] (T (bs (zQ [xA,VB]++[10]))):=by
 refine zx func28 ntmps28 results28 λS nx d=>?_
 repeat apply ze
 refine zg ?_;intro v0
 (repeat apply ze);refine zg ?_;intros
 repeat apply ze
 refine zp DP ?_;refine zk ?_
 (repeat apply ze);refine zg ?_;intros
 repeat apply ze
 refine zo DP ?_
 (repeat apply ze);refine zg ?_;intros
 repeat apply ze
 exact DZ d
theorem Zv6(a b c:Int)(ds:List Int)(p:zH)(i:0<=a/\a<=9223372036854775807):Pure prog 28 [.agg [I 3,I a,I b,I c,L ds,L p]] (T (bs (z8 [[xA,Qr],[Zm,zG a]]))):=by
 have d:=ut (z:=a) (by unfold zT;omega);have f:=VH a i;have g:z8 [[xA,Qr],[Zm,zG a]]=Zkq++((ZbO++zG a)++[10]):=by simp[z8,zQ]
 rw[g];obtain⟨j,e,k⟩:=jx ZbO (zG a) DT;obtain⟨l,e2,m⟩:=jx j [10] (by rw[e];simp;omega);obtain⟨o,h,a3⟩:=jx Zkq l (by rw[e2,e];simp;omega);rw[<-e,<-e2,<-h];clear e e2 h g d;generalize zG a=dz at *;refine zx func28 ntmps28 results28 λS nx n=>?_
 repeat apply ze
 refine zg ?_;intro v0
 (repeat apply ze);refine zg ?_;intros
 repeat apply ze
 refine zp DP ?_;refine zk ?_
 (repeat apply ze);refine zg ?_;intros
 repeat apply ze
 refine zp DP ?_;refine zk ?_
 repeat apply ze
 refine zg ?_;refine yW [] f (zq k m) ?_;intros
 (repeat apply ze);refine zg ?_;intros
 repeat apply ze
 refine zo DP ?_
 repeat apply ze
 refine zi [] a3 ?_;intros
 repeat apply ze
 exact DZ n
theorem Zv7(r:Rep)(h4:r.out=4)(h:RepTold r):Pure prog 28 [.agg (Qt r)] (T (bs (z8 (uv r)))):=by
 obtain⟨o,bd,g,ho,ds,p⟩:=r;obtain rfl:o=4:=h4;obtain⟨hb,hc,hh,hn,t,hp⟩:=h;simp only at hb hc hh hn t hp;have f:z8 (uv ⟨4,bd,g,ho,ds,p⟩)=((((((Zkr++((ZbO++zG bd)++[10]))++Zks)++zG g)++Zkt)++zG ho)++[10])++(z8 (uQ ds)++z8 (wG p)):=by
  unfold uv;simp[ul,ZbC,zQ]
 have y:(z8 (uv ⟨4,bd,g,ho,ds,p⟩)).length<=100000100500:=by
  have b:=ZbD hp;have e2:=VC (ls:=uQ ds) (m:=64) λl hl=>by
   obtain⟨i,hi,rfl⟩:=Al.1 hl;have q1:=wu (n:=i) (by have:=AK.1 hi;omega);have q2:=ut (z:=ds.getD i 0) (by
    rw[Aa];cases e:ds[i]? with
    | none=>simp;unfold zT;omega
    | some z=>have:=t z (Ab e);simp;unfold zT;omega)
   generalize zG (ds.getD i 0)=u at *;generalize zM i=v at *;simp[zQ];omega
  have d:(uQ ds).length=ds.length:=by simp[uQ]
  have b1:=ut (z:=bd) (by unfold zT;omega);have b2:=ut (z:=g) (by unfold zT;omega);have b3:=ut (z:=ho) (by unfold zT;omega);rw[f];simp;omega
 generalize z8 (uv ⟨4,bd,g,ho,ds,p⟩)=Z at *;have a0:=VH bd hb;have a9:=VH g hc;have b7:=VH ho hh;have b8:=ZvY p hp;have a:=congrArg List.length f;simp only[Am]at a;obtain⟨q1,b,x⟩:=jx ZbO (zG bd) (by simp at a ⊢;omega);obtain⟨q2,e2,a2⟩:=jx q1 [10] (by rw[b];simp at a ⊢;omega);obtain⟨q3,d,a3⟩:=jx Zkr q2 (by rw[e2,b];simp at a ⊢;omega);obtain⟨q4,j,a4⟩:=jx q3 Zks (by rw[d,e2,b];simp at a ⊢;omega);obtain⟨q5,q,a5⟩:=jx q4 (zG g) (by rw[j,d,e2,b];simp at a ⊢;omega);obtain⟨q6,e6,a6⟩:=jx q5 Zkt (by rw[q,j,d,e2,b];simp at a ⊢;omega);obtain⟨q7,e7,a7⟩:=jx q6 (zG ho) (by rw[e6,q,j,d,e2,b];simp at a ⊢;omega);obtain⟨q8,e8,a8⟩:=jx q7 [10] (by rw[e7,e6,q,j,d,e2,b];simp at a ⊢;omega);rw[<-b,<-e2,<-d,<-j,<-q,<-e6,<-e7,<-e8]at f;clear a b e2 d j q e6 e7 e8;generalize z8 (wG p)=R at *;generalize zG bd=db at *;generalize zG g=dc at *;generalize zG ho=dh at *
 show Pure _ _ [.agg [I 4,I bd,I g,I ho,L ds,L p]] _
 refine zx func28 ntmps28 results28 λS nx hd=>?_
 repeat apply ze
 refine zg ?_;intro v0
 (repeat apply ze);refine zg ?_;intros
 repeat apply ze
 refine zp DP ?_;refine zk ?_
 (repeat apply ze);refine zg ?_;intros
 repeat apply ze
 refine zp DP ?_;refine zk ?_
 repeat apply ze
 refine zg ?_;refine yW [] a0 (zq x a2) ?_;intros
 (repeat apply ze);refine zg ?_;intros
 repeat apply ze
 refine zp DP ?_;refine zk ?_
 repeat apply ze
 refine zD (some [nx]) (Row.pures [0,1,2,3,4,5,6,7,8,9,10,11,12,13] .done) mixed (zq a3 a4) ?_;refine zO (a9) (zS a3 a4 a5 a6) ?_;refine zO (b7) (zW a3 a4 a5 a6 a7 a8) ?_;intros
 (repeat apply ze);refine zg ?_;intros
 have c6:∀k,k<ds.length->((List.range ds.length).drop k).map (λi=>[xX,zM i,zG (ds.getD i 0)])=[xX,zM k,zG (ds.getD k 0)] :: ((List.range ds.length).drop (k+1)).map (λi=>[xX,zM i,zG (ds.getD i 0)]):=λk hk=>by
  rw[AJ (by simpa using hk)];simp
 repeat apply ze
 refine zn (zK (λs:Nat × List UInt8=>s.1<=ds.length/\Z=s.2++(z8 (((List.range ds.length).drop s.1).map (λi=>[xX,zM i,zG (ds.getD i 0)]))++R)) (λ(k,c)=>[(1,.ptr nx v0 0),(3,T (bs c)),(4,I k)]) (λ_=>[.cells v0 32 [I 4,I bd,I g,I ho,L ds,L p]]) (λs=>ds.length-s.1) (0,q8) [] (by simp[f,uQ]) DP DP ?_);clear f x a2 a3 a4 a5 a6 a7 a8;rintro⟨k,c⟩ ⟨hk,hZ⟩;simp only at hk hZ ⊢
 (repeat apply ze);refine zg ?_;intros
 repeat apply ze
 refine zA rfl (λhc=>?_) (λhc=>?_)
 ·simp at hc;obtain⟨z,tl,b1,b2,b3,f0⟩:=zN rfl ds k hc;have hz:=t z (Ab b1);have c7:=Q9 k DO;have c8:=VH z hz;have d0:ds.getD k 0=z:=by rw[Aa,b1];rfl
  rw[c6 k hc,d0,ul]at hZ;have w:Z=(((((c++[100,97,121,32])++zM k)++[32])++zG z)++[10])++(z8 (((List.range ds.length).drop (k+1)).map (λi=>[xX,zM i,zG (ds.getD i 0)]))++R):=by
   rw[hZ];simp[zQ]
  have a:=congrArg List.length w;simp only[Am]at a;obtain⟨q1,b,x⟩:=jx c [100,97,121,32] (by simp at a ⊢;omega);obtain⟨q2,e2,a2⟩:=jx q1 (zM k) (by rw[b];simp at a ⊢;omega);obtain⟨q3,d,a3⟩:=jx q2 [32] (by rw[e2,b];simp at a ⊢;omega);obtain⟨q4,j,a4⟩:=jx q3 (zG z) (by rw[d,e2,b];simp at a ⊢;omega);obtain⟨q5,q,a5⟩:=jx q4 [10] (by rw[j,d,e2,b];simp at a ⊢;omega);rw[<-b,<-e2,<-d,<-j,<-q]at w;clear a hZ b e2 d j q;generalize zM k=dk at *;generalize zG z=dz at *;refine zk (ze (zn ?_))
  repeat apply ze
  refine zD (some [nx]) (Row.pures [0,1,2,3,4,5,6,7,8,9,10,11,12,13,14] .done) mixed (zF x f0 hc) ?_;refine zO (c7) (yr x a2 a3 f0 hc) ?_;refine zO (c8) (zW x a2 a3 a4 a5 (zq f0 hc)) ?_;intros
  (repeat apply ze);refine zg ?_;intros
  exact zu (k+1,q5) [] ⟨hc,w⟩ DO (by simp[zy k (by omega)]) rfl rfl
 ·simp at hc;obtain rfl:k=ds.length:=DO
  refine zC ?_;have d1:Z=c++R:=by rw[hZ,AX DP];simp[z8]
  have d2:yC .add (bs c) (bs R)=some (.string (bs Z)):=by rw[d1]at y ⊢;exact YG c R (by simp at y ⊢;omega)
  repeat apply ze
  refine zg ?_;refine zv b8 ?_;intros
  repeat apply ze
  refine zi [] d2 ?_;intros
  repeat apply ze
  exact DZ hd
open Go Go.Proofs Hp
theorem Zv8(x:Int):0<=Jn x/\Jn x<=127:=by
 have key:∀z:Int,0<=bits BinOp.and IntKind.i64 z 127/\bits BinOp.and IntKind.i64 z 127<=127:=λz=>by
  show 0<=IntKind.i64.wrap ((BitVec.ofInt 64 z &&& BitVec.ofInt 64 127).toNat:Int)/\IntKind.i64.wrap ((BitVec.ofInt 64 z &&& BitVec.ofInt 64 127).toNat:Int)<=127
  have:(BitVec.ofInt 64 z &&& BitVec.ofInt 64 127).toNat<=127:=by rw[BitVec.toNat_and];exact Nat.and_le_right
  rw[AA];omega
 exact key _
theorem Zku(ps:List Nat):∀k,0<=Zo ps k/\Zo ps k<=127
 | 0=>by simp[Zo]
 | k+1=>by
  have:=Zku ps k;have:=Zv8 (ps.getD k 0);unfold Zo ZbG;split<;>omega
theorem Zv9{c:Cust}(h:CustFits c){n cap:Int}(h1:1<=n)(hn:n<=60):0<=ux c n cap/\ux c n cap<=127:=by
 unfold ux;split
 ·exact Zku _ _
 ·split
  ·omega
  ·split
   ·omega
   ·rename_i hm;have e:=h.rate;have hs:=h.start;have a:0<=Yg c n/\Yg c n<=1000000000000:=by
     have d:0<=c.rate*n/\c.rate*n<=2147483648*60:=⟨CW DO DO,CX DO hn DO DO⟩;have e2:W (c.rate*n)=c.rate*n:=wr _ DO DO;have b:W (c.rate*n-c.start)=c.rate*n-c.start:=wr _ DO DO;unfold Yg jy;rw[e2,b];split<;>omega
    generalize Yg c n=w at *;have hc:0<=Qu w (jJ cap c.size):=by
     generalize jJ cap c.size=m at *;have d:0<=w.tdiv m/\w.tdiv m<=w:=by
      rw[BS a.1];exact⟨Int.ediv_nonneg a.1 DO,Int.ediv_le_self _ a.1⟩
     have e2:W (w.tdiv m)=w.tdiv m:=wr _ DO DO;have b:W (w.tdiv m+1)=w.tdiv m+1:=wr _ DO DO;unfold Qu;rw[e2,b];split<;>omega
    generalize Qu w (jJ cap c.size)=z at *;unfold jJ;split<;>omega
theorem Zkv{x:Inst}(h:qQ x)(c:Nat):∀k,0<=Zp x c k/\Zp x c k<=2147483648
 | 0=>h _ _
 | k+1=>by
  have:=Zkv h c k;have:=h (k:Int) (c:Int);unfold Zp jJ;split
  ·split<;>omega
  ·omega
theorem Zkw{f:Nat->Int}:∀k,(∀i,i<k->0<=f i)->0<=wR f k
 | 0,_=>by simp[wR]
 | k+1,h=>by
  have:=Zkw k λi hi=>h i DO
  have:=h k DO;unfold wR w8;split
  ·omega
  ·split<;>omega
theorem ZeJ{x:Inst}{n:Nat}(h:InstQ x n)(l:List Int):0<=Ww x n l/\Ww x n l<=9223372036854775807:=by
 have c:=h.k.a;obtain⟨-,-,e,-⟩:=VA (Jm h.m).dist;have hb:0<=Jq x:=Zkw _ λi hi=>by
  have hc:x.cust.getD i default∈x.cust:=by rw[Aa,Ac hi];exact Bc hi
  have h1:=h.t.n1;have h2:=c.n60;have p:=c.days;have q:=Zv9 (c.made _ hc).fits (n:=x.days) (cap:=x.cap) DO DO;have e2:0<=(wv x).getD i 0/\(wv x).getD i 0<=2147483648:=by
   have:(wv x).getD i 0=Zp x (i+1) (x.cust.length+1):=by unfold wv;simp[Aa,hi]
   rw[this];exact Zkv e _ _
  generalize ux (x.cust.getD i default) x.days x.cap=f at *;generalize (wv x).getD i 0=g at *;have j:0<=g*f/\g*f<=2147483648*127:=⟨CW DO DO,CX DO DO DO DO⟩;have o:W (g*f)=g*f:=wr _ DO DO;rw[o];exact j.1
 have d:zT (Jq x):=by
  unfold Jq;cases x.cust.length with
  | zero=>exact VF
  | succ k=>exact Zex _ _
 have hv:∀a b,zT (Jr x n a b):=λa b=>Zex _ _
 unfold Ww Wv Ws;generalize xZ x _=a;generalize (wI x n _ _).i=b;have:=hv a b;unfold zT at this d;unfold jy;split<;>omega
theorem Zwa{x:Inst}{n:Nat}{p:zH}(h:PlanG x n p):PlanTold p:=by
 have f:=h.six;have e:=h.a.n60;have b:=λd b=>Jg (x:=x) DO (h.may d b)
 refine⟨by rw[h.len];omega,λd q=>by have:=b d q;omega,λd q t c=>?_,λd q t c s hs=>?_⟩
 ·have:=(List.sublist_flatten_of_mem c).length_le;have:=b d q;omega
 ·have:=Za2 (h.may d q) s (Bt.2 ⟨t,c,hs⟩);simp[jM]at this;omega
theorem Zwb{x:Inst}{n:Nat}(h:InstQ x n):∀c∈x.cust,CustSm c:=λc hc=>by
 rcases Zbx ((Jm h.m).custs c hc) with ⟨k,a,b,l,r1,r2,r3,r4,r5⟩ | ⟨k,q,s,t,d,ho,e,f⟩
 ·exact⟨by omega,by omega,by omega⟩
 ·exact⟨by omega,by omega,by omega⟩
theorem Zkx{x:Inst}{n:Nat}(h:InstQ x n)(l:List Int):RepTold (uS x n l):=by
 have hb:=ZeJ h l;have o:=h.k.a;have w:=h.six;unfold uS Wr;split
 ·rename_i hf;have r:(wy x n l).2=0:=by
   unfold Zn at hf;split at hf
   ·assumption
   ·rename_i q;exact absurd hf q
  have g:=Zkj h (xY l) (yv l 1).toNat (yv l 2) r;obtain⟨-,-,e,-⟩:=VA (Jm h.m).dist;have b:=Zwb h;have j:=g.len;have s:=o.n60;have y:=Zd8 b (wy x n l).1 x.cust.length;have t:=ZsY e b DO (p:=(wy x n l).1) (by show (Qq x n _ _ _).1.length<=1000;omega) g.may;have u:=Zd9 e (wy x n l).1 λd c=>by have:=Jg (x:=x) DO (g.may d c);omega
  have f:zT (xI x (wy x n l).1):=Qy _;have i:∀d∈(wy x n l).1,0<=W (yx x d)/\W (yx x d)<=9223372036854775807:=λd c=>by
   have:=Jg (x:=x) DO (g.may d c);have h3:=Zc5 e d;have:W (yx x d)=yx x d:=wr _ DO DO;omega
  refine⟨hb,?_,?_,?_,?_,Zwa g⟩
  ·unfold zT at f
   show 0<=xI x (wy x n l).1/\xI x (wy x n l).1<=9223372036854775807
   omega
  ·have:W (xu x (wy x n l).1 x.cust.length)=xu x (wy x n l).1 x.cust.length:=wr _ DO DO
   show 0<=W _/\W _<=_
   omega
  ·show (wh x _).length<=1000
   unfold wh;rw[List.length_map]
   show (Qq x n _ _ _).1.length<=1000
   omega
  ·intro z v;obtain⟨d,c,rfl⟩:=Al.1 v;exact i d c
 ·exact⟨hb,by simp,by simp,by simp,by simp,⟨by simp,by simp,by simp,by simp⟩⟩
theorem Zky{x:Inst}{n:Nat}(h:InstQ x n)(l:List Int):Pure prog 21 [.agg (Qt (uS x n l))] (T (bs (z8 (uv (uS x n l))))):=by
 have a:=Zkx h l;have hb:=ZeJ h l;unfold uS Wr at a ⊢;split at a
 ·rename_i hf;rw[if_pos hf];exact Zv3 _ rfl a
 ·rename_i hf;rw[if_neg hf];exact Zv2 _ _ _ _ _ hb
theorem Zwc{x:Inst}{n:Nat}(h:InstQ x n)(l:List Int):Pure prog 39 [T (bs (z8 (xg x))),L l] (T (bs (z8 (uv (uS x n l))))):=by
 have h1:=Zkk h l;have h2:=Zky h l;generalize z8 (uv (uS x n l))=z at *;generalize z8 (xg x)=t at *;generalize uS x n l=r at *;refine zx func39 ntmps39 results39 λS nx a=>?_
 refine DY ?_;refine DY ?_;refine zv h1 ?_;refine zv h2 ?_;exact DZ a
open Go Go.Proofs Hp
theorem Zwd{x:Inst}{n:Nat}(h:InstQ x n)(l:List Int):Pure prog 28 [.agg (Qt (uS x n l))] (T (bs (z8 (uv (uS x n l))))):=by
 have a:=Zkx h l;have hb:=ZeJ h l;unfold uS Wr at a ⊢;split at a
 ·rename_i hf;rw[if_pos hf];exact Zv7 _ rfl a
 ·rename_i hf;rw[if_neg hf];exact Zv6 _ _ _ _ _ hb
theorem Zwe{e:Int}(h:e=2\/e=3):∃z:List UInt8,Pure prog 21 [.agg (Qt (VE e))] (T (bs z))/\Pure prog 28 [.agg (Qt (VE e))] (T (bs z)):=by
 rcases h with rfl | rfl
 ·exact⟨_,Zkg,Zv4 0 0 0 [] []⟩
 ·exact⟨_,Zv1 0 0 0 [] [],Zv5 0 0 0 [] []⟩
theorem Zwf(x:Inst)(l:List Int)(t:List UInt8)(hx:InstOk x):Pure prog 7 [.agg (zE x),L l,T (bs t)] (B true):=by
 have j:=ZvP;have hG:=Zmw x hx;have k:=ZvQ l;obtain⟨n,hn⟩:∃n:Nat,(yO x).days=n:=⟨(yO x).days.toNat,by have:=Vj x;omega⟩;have i:=ZuK x hn;have p:=ZvK (Zka i);have r:=Zkk i (QE l);have s:=Zwc i (QE l);have v:=Zky i (QE l);have m:=Zwd i (QE l);generalize z8 (uv (uS (yO x) n (QE l)))=z at *;generalize uS (yO x) n (QE l)=rp at *;generalize z8 (xg (yO x))=tx at *;generalize yO x=y at *;generalize QE l=sl at *;clear i hn hx;have a:=vQ (bs z);have d:=xU t;have f:=Wh t 0 200;rw[Dl]at f;obtain⟨u,hu⟩:∃u,u=t.take 200:=⟨_,rfl⟩;rw[<-hu]at f;have o:u.length<=1048576:=by rw[hu,Ax];omega
 have g:=ZuP u o;refine zx func7 ntmps7 results7 λS nx hd=>?_
 repeat apply ze
 refine zg ?_;intro v0
 repeat apply ze
 refine zg ?_;refine zv hG ?_;intro v1;intros
 repeat apply ze
 refine zg ?_;refine zv p ?_;intros
 repeat apply ze
 refine zg ?_;refine zv k ?_;refine zv r ?_;intro v2;intros
 repeat apply ze
 refine zD (some [nx+2]) (Row.pures [0,1,2,3,4,5,6,7,8,9,10,11,12,13] .done) mixed a ?_;refine zO (v) a ?_;refine zO (m) a ?_;refine zO (k) a ?_;refine zO (s) a ?_;refine zO (m) a ?_;intros
 repeat apply ze
 refine zp DP ?_;refine zk (ze (qy (nx:=nx) (σ:=Unit) (λ_=>True) (λ_=>[(1,L l),(2,T (bs u))]) (λ_=>S) (λ_=>[]) ?_ ?_))
 ·by_cases h:200<t.length
  ·have h':(200:Int)<(t.length:Int):=DO
   have h6:200<=t.length:=DO
   repeat apply ze
   refine zi [] (zF d h h') ?_;intros
   repeat apply ze
   refine zo DP ?_
   repeat apply ze
   refine zi [] (zF d f h6) ?_;intros;exact zZ () [_,_,_] trivial DP rfl rfl
  ·have h':¬(200:Int)<(t.length:Int):=DO
   have a0:u=t:=by rw[hu];exact Af DO
   repeat apply ze
   refine zi [] (zF d h h') ?_;intros
   repeat apply ze
   refine zp DP ?_;exact zk (zZ () [_,_,_] trivial (by simp[a0]) rfl rfl)
 ·rintro⟨⟩ -;rcases ZvU u with ⟨h0,-,-⟩ | b
  ·rw[h0]at g;generalize (yF u).1=w at *
   repeat apply ze
   refine zg ?_;refine zv g ?_;intro v3;intros
   (repeat apply ze);refine zg ?_;intros
   repeat apply ze
   refine zo DP ?_
   repeat apply ze
   refine zg ?_;refine zv j ?_;intros
   repeat apply ze
   exact DZ hd
  ·have a1:=ZjS u o l (by rcases b with q | q<;>rw[q]<;>decide);obtain⟨zz,f1,f2⟩:=Zwe b;have a2:¬(yF u).2=0:=by rcases b with q | q<;>rw[q]<;>decide
   generalize (yF u).1=w at *;generalize VE (yF u).2=rf at *;generalize (yF u).2=e at *;have c:=Wm (bs zz)
   repeat apply ze
   refine zg ?_;refine zv g ?_;intro v3;intros
   (repeat apply ze);refine zg ?_;intros
   repeat apply ze
   refine zp (by simp[a2]) ?_;refine zk ?_
   repeat apply ze
   refine zg ?_;refine zv a1 ?_;intro v4;intros
   repeat apply ze
   refine zD (some [nx+1]) (Row.pures [0,1,2,3,4,5,6,7,8] .done) mixed c ?_;refine zO (f1) c ?_;refine zO (f2) c ?_;refine zO (j) c ?_;intros
   repeat apply ze
   exact DZ hd
theorem Zwg(x:Inst)(l:List Int)(b:ByteArray)(hx:InstOk x):Pure prog 7 [.agg (zE x),L l,T b] (B true):=Zwf x l b.data.toList hx
end Go.Proofs.YtcocagkbfpgmiaaGreatDoor.Pv
