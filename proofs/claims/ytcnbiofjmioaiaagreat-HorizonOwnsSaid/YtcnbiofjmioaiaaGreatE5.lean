/- Part of a proof, packed. -/
import Derived.Test.YtcnbiofjmioaiaaGreatE4
set_option maxRecDepth 100000
set_option maxHeartbeats 3200000
namespace Go.Proofs.YtcnbiofjmioaiaaGreat.Pv
open Go Go.Proofs
theorem Xw {α:Type} {W:Nat->List α} {n k i:Nat} {x:α} (hk:k<n) (h:(W k)[i]?=some x):((List.range n).flatMap W)[((List.range k).flatMap W).length+i]?=some x:=by
 obtain ⟨m,rfl⟩:∃m,n=k+(m+1):=⟨n-k-1,by omega⟩
 have hi:=(List.getElem?_eq_some_iff.1 h).1
 rw [List.range_add,List.flatMap_append,List.getElem?_append_right (Nat.le_add_right _ _),Nat.add_sub_cancel_left,List.range_succ_eq_map]
 simp only [List.map_cons,List.flatMap_cons,Nat.add_zero]
 rw [List.getElem?_append_left hi]
 exact h
theorem Xx {α:Type} (W:Nat->List α) (k:Nat):((List.range (k+1)).flatMap W).length=((List.range k).flatMap W).length+(W k).length:=by
 rw [List.range_succ,List.flatMap_append,List.length_append];simp
def uX (d:zj) (k a b i j:Nat):Option Mv:=if jK d ⟨k,a,b,i,j⟩=true then some ⟨k,a,b,i,j⟩ else none
def vG (d:zj) (k a b i:Nat):List Mv:=(List.range (tlen d b+1)).filterMap (uX d k a b i)
def um (d:zj) (k a b:Nat):List Mv:=(List.range (tlen d a+1)).flatMap (vG d k a b)
def Zt (d:zj) (k a:Nat):List Mv:=(List.range d.length).flatMap (um d k a)
def un (d:zj) (k:Nat):List Mv:=(List.range d.length).flatMap (Zt d k)
def uo (d:zj):List Mv:=(List.range 4).flatMap (un d)
abbrev Yc (m:Mv):List PV:=[.agg (xV m)]
theorem Zkw (d:zj) (k a b:Nat) (hdn:d.length<=1048576) (hdt:∀t∈d,t.length<=1000) (hk:k<=3) (ha:a<d.length) (hb:b<d.length) :
  Xn Tryz.prog 182 (fun y=>[.agg [L d],.agg [I k,I a,I b,I 0,I 0],jf y]) ((um d k a b).map Yc) (B true):=by
 refine ZcJ Tryz.func182 (by rfl) rfl Tryz.ntmps182 (congrArg Array.toList Tryz.results182) (by simp) fun y V keep nx J hJd hY A0 hA0=>?_
 obtain ⟨ta,xa,a1,-,-,a0⟩:=zC rfl d a ha
 obtain ⟨tb,xb,b1,-,-,b0⟩:=zC rfl d b hb
 have ha1:1<=d.length-a:=by omega
 have hb1:1<=d.length-b:=by omega
 have la:tlen d a=ta.length:=by unfold tlen;rw [List.getD_eq_getElem?_getD,a1];rfl
 have lb:tlen d b=tb.length:=by unfold tlen;rw [List.getD_eq_getElem?_getD,b1];rfl
 have hal:=hdt ta (List.mem_of_getElem? a1)
 have hbl:=hdt tb (List.mem_of_getElem? b1)
 have hall:∀t∈d,t.length<=1048576:=fun t ht=>Nat.le_trans (hdt t ht) (by decide)
 have hlook:=fun i j (hi:i<=1048576) (hj:j<=1048576)=>Xt d ⟨k,a,b,i,j⟩ hdn hall hk ha hb hi hj
 have hpl:um d k a b=(List.range (ta.length+1)).flatMap (vG d k a b):=by unfold um;rw [la]
 have hrow:∀i,vG d k a b i=(List.range (tb.length+1)).filterMap (uX d k a b i):=fun i=>by unfold vG;rw [lb]
 rw [hpl] at hY ⊢
 clear hpl la lb
 refine za (zb ?_)
 intro v0 v1
 repeat apply za
 refine zb ?_
 refine zi (yP (σ:=Nat × Int × Store) (fun s'=>s'.1<=ta.length+1/\J ((List.range s'.1).flatMap (vG d k a b)).length s'.2.2) (fun s'=>[(2,jf y),(3,.ptr nx v0 0),(4,.ptr (nx+1) v1 0)]) (fun s'=>s'.2.2)
  (fun (i,jv,_)=>[.cells v0 58 [L d],.cells v1 151 [I k,I a,I b,I i,I jv]]) (fun s'=>ta.length+1-s'.1) (zD (0,0,A0) [] (by simpa using hA0) (by simp) rfl (by simp)) ?_)
 rintro ⟨i,jv,A⟩ ⟨hi,hJ⟩
 simp only at hi hJ ⊢
 repeat apply za
 refine zF (some [nx,nx+1]) (Row.pures [0,1,2,3,4,5,6,7,8,9,10] .done) mixed (zE a0 ha ha1) ?_
 refine zr rfl (fun hc=>?_) (fun hc=>?_)
 ·simp at hc
  have hrl:=Xx (vG d k a b) i
  refine zh (za (zi (za (zb ?_))))
  refine zi (yP (σ:=Nat × Store) (fun s'=>s'.1<=tb.length+1/\J (((List.range i).flatMap (vG d k a b)).length+((List.range s'.1).filterMap (uX d k a b i)).length) s'.2) (fun s'=>[(2,jf y),(3,.ptr nx v0 0),(4,.ptr (nx+1) v1 0)]) (fun s'=>s'.2)
   (fun (j,_)=>[.cells v0 58 [L d],.cells v1 151 [I k,I a,I b,I i,I j]]) (fun s'=>tb.length+1-s'.1) (zD (0,A) [] (by simpa using hJ) (by simp) rfl (by simp)) ?_)
  clear hJ A jv
  rintro ⟨j,A⟩ ⟨hj,hJ⟩
  simp only at hj hJ ⊢
  repeat apply za
  refine zF (some [nx,nx+1]) (Row.pures [0,1,2,3,4,5,6,7,8,9,10] .done) mixed (zE b0 hb hb1) ?_
  refine zr rfl (fun hcj=>?_) (fun hcj=>?_)
  ·simp at hcj
   have hlk:=hlook i j (by omega) (by omega)
   have wj:=zt j (by omega)
   refine zh (za (zi ?_))
   cases hm:jK d ⟨k,a,b,i,j⟩ with
   | true =>
    have hce:uX d k a b i j=some ⟨k,a,b,i,j⟩:=by unfold uX;rw [if_pos hm]
    have hlo:vC d ⟨k,a,b,i,j⟩=((zZ d ⟨k,a,b,i,j⟩).1,(zZ d ⟨k,a,b,i,j⟩).2,true):=by unfold vC;rw [if_pos hm]
    rw [hlo] at hlk
    have hat:=ZcL (n:=tb.length+1) (by omega) hce
    rw [<-hrow] at hat
    have hat2:=Xw (W:=vG d k a b) (n:=ta.length+1) (by omega) hat
    have hy:(((List.range (ta.length+1)).flatMap (vG d k a b)).map Yc)[((List.range i).flatMap (vG d k a b)).length+((List.range j).filterMap (uX d k a b i)).length]?=some (Yc ⟨k,a,b,i,j⟩):=by
     rw [List.getElem?_map,hat2];rfl
    have hnx:=ZcN hce
    generalize (zZ d ⟨k,a,b,i,j⟩).1=r1 at *
    generalize (zZ d ⟨k,a,b,i,j⟩).2=r2 at *
    refine za (zb ?_)
    refine zA hlk ?_
    intro v2 v3
    refine za (z8 [(1,50)] (by rfl) (by rfl) fun K Gc Gh hK hGc hGh X hX0 hX=>?_)
    simp -implicitDefEqProofs [hX0,hX]
    try clear hX0 hX X
    refine hGh _ _ _ _ _ fun hsuf=>YD rfl rfl rfl (hY _ _ _ _ hy hJ) ?_
    rintro _ ⟨A',hJ',rfl⟩
    refine ⟨_,_,rfl,?_⟩
    clear hGc hGh
    clear Gc Gh
    refine zW hsuf (D:=[(1,50)]) (by rfl) fun Gc Gh hGc hGh X hX0 hX=>?_
    simp -implicitDefEqProofs [hX0,hX]
    try clear hX0 hX X
    refine hK _ _ _ ?_
    clear hK hGc hGh
    clear K Gc Gh
    refine zo rfl (zh (zb ?_))
    exact zq (j+1,A') [_,_] ⟨by simp;omega,by rw [hnx];exact hJ'⟩ (by simp;omega) (by simp) rfl (by simp [wj];exact ⟨rfl,rfl⟩)
   | false =>
    have hce:uX d k a b i j=none:=by unfold uX;rw [if_neg (by simp [hm])]
    have hlo:vC d ⟨k,a,b,i,j⟩=(jB,jB,false):=by unfold vC;rw [if_neg (by simp [hm])]
    rw [hlo] at hlk
    have hnx:=ZcM hce
    generalize jB=r0 at *
    refine za (zb ?_)
    refine zA hlk ?_
    intro v2 v3
    refine za (ze [(1,50)] zx ?_)
    refine zo rfl (zh (zb ?_))
    exact zq (j+1,A) [_,_] ⟨by simp;omega,by rw [hnx];exact hJ⟩ (by simp;omega) (by simp) rfl (by simp [wj];exact ⟨rfl,rfl⟩)
  ·simp at hcj
   obtain rfl:j=tb.length+1:=by omega
   rw [<-hrow,<-hrl] at hJ
   refine zu ?_
   have wi:=zt i (by omega)
   refine zb ?_
   exact zq (i+1,((tb.length+1:Nat):Int),A) [] ⟨by simp;omega,hJ⟩ (by simp;omega) (by simp) rfl (by simp [wi])
 ·simp at hc
  obtain rfl:i=ta.length+1:=by omega
  refine zu (za (zb ?_))
  exact zg (Xo (hJd _ _ hJ) (by simp;rfl) (by simp [zp]) (by simpa using hJ))
theorem Zkx (d:zj):Pure Tryz.prog 145 [.agg [L d]] (.fn (.func 180) [] [.ip [L d]]):=by
 refine zz Tryz.func145 Tryz.ntmps145 Tryz.results145 fun S nx hd=>?_
 refine za (zb ?_)
 intro v0
 refine za (zb ?_)
 refine jR 0 rfl ?_
 exact zg (zk hd (by simp;rfl) rfl)
theorem Zky (d:zj) (hdn:d.length<=1000) (hdt:∀t∈d,t.length<=1000):Zi Tryz.prog 180 [.ip [L d]] ((uo d).map Yc):=by
 have hpl:=fun k a b (hk:k<=3) (ha:a<d.length) (hb:b<d.length)=>Zkw d k a b (by omega) hdt hk ha hb
 have hkinds:=Zdp
 generalize Xs=kl at hkinds
 refine QE Tryz.func180 (by rfl) rfl Tryz.ntmps180 (congrArg Array.toList Tryz.results180) (by simp) fun l V keep nx J hJd hY A0 hA0=>?_
 refine za (zb ?_)
 refine zA hkinds ?_
 refine zi (yP (σ:=Nat × Store) (fun s'=>s'.1<=4/\J ((List.range s'.1).flatMap (un d)).length s'.2) (fun s'=>[(0,jf l),(1,.ip [L d]),(7,I s'.1)]) (fun s'=>s'.2) (fun _=>[]) (fun s'=>4-s'.1) (zD (0,A0) [] (by simpa using hA0) (by simp) rfl (by simp)) ?_)
 rintro ⟨k,A⟩ ⟨hk,hJ⟩
 simp only at hk hJ ⊢
 by_cases hk4:k<4
 ·have hk4':(k:Int)<4:=by omega
  have hlA:=Xx (un d) k
  refine za (ze [] hk4' ?_)
  refine za (zm rfl (zh (za (zi (za (zb ?_))))))
  refine za (zb ?_)
  refine zi (yP (σ:=Nat × Store) (fun s'=>s'.1<=d.length/\J (((List.range k).flatMap (un d)).length+((List.range s'.1).flatMap (Zt d k)).length) s'.2) (fun s'=>[(0,jf l),(1,.ip [L d]),(3,I k),(7,I k),(12,I d.length),(13,I s'.1)]) (fun s'=>s'.2) (fun _=>[]) (fun s'=>d.length-s'.1) (zD (0,A) [] (by simpa using hJ) (by simp) rfl (by simp)) ?_)
  clear hJ A
  rintro ⟨a,A⟩ ⟨ha,hJ⟩
  simp only at ha hJ ⊢
  refine za (zb ?_)
  refine za (zr rfl (fun hca=>?_) (fun hca=>?_))
  ·simp at hca
   have hlK:=Xx (Zt d k) a
   refine zh (za (zi (za (zb ?_))))
   refine za (zb ?_)
   refine zi (yP (σ:=Nat × Store) (fun s'=>s'.1<=d.length/\J (((List.range k).flatMap (un d)).length+((List.range a).flatMap (Zt d k)).length+((List.range s'.1).flatMap (um d k a)).length) s'.2) (fun s'=>[(0,jf l),(1,.ip [L d]),(3,I k),(4,I a),(7,I k),(12,I d.length),(13,I a),(18,I d.length),(19,I s'.1)]) (fun s'=>s'.2) (fun _=>[]) (fun s'=>d.length-s'.1) (zD (0,A) [] (by simpa using hJ) (by simp) rfl (by simp)) ?_)
   clear hJ A
   rintro ⟨b,A⟩ ⟨hb,hJ⟩
   simp only at hb hJ ⊢
   refine za (zb ?_)
   refine za (zr rfl (fun hcb=>?_) (fun hcb=>?_))
   ·simp at hcb
    have hw:=hpl k a b (by omega) hca hcb
    have hlP:=Xx (um d k a) b
    have hin:∀(i:Nat) (x:List PV),((um d k a b).map Yc)[i]?=some x->((uo d).map Yc)[((List.range k).flatMap (un d)).length+((List.range a).flatMap (Zt d k)).length+((List.range b).flatMap (um d k a)).length+i]?=some x:=by
     intro i x hx
     rw [List.getElem?_map] at hx ⊢
     obtain ⟨m,hm,rfl⟩:=Option.map_eq_some_iff.1 hx
     have e1:=Xw (W:=um d k a) (n:=d.length) hcb hm
     have e2:=Xw (W:=Zt d k) (n:=d.length) hca e1
     have e3:=Xw (W:=un d) (n:=4) hk4 e2
     rw [Nat.add_assoc,Nat.add_assoc]
     unfold uo
     rw [e3];rfl
    refine zh (za (zi (za (zb ?_))))
    refine za (z8 [] (by rfl) (by rfl) fun K Gc Gh hK hGc hGh X hX0 hX=>?_)
    simp -implicitDefEqProofs [hX0,hX]
    try clear hX0 hX X
    refine hGc _ _ _ _ _ _ _ fun hsuf=>((ZcK hw keep hY _ hin hJ _).mono ?_)
    rintro _ _ ⟨A',rfl,hJ',rfl⟩
    rw [List.length_map,Nat.add_assoc,<-hlP] at hJ'
    refine ⟨_,_,rfl,?_⟩
    clear hGc hGh
    clear Gc Gh
    refine zW hsuf (D:=[]) (by rfl) fun Gc Gh hGc hGh X hX0 hX=>?_
    simp -implicitDefEqProofs [hX0,hX]
    clear hX0 hX X
    refine hK _ _ _ ?_
    clear hK hGc hGh
    clear K Gc Gh
    refine zo rfl (zh (zb ?_))
    exact zq (b+1,A') [] ⟨hcb,hJ'⟩ (by simp;omega) (by simp [zt b (by omega)]) rfl (by simp)
   ·simp at hcb
    obtain rfl:b=d.length:=by omega
    refine zu ?_
    have hJ2:J (((List.range k).flatMap (un d)).length+((List.range (a+1)).flatMap (Zt d k)).length) A:=by rw [hlK,<-Nat.add_assoc];exact hJ
    refine zb ?_
    exact zq (a+1,A) [] ⟨hca,hJ2⟩ (by simp;omega) (by simp [zt a (by omega)]) rfl (by simp)
  ·simp at hca
   obtain rfl:a=d.length:=by omega
   refine zu ?_
   have hJ2:J ((List.range (k+1)).flatMap (un d)).length A:=by rw [hlA];exact hJ
   refine zb ?_
   exact zq (k+1,A) [] ⟨hk4,hJ2⟩ (by simp;omega) (by simp [zt k (by omega)]) rfl (by simp)
 ·obtain rfl:k=4:=by omega
  refine za (zb ?_)
  refine za (zo rfl (zu (wX (hJd _ _ hJ) rfl ?_)))
  rw [List.length_map];exact hJ
open Go Go.Proofs
theorem Zu {d:zj} {m:Mv} (h:jK d m=true):m.k<=3/\m.a<d.length/\m.b<d.length/\wx d (zZ d m).1/\wx d (zZ d m).2:=by
 unfold jK at h
 rw [Bool.and_eq_true] at h
 obtain ⟨h1,h2⟩:=h
 have h1:=of_decide_eq_true h1
 refine ⟨h1.1,h1.2.1,h1.2.2,?_⟩
 unfold xW at h2
 unfold zZ jC
 have e0:=Zka d
 have key:∀p:Pc,YW d p<->(p.f<p.o->p.t<d.length/\p.o<=tlen d p.t):=fun _=>Iff.rfl
 by_cases k0:m.k=0
 ·rw [if_pos k0] at h2 ⊢
  have h2:=of_decide_eq_true h2
  refine ⟨?_,e0⟩
  intro p hp
  simp only [Rw5.l,List.mem_cons,List.not_mem_nil,or_false] at hp
  rcases hp with rfl | rfl | rfl | rfl | rfl<;>refine (key _).2 ?_<;>simp only [yl]<;>omega
 rw [if_neg k0] at h2 ⊢
 by_cases k1:m.k=1
 ·rw [if_pos k1] at h2 ⊢
  have h2:=of_decide_eq_true h2
  by_cases hab:m.a=m.b
  ·rw [if_pos hab,hab] at h2
   rw [if_neg (by simp [hab])]
   by_cases hij:m.i<m.j
   ·rw [if_pos hij]
    refine ⟨?_,e0⟩
    intro p hp
    simp only [Rw5.l,List.mem_cons,List.not_mem_nil,or_false] at hp
    rcases hp with rfl | rfl | rfl | rfl | rfl<;>refine (key _).2 ?_<;>simp only [yl]<;>(try rw [hab])<;>omega
   ·rw [if_neg hij]
    refine ⟨?_,e0⟩
    intro p hp
    simp only [Rw5.l,List.mem_cons,List.not_mem_nil,or_false] at hp
    rcases hp with rfl | rfl | rfl | rfl | rfl<;>refine (key _).2 ?_<;>simp only [yl]<;>(try rw [hab])<;>omega
  ·rw [if_neg hab] at h2
   rw [if_pos hab]
   constructor<;>intro p hp<;>simp only [Rw5.l,List.mem_cons,List.not_mem_nil,or_false] at hp<;>rcases hp with rfl | rfl | rfl | rfl | rfl<;>refine (key _).2 ?_<;>simp only [yl]<;>omega
 rw [if_neg k1] at h2 ⊢
 by_cases k2:m.k=2
 ·rw [if_pos k2] at h2 ⊢
  have h2:=of_decide_eq_true h2
  by_cases hab:m.a=m.b
  ·rw [if_pos hab]
   rw [hab] at h2
   refine ⟨?_,e0⟩
   intro p hp
   simp only [Rw5.l,List.mem_cons,List.not_mem_nil,or_false] at hp
   rcases hp with rfl | rfl | rfl | rfl | rfl<;>refine (key _).2 ?_<;>simp only [yl,hab]<;>omega
  ·rw [if_neg hab]
   constructor<;>intro p hp<;>simp only [Rw5.l,List.mem_cons,List.not_mem_nil,or_false] at hp<;>rcases hp with rfl | rfl | rfl | rfl | rfl<;>refine (key _).2 ?_<;>simp only [yl]<;>omega
 rw [if_neg k2] at h2 ⊢
 have h2:=of_decide_eq_true h2
 constructor<;>intro p hp<;>simp only [Rw5.l,List.mem_cons,List.not_mem_nil,or_false] at hp<;>rcases hp with rfl | rfl | rfl | rfl | rfl<;>refine (key _).2 ?_<;>simp only [yl]<;>omega
theorem Xy {d:zj} {m:Mv}:m∈uo d->jK d m=true/\m.i<=tlen d m.a/\m.j<=tlen d m.b:=by
 unfold uo un Zt um vG uX
 intro h
 simp only [List.mem_flatMap,List.mem_range,List.mem_filterMap] at h
 obtain ⟨k,hk,a,ha,b,hb,i,hi,j,hj,h⟩:=h
 split at h
 ·rename_i hm
  cases h
  exact ⟨hm,by simp only;omega,by simp only;omega⟩
 ·cases h
def Yd:Mv:=⟨0,0,0,0,0⟩
def xJ (x:Inst) (d:zj) (r:Rw5):Prop:=Zs d r<=x.cap/\xk x d r<=x.len
instance (x:Inst) (d:zj) (r:Rw5):Decidable (xJ x d r):=by unfold xJ;infer_instance
def Zv (x:Inst) (d:zj) (m:Mv):Int:=Ja x d m (zZ d m).1 (zZ d m).2
def Zw (x:Inst) (d:zj) (st:Mv × Int) (m:Mv):Mv × Int:=if Zv x d m<st.2/\xJ x d (zZ d m).1/\xJ x d (zZ d m).2 then (m,Zv x d m) else st
def jL (x:Inst) (d:zj):Mv × Int:=(uo d).foldl (Zw x d) (Yd,0)
theorem ZdG (x:Inst) (d:zj) (hx:jh x) (hd':MvDay d):Pure Tryz.prog 106 [.agg (zv x),.agg [L d]] (.tup [.agg (xV (jL x d).1),I (jL x d).2,B (decide ((jL x d).2<0))]):=by
 have hdn:=hd'.n
 have hit:=Zky d hdn hd'.t
 have hread:=Zkq x d hx hd'
 have hfacts:∀m∈uo d,Pure Tryz.prog 146 [.agg [L d],.agg (xV m)] (.tup [.agg (ye (zZ d m).1),.agg (ye (zZ d m).2),B true])/\Pure Tryz.prog 147 [.ip (wP x d),.agg (xV m),.agg (ye (zZ d m).1),.agg (ye (zZ d m).2)] (I (Zv x d m)) /\
   Pure Tryz.prog 148 [.ip (wP x d),.agg (ye (zZ d m).1)] (B (decide (xJ x d (zZ d m).1)))/\Pure Tryz.prog 148 [.ip (wP x d),.agg (ye (zZ d m).2)] (B (decide (xJ x d (zZ d m).2))):=by
  intro m hm
  obtain ⟨h1,h2,h3⟩:=Xy hm
  obtain ⟨hk,ha,hb,r1,r2⟩:=Zu h1
  have hl:∀a,tlen d a<=1000:=by
   intro a
   unfold tlen
   rw [List.getD_eq_getElem?_getD]
   cases hq:d[a]? with
   | none=>simp
   | some l=>exact hd'.t l (List.mem_of_getElem? hq)
  have hla:=hl m.a
  have hlb:=hl m.b
  have hlk:=Xt d m (by omega) (fun t ht=>Nat.le_trans (hd'.t t ht) (by decide)) hk ha hb (by omega) (by omega)
  unfold vC at hlk
  rw [if_pos h1] at hlk
  exact ⟨hlk,Zkv x d m _ _ hx hd' r1 r2 ha hb,ZdF x d _ hx hd' r1,ZdF x d _ hx hd' r2⟩
 unfold jL
 generalize uo d=xs at *
 generalize wP x d=rd at *
 have hea:=Zkx d
 refine zz Tryz.func106 Tryz.ntmps106 Tryz.results106 fun S nx hd=>?_
 refine za (zb ?_)
 intro v0 v1 v2
 refine za (zb ?_)
 refine zA hread ?_
 intro v3
 refine za (zb ?_)
 intro v4 v5
 repeat apply za
 refine zb ?_
 refine zA hea ?_
 refine zi (YE (xs:=xs.map Yc) (σ:=Mv × Int) (fun i st=>st=(xs.take i).foldl (Zw x d) (Yd,0)) [(2,.ptr nx v0 0),(3,.ptr (nx+1) v1 0),(4,.ptr (nx+2) v2 0),(7,.ptr (nx+3) v3 0),(8,.ptr (nx+4) v4 0),(9,.ptr (nx+5) v5 0)] (fun _=>S)
  (fun (b,least)=>[.cells v0 25 (zv x),.cells v1 58 [L d],.cells v2 151 [I 0,I 0,I 0,I 0,I 0],.cells v3 187 [.ip rd],.cells v4 151 (xV b),.cells v5 3 [I least]]) (Yd,0)
  hit rfl (by intro x hx;obtain ⟨y,_,rfl⟩:=List.mem_map.1 hx;rfl) (by decide) (by simp) (by simp) rfl (by simp [Yd]) (by simp [Yd]) ?_ ?_)
 ·rintro l i ⟨b,least⟩ more y hst hy
  simp only at hst ⊢
  rw [List.getElem?_map] at hy
  obtain ⟨m,hm,rfl⟩:=Option.map_eq_some_iff.1 hy
  have hsucc:=Vu (f:=Zw x d) (b:=(Yd,0)) hm
  rw [<-hst] at hsucc
  obtain ⟨f1,f2,f3,f4⟩:=hfacts m (List.mem_of_getElem? hm)
  unfold Zw at hsucc
  simp only at hsucc
  generalize (zZ d m).1=r1 at *
  generalize (zZ d m).2=r2 at *
  generalize Zv x d m=by_ at *
  refine zb ?_
  intro v6
  refine zi (za (zb ?_))
  refine zA f1 ?_
  intro v7 v8
  refine za (zb ?_)
  refine zA f2 ?_
  by_cases hlt:by_<least
  ·refine za (ze [(3,37),(8,42)] hlt ?_)
   refine qZ [(3,37),(8,42)] f3 hlt ?_
   by_cases hf1:xJ x d r1
   ·rw [decide_eq_true hf1]
    refine qZ [(3,37),(8,42)] f4 hlt ?_
    by_cases hf2:xJ x d r2
    ·rw [if_pos ⟨hlt,hf1,hf2⟩] at hsucc
     refine zm (by simp [hf2]) ?_
     refine zb ?_
     simp only [qz]
     exact xA (m,by_) [_,_,_] hsucc.symm rfl (by simp;exact ⟨rfl,rfl,rfl⟩)
    ·rw [if_neg fun e=>hf2 e.2.2] at hsucc
     refine zo (by simp [hf2]) ?_
     refine zh ?_
     simp only [qz]
     exact xA (b,least) [_,_,_] hsucc.symm rfl (by simp;exact ⟨rfl,rfl,rfl⟩)
   ·rw [decide_eq_false hf1]
    rw [if_neg fun e=>hf1 e.2.1] at hsucc
    refine zo rfl (zh ?_)
    simp only [qz]
    exact xA (b,least) [_,_,_] hsucc.symm rfl (by simp;exact ⟨rfl,rfl,rfl⟩)
  ·rw [if_neg fun e=>hlt e.1] at hsucc
   refine za (ze [(3,37),(8,42)] (zn hlt zx) ?_)
   refine zo rfl (zh ?_)
   simp only [qz]
   exact xA (b,least) [_,_,_] hsucc.symm rfl (by simp;exact ⟨rfl,rfl,rfl⟩)
 ·rintro ⟨b,least⟩ hst
  rw [List.take_of_length_le (by simp)] at hst
  simp only at hst ⊢
  rw [<-hst]
  refine za (zF (some [nx+4,nx+5]) (Row.pures [0,1,2,3] (.alt 4 (Row.pures [5,6] .done) .stop)) mixed trivial ?_)
  exact zg (zk hd (by simp;rfl) (by simp [zp]))
open Go Go.Proofs
def qD (d:zj) (m:Mv) (i:Nat):zG:=if i=m.a then yu d (zZ d m).1 else if i=m.b then yu d (zZ d m).2 else d.getD i []
def yI (d:zj) (m:Mv) (i:Nat):Option zG:=if (qD d m i).length=0 then none else some (qD d m i)
def xl (d:zj) (m:Mv):zj:=(List.range d.length).filterMap (yI d m)
theorem Xz {d:zj} {r:Rw5} {k:Nat} (h:∀t∈d,t.length<=k):(yu d r).length<=5*k:=by
 have h1:=fun p=>Vz (d:=d) (p:=p) h
 have a1:=h1 r.a
 have a2:=h1 r.b
 have a3:=h1 r.c
 have a4:=h1 r.d
 have a5:=h1 r.e
 unfold yu Rw5.l
 simp only [List.flatMap_cons,List.flatMap_nil,List.length_append,List.append_nil]
 omega
theorem Zkz (x:Inst) (d:zj) (m:Mv) (hdn:d.length<=1000) (hdt:∀t∈d,t.length<=1000) (hm:jK d m=true) (hi:m.i<=1048576) (hj:m.j<=1048576):Pure Tryz.prog 107 [.agg (zv x),.agg [L d],.agg (xV m)] (.tup [.agg [L (xl d m)],I 0]):=by
 obtain ⟨hk,ha,hb,r1,r2⟩:=Zu hm
 have hlk:=Xt d m (by omega) (fun t ht=>Nat.le_trans (hdt t ht) (by decide)) hk ha hb hi hj
 unfold vC at hlk
 rw [if_pos hm] at hlk
 have g1:=Zds d _ (by omega) hdt r1
 have g2:=Zds d _ (by omega) hdt r2
 have n1:=Xz (r:=(zZ d m).1) hdt
 have n2:=Xz (r:=(zZ d m).2) hdt
 have hmk:∀i,qD d m i=if i=m.a then yu d (zZ d m).1 else if i=m.b then yu d (zZ d m).2 else d.getD i []:=fun _=>rfl
 generalize yu d (zZ d m).1=t1 at *
 generalize yu d (zZ d m).2=t2 at *
 generalize (zZ d m).1=c1 at *
 generalize (zZ d m).2=c2 at *
 have hme:xl d m=(List.range d.length).filterMap (yI d m):=rfl
 rw [hme]
 clear hme
 refine zz Tryz.func107 Tryz.ntmps107 Tryz.results107 fun S nx hd=>?_
 refine za (zb ?_)
 intro v0 v1 v2 v3
 refine za (zb ?_)
 refine zA hlk ?_
 intro v4 v5
 repeat apply za
 refine zb ?_
 refine zo rfl (zh (za (zb ?_)))
 intro v6
 refine y8 6 0 72 1 rfl rfl fun v7=>?_
 repeat apply za
 refine zb ?_
 refine zi (zB (fun s':Nat × Nat=>s'.1<=d.length) (fun (k,v7)=>[(4,.ptr (nx+1) v1 0),(5,.ptr (nx+2) v2 0),(6,.ptr (nx+3) v3 0),(8,.ptr (nx+4) v4 0),(9,.ptr (nx+5) v5 0),(11,.ptr (nx+6) v6 0),(26,L d),(27,I d.length),(28,I k)])
  (fun (k,v7)=>[.cells v0 25 (zv x),.cells v1 58 [L d],.cells v2 151 (xV m),.cells v3 58 [yy],.cells v4 195 (ye c1),.cells v5 195 (ye c2),.cells v6 58 [.sl (nx+7) v7 1 0 ((List.range k).filterMap (yI d m)).length],.cells v7 72 (((List.range k).filterMap (yI d m)).flatMap Enc.enc)]) (fun s'=>d.length-s'.1) (0,v7) [] (by simp) (by simp) (by simp) ?_)
 rintro ⟨k,v7⟩ hk0
 simp only at hk0 ⊢
 refine za (zb ?_)
 refine za (zr rfl (fun hc=>?_) (fun hc=>?_))
 ·simp at hc
  obtain ⟨t,tl,a1,a2,a3,e0⟩:=zC rfl d k hc
  have hk1:1<=d.length-k:=by omega
  have htl:=hdt t (List.mem_of_getElem? a1)
  have hcl:=QX t (by omega)
  have hgk:d.getD k []=t:=by rw [List.getD_eq_getElem?_getD,a1];rfl
  have hmkk:=hmk k
  have hlen:((List.range k).filterMap (yI d m)).length<=k:=by have:=List.length_filterMap_le (yI d m) (List.range k);simpa using this
  have hnext:(List.range (k+1)).filterMap (yI d m)=(List.range k).filterMap (yI d m)++(yI d m k).toList:=by
   rw [List.range_succ,List.filterMap_append]
   simp only [List.filterMap_cons,List.filterMap_nil]
   cases yI d m k<;>rfl
  have hT1:yI d m k=if (qD d m k).length=0 then none else some (qD d m k):=rfl
  rw [hgk] at hmkk
  have hTl:(qD d m k).length<=5000:=by rw [hmkk];(repeat' split)<;>omega
  have hof:(((List.range k).filterMap (yI d m)).flatMap Enc.enc:List PV).length=((List.range k).filterMap (yI d m)).length:=jg _
  generalize (List.range k).filterMap (yI d m)=out at *
  have hot:(out.flatMap Enc.enc:List PV).take out.length=out.flatMap Enc.enc:=List.take_of_length_le (by omega)
  have wk:=zt k (by omega)
  refine zh (za (zi (za (ze [] (zE e0 hc hk1) ?_))))
  intro v8
  refine za (zb ?_)
  refine zA hcl ?_
  repeat apply za
  refine zb ?_
  refine yk (nx:=nx) (fun _:Unit=>True) (fun _=>[(4,.ptr (nx+1) v1 0),(5,.ptr (nx+2) v2 0),(6,.ptr (nx+3) v3 0),(8,.ptr (nx+4) v4 0),(9,.ptr (nx+5) v5 0),(11,.ptr (nx+6) v6 0),(14,L (qD d m k)),(26,L d),(27,I d.length),(28,I k)]) (fun _=>S)
   (fun _=>[.cells v0 25 (zv x),.cells v1 58 [L d],.cells v2 151 (xV m),.cells v3 58 [yy],.cells v4 195 (ye c1),.cells v5 195 (ye c2),.cells v6 58 [.sl (nx+7) v7 1 0 out.length],.cells v7 72 (out.flatMap Enc.enc),.cells v8 72 [L t]]) ?_ ?_
  ·refine zi ?_
   by_cases h1:k=m.a
   ·rw [if_pos h1] at hmkk
    have h1':(k:Int)=m.a:=by omega
    rw [hmkk]
    refine za (zb ?_)
    refine zm (by simp;omega) ?_
    refine zb ?_
    refine zA g1 ?_
    simp only [qz]
    exact zD () [] trivial (by simp) rfl (by simp)
   ·rw [if_neg h1] at hmkk
    have h1':¬(k:Int)=m.a:=by omega
    refine za (zb ?_)
    refine zo (by simp;omega) ?_
    by_cases h2:k=m.b
    ·rw [if_pos h2] at hmkk
     have h2':(k:Int)=m.b:=by omega
     rw [hmkk]
     refine za (zb ?_)
     refine zm (by simp;omega) ?_
     refine zb ?_
     refine zA g2 ?_
     simp only [qz]
     exact zD () [] trivial (by simp) rfl (by simp)
    ·rw [if_neg h2] at hmkk
     have h2':¬(k:Int)=m.b:=by omega
     rw [hmkk]
     refine za (zb ?_)
     refine zo (by simp;omega) ?_
     refine zh ?_
     simp only [qz]
     exact zD () [] trivial (by simp) rfl (by simp)
  ·rintro ⟨⟩ -
   generalize qD d m k=tt at *
   clear hmkk hcl e0
   by_cases h0:tt.length=0
   ·have e:(yI d m k).toList=[]:=by rw [hT1,if_pos h0];rfl
    have h0':¬0<tt.length:=by omega
    refine za (ze [] h0' ?_)
    refine zo (by simp [h0']) ?_
    refine zh (zb ?_)
    exact zq (k+1,v7) [_] (by simp;omega) (by simp;omega) (by simp [wk,hnext,e]) rfl (by simp [hnext,e];rfl)
   ·have e:(yI d m k).toList=[tt]:=by rw [hT1,if_neg h0];rfl
    have h0':0<tt.length:=by omega
    refine za (ze [] h0' ?_)
    refine zm (by simp [h0']) ?_
    refine ze [] (zn hof hot) ?_
    refine ⟨by omega,?_⟩
    refine zb ?_
    exact zq (k+1,v7+1) [_] (by simp;omega) (by simp;omega) (by simp [wk,hnext,e]) rfl (by simp [hnext,e];rfl)
 ·simp at hc
  obtain rfl:k=d.length:=by omega
  refine zu (zX 7 rfl ?_)
  refine za (zb ?_)
  exact zg (zk hd (by simp;rfl) (by simp [zp]))
open Go Go.Proofs
def Ye (d:zj) (s:Stop) (t k:Nat):Nat:=((d.getD t []).take k).count s
theorem VK (d:zj) (s:Stop) (t:Nat):Ye d s t 0=0:=by simp [Ye]
theorem ZdH (d:zj) (s:Stop) (t:Nat):Ye d s t (tlen d t)=(d.getD t []).count s:=by unfold Ye tlen;rw [List.take_length]
theorem ZkA (d:zj) (s:Stop) (p:Pc):p.f<=p.o->(yv d p).count s+Ye d s p.t p.f=Ye d s p.t p.o:=by
 intro h
 unfold yv Ye
 generalize d.getD p.t []=u
 by_cases hf:p.f<p.o
 ·rw [if_pos hf,show p.o=p.f+(p.o-p.f) by omega,List.take_add,List.count_append,show p.f+(p.o-p.f)-p.f=p.o-p.f by omega]
  cases p.b
  ·rw [cond_false];omega
  ·rw [cond_true,List.count_reverse];omega
 ·rw [if_neg hf,show p.o=p.f by omega];simp
theorem ZdI (d:zj) (s:Stop) (r:Rw5):(yu d r).count s=(yv d r.a).count s+(yv d r.b).count s+(yv d r.c).count s+(yv d r.d).count s+(yv d r.e).count s:=by
 unfold yu Rw5.l
 simp only [List.flatMap_cons,List.flatMap_nil,List.count_append,List.append_nil]
 omega
theorem ZkB {d:zj} {m:Mv} (h:jK d m=true) (s:Stop):(yu d (zZ d m).1).count s+(if m.a=m.b then 0 else (yu d (zZ d m).2).count s)=(d.getD m.a []).count s+(if m.a=m.b then 0 else (d.getD m.b []).count s):=by
 unfold jK at h
 rw [Bool.and_eq_true] at h
 obtain ⟨-,h2⟩:=h
 unfold xW at h2
 unfold zZ jC
 have e0:=VK d s
 have ea:=VK d s m.a
 have eb:=VK d s m.b
 have la:=ZdH d s m.a
 have lb:=ZdH d s m.b
 have key:=ZkA d s
 rw [ZdI,ZdI]
 by_cases k0:m.k=0
 ·rw [if_pos k0] at h2 ⊢
  have h2:=of_decide_eq_true h2
  rw [if_pos h2.1.symm,if_pos h2.1.symm]
  have q1:=key ⟨m.a,0,m.i,false⟩
  have q2:=key ⟨m.a,m.i,m.j+1,true⟩
  have q3:=key ⟨m.a,m.j+1,tlen d m.a,false⟩
  have q0:=key yl
  simp only [yl] at q1 q2 q3 q0 ⊢
  omega
 rw [if_neg k0] at h2 ⊢
 by_cases k1:m.k=1
 ·rw [if_pos k1] at h2 ⊢
  have h2:=of_decide_eq_true h2
  by_cases hab:m.a=m.b
  ·rw [if_pos hab] at h2
   rw [if_pos hab,if_pos hab,if_neg (by simp [hab])]
   rw [<-hab] at h2
   by_cases hij:m.i<m.j
   ·rw [if_pos hij]
    have q1:=key ⟨m.a,0,m.i,false⟩
    have q2:=key ⟨m.a,m.i+1,m.j+1,false⟩
    have q3:=key ⟨m.a,m.i,m.i+1,false⟩
    have q4:=key ⟨m.a,m.j+1,tlen d m.a,false⟩
    have q0:=key yl
    simp only [yl] at q1 q2 q3 q4 q0 ⊢
    omega
   ·rw [if_neg hij]
    have q1:=key ⟨m.a,0,m.j,false⟩
    have q2:=key ⟨m.a,m.i,m.i+1,false⟩
    have q3:=key ⟨m.a,m.j,m.i,false⟩
    have q4:=key ⟨m.a,m.i+1,tlen d m.a,false⟩
    have q0:=key yl
    simp only [yl] at q1 q2 q3 q4 q0 ⊢
    omega
  ·rw [if_neg hab] at h2
   rw [if_neg hab,if_neg hab,if_pos hab]
   have q1:=key ⟨m.a,0,m.i,false⟩
   have q2:=key ⟨m.a,m.i+1,tlen d m.a,false⟩
   have q3:=key ⟨m.b,0,m.j,false⟩
   have q4:=key ⟨m.a,m.i,m.i+1,false⟩
   have q5:=key ⟨m.b,m.j,tlen d m.b,false⟩
   have q0:=key yl
   simp only [yl] at q1 q2 q3 q4 q5 q0 ⊢
   omega
 rw [if_neg k1] at h2 ⊢
 by_cases k2:m.k=2
 ·rw [if_pos k2] at h2 ⊢
  have h2:=of_decide_eq_true h2
  by_cases hab:m.a=m.b
  ·rw [if_pos hab,if_pos hab,if_pos hab]
   rw [<-hab] at h2 ⊢
   have q1:=key ⟨m.a,0,m.i,false⟩
   have q2:=key ⟨m.a,m.j,m.j+1,false⟩
   have q3:=key ⟨m.a,m.i+1,m.j,false⟩
   have q4:=key ⟨m.a,m.i,m.i+1,false⟩
   have q5:=key ⟨m.a,m.j+1,tlen d m.a,false⟩
   simp only at q1 q2 q3 q4 q5 ⊢
   omega
  ·rw [if_neg hab,if_neg hab,if_neg hab]
   have q1:=key ⟨m.a,0,m.i,false⟩
   have q2:=key ⟨m.b,m.j,m.j+1,false⟩
   have q3:=key ⟨m.a,m.i+1,tlen d m.a,false⟩
   have q4:=key ⟨m.b,0,m.j,false⟩
   have q5:=key ⟨m.a,m.i,m.i+1,false⟩
   have q6:=key ⟨m.b,m.j+1,tlen d m.b,false⟩
   have q0:=key yl
   simp only [yl] at q1 q2 q3 q4 q5 q6 q0 ⊢
   omega
 rw [if_neg k2] at h2 ⊢
 have h2:=of_decide_eq_true h2
 rw [if_neg (by omega),if_neg (by omega)]
 have q1:=key ⟨m.a,0,m.i,false⟩
 have q2:=key ⟨m.b,m.j,tlen d m.b,false⟩
 have q3:=key ⟨m.b,0,m.j,false⟩
 have q4:=key ⟨m.a,m.i,tlen d m.a,false⟩
 have q0:=key yl
 simp only [yl] at q1 q2 q3 q4 q0 ⊢
 omega
theorem VL {d:zj} {i:Nat} {u:zG} (t:zG) (h:d[i]?=some u) (s:Stop):(d.set i t).flatten.count s+u.count s=t.count s+d.flatten.count s:=by
 obtain ⟨hi,rfl⟩:=List.getElem?_eq_some_iff.1 h
 have e:d=d.take i++d[i] :: d.drop (i+1):=by rw [<-List.drop_eq_getElem_cons hi,List.take_append_drop]
 rw [List.set_eq_take_append_cons_drop,if_pos hi]
 conv=>rhs;rw [e]
 simp only [List.flatten_append,List.flatten_cons,List.count_append]
 omega
theorem VM {d:zj} {i:Nat} {u:zG} (t:zG) (h:d[i]?=some u) (x:Inst):yi x (d.set i t)+yc x (u.map (·.c))=yc x (t.map (·.c))+yi x d:=by
 obtain ⟨hi,rfl⟩:=List.getElem?_eq_some_iff.1 h
 have e:d=d.take i++d[i] :: d.drop (i+1):=by rw [<-List.drop_eq_getElem_cons hi,List.take_append_drop]
 unfold yi
 rw [List.set_eq_take_append_cons_drop,if_pos hi]
 conv=>rhs;rw [e]
 simp only [List.map_append,List.map_cons,List.sum_append,List.sum_cons]
 omega
theorem ZdJ (d:zj) (m:Mv):(List.range d.length).map (qD d m)=(d.set m.b (yu d (zZ d m).2)).set m.a (yu d (zZ d m).1):=by
 refine List.ext_getElem? fun i=>?_
 by_cases hi:i<d.length
 ·rw [List.getElem?_map,List.getElem?_range hi]
  simp only [Option.map_some,qD,List.getElem?_set,List.length_set]
  by_cases h1:i=m.a
  ·rw [if_pos h1,if_pos h1.symm,if_pos (by omega)]
  ·rw [if_neg h1,if_neg (fun e:m.a=i=>h1 e.symm)]
   by_cases h2:i=m.b
   ·rw [if_pos h2,if_pos h2.symm,if_pos (by omega)]
   ·rw [if_neg h2,if_neg (fun e:m.b=i=>h2 e.symm),List.getD_eq_getElem?_getD,List.getElem?_eq_getElem hi];rfl
 ·rw [List.getElem?_eq_none (by simp;omega),List.getElem?_eq_none (by simp;omega)]
theorem VN (d:zj) (m:Mv):∀l:List Nat,(l.filterMap (yI d m)).flatten=(l.map (qD d m)).flatten/\∀x,yi x (l.filterMap (yI d m))=yi x (l.map (qD d m))
 | []=>⟨rfl,fun _=>rfl⟩
 | i :: l=>by
  obtain ⟨h1,h2⟩:=VN d m l
  have e:yI d m i=if (qD d m i).length=0 then none else some (qD d m i):=rfl
  rw [List.filterMap_cons,e,List.map_cons]
  by_cases h:(qD d m i).length=0
  ·rw [if_pos h,List.length_eq_zero_iff.1 h]
   refine ⟨by simpa using h1,fun x=>?_⟩
   have:=h2 x
   unfold yi at this ⊢
   simpa [yc] using this
  ·rw [if_neg h]
   refine ⟨by simpa using h1,fun x=>?_⟩
   have:=h2 x
   unfold yi at this ⊢
   simpa using this
theorem ZkC {d:zj} {m:Mv} {t:zG} (h:t∈xl d m):t≠[]/\(t=yu d (zZ d m).1\/t=yu d (zZ d m).2\/t∈d):=by
 unfold xl at h
 obtain ⟨i,hi,h⟩:=List.mem_filterMap.1 h
 unfold yI at h
 split at h
 ·cases h
 ·rename_i h0
  cases h
  refine ⟨fun e=>h0 (by rw [e];rfl),?_⟩
  unfold qD
  split
  ·exact .inl rfl
  ·split
   ·exact .inr (.inl rfl)
   ·refine .inr (.inr ?_)
    have hi:=List.mem_range.1 hi
    rw [List.getD_eq_getElem?_getD,List.getElem?_eq_getElem hi]
    exact List.getElem_mem hi
theorem ZkD (d:zj) (m:Mv):(xl d m).length<=d.length:=by
 have:=List.length_filterMap_le (yI d m) (List.range d.length)
 simpa [xl] using this
theorem ZdK {d:zj} {m:Mv} (h:jK d m=true):(xl d m).flatten.Perm d.flatten:=by
 obtain ⟨-,ha,hb,-,-⟩:=Zu h
 refine List.perm_iff_count.2 fun s=>?_
 have hc:=ZkB h s
 unfold xl
 rw [(VN d m _).1,ZdJ]
 obtain ⟨ua,hua⟩:∃u,d[m.a]?=some u:=⟨_,List.getElem?_eq_getElem ha⟩
 obtain ⟨ub,hub⟩:∃u,d[m.b]?=some u:=⟨_,List.getElem?_eq_getElem hb⟩
 have ga:d.getD m.a []=ua:=by rw [List.getD_eq_getElem?_getD,hua];rfl
 have gb:d.getD m.b []=ub:=by rw [List.getD_eq_getElem?_getD,hub];rfl
 rw [ga,gb] at hc
 generalize yu d (zZ d m).1=t1 at *
 generalize yu d (zZ d m).2=t2 at *
 by_cases hab:m.a=m.b
 ·rw [if_pos hab,if_pos hab] at hc
  rw [<-hab,List.set_set]
  have:=VL t1 hua s
  omega
 ·rw [if_neg hab,if_neg hab] at hc
  have h1:=VL t2 hub s
  have h2:=VL (d:=d.set m.b t2) (i:=m.a) (u:=ua) t1 (by rw [List.getElem?_set_ne (fun e=>hab e.symm)];exact hua) s
  omega
theorem ZkE {x:Inst} {d:zj} {m:Mv} (h:jK d m=true) (h0:arc x 0 0=0):yi x (xl d m)=yi x d+Zv x d m:=by
 obtain ⟨-,ha,hb,r1,r2⟩:=Zu h
 unfold xl Zv Ja
 rw [(VN d m _).2,ZdJ,VI r1 h0,VI r2 h0]
 obtain ⟨ua,hua⟩:∃u,d[m.a]?=some u:=⟨_,List.getElem?_eq_getElem ha⟩
 obtain ⟨ub,hub⟩:∃u,d[m.b]?=some u:=⟨_,List.getElem?_eq_getElem hb⟩
 have ga:d.getD m.a []=ua:=by rw [List.getD_eq_getElem?_getD,hua];rfl
 have gb:d.getD m.b []=ub:=by rw [List.getD_eq_getElem?_getD,hub];rfl
 rw [ga,gb]
 generalize yu d (zZ d m).1=t1 at *
 generalize yu d (zZ d m).2=t2 at *
 by_cases hab:m.a=m.b
 ·rw [if_pos hab,<-hab,List.set_set]
  have:=VM t1 hua x
  omega
 ·rw [if_neg hab]
  have h1:=VM t2 hub x
  have h2:=VM (d:=d.set m.b t2) (i:=m.a) (u:=ua) t1 (by rw [List.getElem?_set_ne (fun e=>hab e.symm)];exact hua) x
  omega
open Go Go.Proofs Hp
theorem VO (x:Inst):∀(ds:List zj) (st:zj × Int × Bool),(ds.foldl (jA x) st).2.2=true->ds.foldl (jA x) st=st\/(∃d∈ds,yh x d=0/\ds.foldl (jA x) st=(d,W (yi x d),true))
 | [],st,_=>.inl rfl
 | d :: ds,st,h=>by
  rw [List.foldl_cons] at h ⊢
  rcases VO x ds _ h with e | ⟨d2,h1,h2,h3⟩
  ·rw [e]
   unfold jA
   split
   ·rename_i h0
    split
    ·exact .inr ⟨d,by simp,h0,rfl⟩
    ·exact .inl rfl
   ·exact .inl rfl
  ·exact .inr ⟨d2,by simp [h1],h2,h3⟩
theorem ZkF {x:Inst} {e:Int} {ds:List zj} (h:(jT x e ds).2=0):e=0/\(jT x e ds).1∈ds/\yh x (jT x e ds).1=0:=by
 unfold jT at h ⊢
 by_cases he:e=0
 ·rw [if_pos he] at h ⊢
  cases hz:(wL x ds).2.2 with
  | false=>rw [hz] at h;cases h
  | true =>
   refine ⟨he,?_⟩
   rcases VO x ds ([],0,false) hz with q | ⟨d,h1,h2,h3⟩
   ·have:(wL x ds).2.2=false:=by unfold wL;rw [q]
    rw [this] at hz;cases hz
   ·have:wL x ds=(d,W (yi x d),true):=h3
    rw [this];exact ⟨h1,h2⟩
 ·rw [if_neg he] at h;exact absurd h he
theorem ZkG (x:Inst):jh (yp x):=by
 refine Zdk fun row hr d hd=>?_
 simp only [yp,List.mem_map] at hr
 obtain ⟨a,_,rfl⟩:=hr
 unfold xR at hd
 obtain ⟨b,_,rfl⟩:=List.mem_map.1 hd
 split
 ·have:=j9 (arc x a b) 0 60 (by omega);omega
 ·omega
open Go Go.Proofs
structure SG (x:Inst) (l:List Stop) (d:zj):Prop where
 may:∀t∈d,zK x t=0
 perm:d.flatten.Perm l
def ZdL (x:Inst) (t:zG):Prop:=(∀s∈t,qu x s=true)/\(t.map (·.c)).Nodup/\t.length<=1000
theorem VP {x:Inst} {t:zG} (h:zK x t=0):(∀s∈t,qu x s=true)/\t≠[]:=by
 have:=((Ya x t).1 h).1
 unfold yY at this
 rw [Bool.and_eq_true,List.all_eq_true] at this
 refine ⟨this.1,fun e=>?_⟩
 subst e
 simp at this
theorem VQ {x:Inst}:∀t:zG,(∀s∈t,qu x s=true)->0<=zO t/\zO t<=2147483648*(t.length:Int)
 | [],_=>by simp [zO]
 | s :: t,h=>by
  have h1:=VQ t fun s hs=>h s (by simp [hs])
  have h2:=h s (by simp)
  simp [qu] at h2
  unfold zO at h1 ⊢
  simp only [List.map_cons,List.sum_cons,List.length_cons]
  omega
theorem Jb {x:Inst} (hx:jh x) {t:zG} (h:ZdL x t) (hn:t≠[]):zK x t=0<->zO t<=x.cap/\yc x (t.map (·.c))<=x.len:=by
 obtain ⟨h1,h2,h3⟩:=h
 have b1:=VQ t h1
 have b2:=Q4 hx (t.map (·.c))
 rw [List.length_map] at b2
 have w1:W (zO t)=zO t:=wr _ (by omega) (by omega)
 have w2:W (yc x (t.map (·.c)))=yc x (t.map (·.c)):=wr _ (by omega) (by omega)
 rw [Ya,w1,w2]
 have:yY x t=true:=by
  unfold yY
  rw [Bool.and_eq_true,List.all_eq_true]
  exact ⟨h1,by cases t<;>simp at hn ⊢⟩
 exact ⟨fun e=>e.2.2,fun e=>⟨this,h2,e⟩⟩
theorem SG.each {x:Inst} {l:List Stop} {d:zj} (g:SG x l d):∀s∈l,qu x s=true:=by
 intro s hs
 obtain ⟨t,ht,hst⟩:=List.mem_flatten.1 (g.perm.symm.subset hs)
 exact (VP (g.may t ht)).1 s hst
section
variable {x:Inst} {l:List Stop} (h:SOk x l)
include h
theorem SG.len {d:zj} (g:SG x l d):d.flatten.length<=1000/\d.length<=1000:=by
 have h1:=QY d fun t ht=>(VP (g.may t ht)).2
 have h2:=g.perm.length_eq
 have h3:=h.len
 omega
theorem SG.tour {d:zj} (g:SG x l d) {e:zj} (he:e.flatten.Perm l) {t:zG} (ht:t∈e):ZdL x t:=by
 have hs:=vz ht
 have hl:=h.len
 refine ⟨fun s q=>g.each s (he.subset (hs.subset q)),?_,?_⟩
 ·exact ((he.map _).nodup_iff.2 h.nd).sublist (hs.map _)
 ·have:=hs.length_le
  have:=he.length_eq
  omega
theorem SG.mv {d:zj} (g:SG x l d):MvDay d:=by
 refine ⟨(g.len h).2,fun t ht=>(g.tour h g.perm ht).2.2,fun t ht s hs=>?_⟩
 have:=(g.tour h g.perm ht).1 s hs
 have hc:=h.cust
 simp [qu] at this
 unfold small
 omega
theorem SG.ok {d:zj} (g:SG x l d):DayOk d:=by
 have h1:=g.len h
 have h2:=g.mv h
 exact ⟨by omega,fun t ht=>Nat.le_trans (h2.t t ht) (by decide),fun t ht s hs=>(h2.s t ht s hs).1⟩
end
theorem ZdM {x:Inst} {d:zj} {r:Rw5} (hr:wx d r) (h0:arc x 0 0=0):xJ x d r<->zO (yu d r)<=x.cap/\yc x ((yu d r).map (·.c))<=x.len:=by
 unfold xJ
 rw [VI hr h0,Zkt hr]
theorem ZkH {d:zj} {m:Mv} (h:jK d m=true) (hab:m.a=m.b):yu d (zZ d m).2=[]:=by
 have e0:yu d jB=[]:=rfl
 unfold jK at h
 rw [Bool.and_eq_true] at h
 obtain ⟨-,h2⟩:=h
 unfold xW at h2
 unfold zZ jC
 by_cases k0:m.k=0
 ·rw [if_pos k0];exact e0
 rw [if_neg k0] at h2 ⊢
 by_cases k1:m.k=1
 ·rw [if_pos k1,if_neg (by simp [hab])]
  split<;>exact e0
 rw [if_neg k1] at h2 ⊢
 by_cases k2:m.k=2
 ·rw [if_pos k2,if_pos hab];exact e0
 rw [if_neg k2] at h2
 have h2:=of_decide_eq_true h2
 omega
theorem ZkI {d:zj} {m:Mv} (h:jK d m=true) (hn:yu d (zZ d m).1≠[]):yu d (zZ d m).1∈xl d m:=by
 obtain ⟨-,ha,-⟩:=Zu h
 refine List.mem_filterMap.2 ⟨m.a,List.mem_range.2 ha,?_⟩
 have e:qD d m m.a=yu d (zZ d m).1:=by unfold qD;rw [if_pos rfl]
 unfold yI
 rw [e,if_neg fun q=>hn (List.length_eq_zero_iff.1 q)]
theorem ZkJ {d:zj} {m:Mv} (h:jK d m=true) (hab:m.a≠m.b) (hn:yu d (zZ d m).2≠[]):yu d (zZ d m).2∈xl d m:=by
 obtain ⟨-,-,hb,-⟩:=Zu h
 refine List.mem_filterMap.2 ⟨m.b,List.mem_range.2 hb,?_⟩
 have e:qD d m m.b=yu d (zZ d m).2:=by unfold qD;rw [if_neg fun q=>hab q.symm,if_pos rfl]
 unfold yI
 rw [e,if_neg fun q=>hn (List.length_eq_zero_iff.1 q)]
theorem ZkK {x:Inst} {l:List Stop} (h:SOk x l) (h0:arc x 0 0=0) {d:zj} (g:SG x l d) {m:Mv} (hm:jK d m=true):(xJ x d (zZ d m).1/\xJ x d (zZ d m).2)<->∀t∈xl d m,zK x t=0:=by
 obtain ⟨-,ha,hb,r1,r2⟩:=Zu hm
 have hp:(xl d m).flatten.Perm l:=(ZdK hm).trans g.perm
 rw [ZdM r1 h0,ZdM r2 h0]
 have hz:0<=x.cap/\0<=x.len:=by
  have ht:=g.may _ (List.getElem_mem ha)
  have hg:=g.tour h g.perm (List.getElem_mem ha)
  have:=(Jb h.arc hg (VP ht).2).1 ht
  have b1:=VQ _ hg.1
  have b2:=Q4 h.arc (d[m.a].map (·.c))
  omega
 have e0:zO []=0/\yc x (([]:zG).map (·.c))=0:=⟨rfl,rfl⟩
 constructor
 ·rintro ⟨q1,q2⟩ t ht
  obtain ⟨hn,h3⟩:=ZkC ht
  have hg:=g.tour h hp ht
  rcases h3 with rfl | rfl | h3
  ·exact (Jb h.arc hg hn).2 q1
  ·exact (Jb h.arc hg hn).2 q2
  ·exact g.may t h3
 ·intro hall
  constructor
  ·by_cases hn:yu d (zZ d m).1=[]
   ·rw [hn,e0.1,e0.2];exact hz
   ·have ht:=ZkI hm hn
    exact (Jb h.arc (g.tour h hp ht) hn).1 (hall _ ht)
  ·by_cases hn:yu d (zZ d m).2=[]
   ·rw [hn,e0.1,e0.2];exact hz
   ·by_cases hab:m.a=m.b
    ·exact absurd (ZkH hm hab) hn
    ·have ht:=ZkJ hm hab hn
     exact (Jb h.arc (g.tour h hp ht) hn).1 (hall _ ht)
theorem ZdN (x:Inst) (d:zj):∀(ms:List Mv) (st:Mv × Int),(ms.foldl (Zw x d) st=st)\/(∃m∈ms,(ms.foldl (Zw x d) st)=(m,Zv x d m)/\xJ x d (zZ d m).1/\xJ x d (zZ d m).2)
 | [],st=>.inl rfl
 | m :: ms,st=>by
  rw [List.foldl_cons]
  rcases ZdN x d ms (Zw x d st m) with e | ⟨m2,h1,h2,h3⟩
  ·rw [e]
   unfold Zw
   split
   ·rename_i hc
    exact .inr ⟨m,by simp,rfl,hc.2⟩
   ·exact .inl rfl
  ·exact .inr ⟨m2,by simp [h1],h2,h3⟩
def jU (x:Inst) (d:zj):Option zj:=if (jL x d).2<0 then some (xl d (jL x d).1) else none
theorem VR {x:Inst} {d:zj} (hb:(jL x d).2<0):(jL x d).1∈uo d/\Zv x d (jL x d).1<0/\xJ x d (zZ d (jL x d).1).1/\xJ x d (zZ d (jL x d).1).2:=by
 rcases ZdN x d (uo d) (Yd,0) with e | ⟨m,h1,h2,h3⟩
 ·unfold jL at hb;rw [e] at hb;cases hb
 ·unfold jL at hb ⊢
  rw [h2] at hb ⊢
  exact ⟨h1,hb,h3⟩
theorem VS {x:Inst} {l:List Stop} (h:SOk x l) (h0:arc x 0 0=0) {d e:zj} (g:SG x l d) (hs:jU x d=some e):SG x l e/\yi x e<yi x d/\e.length<=d.length:=by
 unfold jU at hs
 split at hs
 ·rename_i hb
  cases hs
  obtain ⟨h1,h2,h3⟩:=VR hb
  have hm:=(Xy h1).1
  refine ⟨⟨(ZkK h h0 g hm).1 h3,(ZdK hm).trans g.perm⟩,?_,ZkD _ _⟩
  rw [ZkE hm h0];omega
 ·cases hs
theorem ZkL {x:Inst} {l:List Stop} (h:SOk x l) (h0:arc x 0 0=0):Zdo x (jU x) (SG x l):=by
 intro d g
 have hv:=g.mv h
 have hl:∀a,tlen d a<=1000:=by
  intro a
  unfold tlen
  rw [List.getD_eq_getElem?_getD]
  cases hq:d[a]? with
  | none=>simp
  | some l=>exact hv.t l (List.mem_of_getElem? hq)
 have hd1:(jU x d).isSome=decide ((jL x d).2<0):=by
  unfold jU
  split
  ·rename_i q;simp [q]
  ·rename_i q;simp [q]
 refine ⟨_,_,_,_,_,_,by rw [hd1];exact ZdG x d h.arc hv,fun e he=>⟨?_,(VS h h0 g he).1⟩⟩
 unfold jU at he
 split at he
 ·rename_i hb
  cases he
  obtain ⟨h1,-,-⟩:=VR hb
  obtain ⟨h1,h2,h3⟩:=Xy h1
  have:=hl (jL x d).1.a
  have:=hl (jL x d).1.b
  exact Zkz x d _ hv.n hv.t h1 (by omega) (by omega)
 ·cases he
theorem XA {x:Inst} {l:List Stop} (h:SOk x l) (h0:arc x 0 0=0):∀(n:Nat) (d:zj),SG x l d->SG x l (qK (jU x) n d)/\yi x (qK (jU x) n d)<=yi x d/\(qK (jU x) n d).length<=d.length
 | 0,d,g=>⟨g,Int.le_refl _,Nat.le_refl _⟩
 | n+1,d,g=>by
  unfold qK
  cases hs:jU x d with
  | none=>exact ⟨g,Int.le_refl _,Nat.le_refl _⟩
  | some e =>
   obtain ⟨a,b,c⟩:=VS h h0 g hs
   obtain ⟨a',b',c'⟩:=XA h h0 n e a
   exact ⟨a',by simp only;omega,by simp only;omega⟩
open Go Go.Proofs Hp
theorem ZkM (x:Inst):arc (yp x) 0 0=0:=by
 have h1:(yp x).dist[0]?=some (xR x (x.cust.take 6).length 0):=by
  unfold yp
  rw [List.getElem?_map,List.getElem?_range (by omega)];rfl
 have h2:(xR x (x.cust.take 6).length 0)[0]?=some 0:=by
  unfold xR
  rw [List.getElem?_map,List.getElem?_range (by omega)];rfl
 unfold arc
 split
 ·rfl
 ·rw [List.getD_eq_getElem?_getD,List.getD_eq_getElem?_getD]
  show (((yp x).dist[0]?).getD [])[0]?.getD 0=0
  rw [h1]
  show ((xR x (x.cust.take 6).length 0)[0]?).getD 0=0
  rw [h2];rfl
theorem ZdO {x:Inst} {l:List Stop} (h:jz x l=0):∀s∈l,zK x [s]=0:=by
 unfold jz at h
 intro s hs
 cases hf:l.find? (fun s=>zK x [s] != 0) with
 | some s2 =>
  have:=List.find?_some hf
  rw [hf] at h
  simp only at h
  rw [h] at this;simp at this
 | none =>
  have:=List.find?_eq_none.1 hf s hs
  simpa using this
theorem ZkN {x:Inst} {l:List Stop} (h:SOk x l) (hf:jz x l=0):∀t∈xD x l,zK x t=0:=by
 have key:∀(ps:List Pr) (st:zj × Int),(∀t∈st.1,t.length<=1\/zK x t=0)->∀t∈(ps.foldl (qq x) st).1,t.length<=1\/zK x t=0:=by
  intro ps
  induction ps with
  | nil=>intro st h;exact h
  | cons p ps ih =>
   intro st hst
   rw [List.foldl_cons]
   refine ih _ fun t ht=>?_
   unfold qq YO at ht
   generalize w8 st.1 p.a=i at ht
   generalize w8 st.1 p.b=k at ht
   generalize st.1.getD i []=a at ht
   generalize st.1.getD k []=b at ht
   cases hc:yV x st.2 p i k a b with
   | false=>rw [hc] at ht;exact hst t ht
   | true =>
    rw [hc] at ht
    simp only [cond_true] at ht
    unfold yV at hc
    simp only [Bool.and_eq_true,decide_eq_true_eq] at hc
    rcases List.mem_or_eq_of_mem_set ht with ht | ht
    ·rcases List.mem_or_eq_of_mem_set ht with ht | ht
     ·exact hst t ht
     ·rw [ht];exact .inr hc.2
    ·rw [ht];exact .inl (by simp)
 intro t ht
 obtain ⟨-,hp,-,hne⟩:=h.join
 have hs:=vz ht
 have h1:=key (qv x (l.map fun s:Stop=>s.c)) (l.map fun s=>[s],(l.length:Int)) (fun t ht=>by obtain ⟨s,_,rfl⟩:=List.mem_map.1 ht;simp) t (List.mem_filter.1 ht).1
 rcases h1 with h1 | h1
 ·have:=hne t ht
  match t,h1,this with
  | [s],_,_=>exact ZdO hf s (hp.subset (hs.subset (by simp)))
 ·exact h1
theorem VT {x:Inst} {l:List Stop} (h:SOk x l) (hf:jz x l=0):∀d∈uW x l,SG x l d:=by
 intro d hd
 unfold uW at hd
 simp only [List.cons_append,List.nil_append,List.mem_cons] at hd
 rcases hd with rfl | rfl | hd
 ·exact ⟨ZkN h hf,h.join.2.1⟩
 ·refine ⟨fun t ht=>?_,by rw [h.apart.2.1]⟩
  obtain ⟨s,hs,rfl⟩:=List.mem_map.1 ht
  exact ZdO hf s hs
 ·cases hall:(qC x l).2 with
  | false=>rw [hall] at hd;simp at hd
  | true =>
   rw [hall] at hd
   simp at hd;subst hd
   obtain ⟨r,hp⟩:=h.regret
   exact ⟨((xG x _).1 r.may).1,hp hall⟩
def jV (x:Inst) (b:Int) (d:zj):zj:=qK (jU x) b.toNat d
def xn (x:Inst) (b:Int) (l:List Stop):zj × Int:=jT x (jz x l) (vE x (jV x b) l)
theorem ZkO {x:Inst} {l:List Stop} (h:SOk x l) (h0:arc x 0 0=0) (hf:jz x l=0) {b:Int} (hb:b<=9223372036854775807):Zdx x b (jV x b) (uW x l):=by
 intro d hd
 have g:=VT h hf d hd
 obtain ⟨g2,-,-⟩:=XA h h0 b.toNat d g
 have o:=g.ok h
 refine ⟨⟨_,ZjX x d b (jU x) (SG x l) hb o.n o.t (fun _=>g) (ZkL h h0)⟩,g2.ok h,?_⟩
 have:=(g2.len h).1
 show (qK (jU x) b.toNat d).flatten.length<=1048576
 omega
theorem ZkP {x:Inst} {l:List Stop} (h:SOk x l) (h0:arc x 0 0=0) {b:Int} (hb:b<=9223372036854775807):Pure Tryz.prog 126 [.agg (zv x),L l,I b] (.tup [.agg [L (xn x b l).1],I (xn x b l).2]) :=
 Zkk x l b _ h fun hf=>ZkO h h0 hf hb
theorem ZkQ {x:Inst} {l:List Stop} (h:SOk x l) (h0:arc x 0 0=0) (hf:jz x l=0) (b:Int):∀d∈vE x (jV x b) l,SG x l d:=by
 have hb:=VT h hf
 have hi:=fun d g=>(XA h h0 b.toNat d g).1
 intro d hd
 unfold vE at hd
 unfold uW at hb
 simp only [List.cons_append,List.nil_append,List.mem_cons] at hd hb
 rcases hd with rfl | rfl | rfl | hd
 ·exact hb _ (.inr (.inl rfl))
 ·exact hi _ (hb _ (.inl rfl))
 ·exact hi _ (hb _ (.inr (.inl rfl)))
 ·cases hall:(qC x l).2 with
  | false=>rw [hall] at hd;simp at hd
  | true =>
   rw [hall] at hd
   simp at hd;subst hd
   exact hi _ (hb _ (.inr (.inr (by rw [hall];simp))))
theorem ZdP (x:Inst):∀(ds:List zj) (st:zj × Int × Bool),(st.2.2=true->(ds.foldl (jA x) st).2.2=true/\(ds.foldl (jA x) st).2.1<=st.2.1)/\∀d∈ds,yh x d=0->(ds.foldl (jA x) st).2.2=true/\(ds.foldl (jA x) st).2.1<=W (yi x d)
 | [],st=>⟨fun e=>⟨e,Int.le_refl _⟩,by simp⟩
 | d :: ds,st=>by
  rw [List.foldl_cons]
  obtain ⟨h1,h2⟩:=ZdP x ds (jA x st d)
  constructor
  ·intro e
   have:(jA x st d).2.2=true/\(jA x st d).2.1<=st.2.1:=by
    unfold jA
    split
    ·split
     ·rename_i hc
      rcases hc with hc | hc
      ·rw [e] at hc;cases hc
      ·exact ⟨rfl,Int.le_of_lt hc⟩
     ·exact ⟨e,Int.le_refl _⟩
    ·exact ⟨e,Int.le_refl _⟩
   obtain ⟨a,b⟩:=h1 this.1
   exact ⟨a,Int.le_trans b this.2⟩
  ·intro d2 hd hz
   rcases List.mem_cons.1 hd with rfl | hd
   ·have:(jA x st d2).2.2=true/\(jA x st d2).2.1<=W (yi x d2):=by
     unfold jA
     rw [if_pos hz]
     split
     ·exact ⟨rfl,Int.le_refl _⟩
     ·rename_i hc
      cases hq:st.2.2 with
      | false=>exact absurd (.inl hq) hc
      | true=>exact ⟨rfl,Int.not_lt.1 fun q=>hc (.inr q)⟩
    obtain ⟨a,b⟩:=h1 this.1
    exact ⟨a,Int.le_trans b this.2⟩
   ·exact h2 d2 hd hz
theorem ZdQ {x:Inst} {e:Int} {ds:List zj} (he:e=0) {d:zj} (hd:d∈ds) (hz:yh x d=0):(jT x e ds).2=0/\W (yi x (jT x e ds).1)<=W (yi x d):=by
 obtain ⟨h1,h2⟩:=(ZdP x ds ([],0,false)).2 d hd hz
 change (wL x ds).2.2=true at h1
 change (wL x ds).2.1<=W (yi x d) at h2
 unfold jT
 rw [if_pos he,h1]
 refine ⟨rfl,?_⟩
 rcases VO x ds ([],0,false) h1 with q | ⟨d2,g1,g2,g3⟩
 ·have:(wL x ds).2.2=false:=by unfold wL;rw [q]
  rw [this] at h1;cases h1
 ·have:wL x ds=(d2,W (yi x d2),true):=g3
  rw [this] at h2 ⊢;exact h2
theorem ZkR {x:Inst} {e:Int} {ds:List zj} (h:(jT x e ds).2≠0):(jT x e ds).1=[]:=by
 unfold jT at h ⊢
 by_cases he:e=0
 ·rw [if_pos he] at h ⊢
  cases hz:(wL x ds).2.2 with
  | true=>rw [hz] at h;exact absurd rfl h
  | false=>rfl
 ·rw [if_neg he]
theorem ZdR (x:Inst) (imp:zj->zj) (l:List Stop):qg l∈vE x imp l:=by simp [vE]
section
variable {x:Inst} {l:List Stop} (h:SOk x l) (h0:arc x 0 0=0) (b:Int)
include h h0
theorem ZkS (he:(xn x b l).2=0):jz x l=0/\yh x (xn x b l).1=0/\(xn x b l).1.flatten.Perm l/\(yh x (qg l)=0->W (yi x (xn x b l).1)<=W (yi x (qg l))):=by
 obtain ⟨hf,hm,hz⟩:=ZkF he
 have g:=ZkQ h h0 hf b _ hm
 exact ⟨hf,hz,g.perm,fun q=>(ZdQ hf (ZdR x _ l) q).2⟩
omit h0 in
theorem ZkT (he:(xn x b l).2≠0):(xn x b l).1=[]/\(jz x l≠0\/x.veh<l.length):=by
 refine ⟨ZkR he,?_⟩
 by_cases hf:jz x l=0
 ·refine .inr ?_
  by_cases hv:x.veh<l.length
  ·exact hv
  ·refine absurd (ZdQ hf (ZdR x (jV x b) l) ?_).1 he
   have g:=VT h hf (qg l) (by simp [uW])
   refine (xG x _).2 ⟨g.may,by rw [h.apart.2.1];exact h.nd,?_⟩
   rw [VE];omega
 ·exact .inl hf
end
open Go
structure Visit where
 d:Int
 q:Int
 deriving DecidableEq
instance:Inhabited Visit:=⟨⟨0,0⟩⟩
instance:Enc Visit:=⟨fun s=>[I s.d,I s.q],2,fun _=>rfl,fun _=>rfl⟩
@[simp] theorem ZqR (s:Visit):Enc.enc s=[I s.d,I s.q]:=rfl
@[simp high] theorem ZqS (l:List Visit):(l.flatMap Enc.enc).length=l.length*2:=j8 l
@[simp high] theorem ZqT (l:List Visit):(l.flatMap Enc.enc).take (l.length*2)=l.flatMap Enc.enc:=uM l
def told:Nat->List zj->List (Stop × Nat)
 | _,[]=>[]
 | i,d :: ds=>d.flatten.map (·,i)++told (i+1) ds
def Jc (x:Stop × Nat):List PV:=[.agg [I x.1.c,I x.1.q,I x.2]]
theorem ZkU (p:zJ):Pure Tryz.prog 240 [.agg [L p]] (.fn (.func 259) [] [.ip [L p]]):=by
 refine zz Tryz.func240 Tryz.ntmps240 Tryz.results240 fun S nx hd=>?_
 refine za (zb ?_)
 intro v0
 refine za (zb ?_)
 refine jR 0 rfl ?_
 exact zg (zk hd (by simp;rfl) rfl)
theorem ZkV (p:zJ) (hp:p.length<=1048576) (hd:∀d∈p,d.length<=1048576) (ht:∀d∈p,∀t∈d,t.length<=1048576):Zi Tryz.prog 259 [.ip [L p]] ((told 0 p).map Jc):=by
 have yieldX:∀(pre rest:List (Stop × Nat)) (x:Stop × Nat),told 0 p=pre++x :: rest->((told 0 p).map Jc)[pre.length]?=some (Jc x):=by
  intro pre rest x e;rw [e];simp
 refine QE Tryz.func259 (by rfl) rfl Tryz.ntmps259 (congrArg Array.toList Tryz.results259) (by simp) fun l V keep nx J hJd hY A0 hA0=>?_
 refine za (zb ?_)
 refine zi (yP (σ:=Nat × Store × List (Stop × Nat)) (fun s=>s.1<=p.length/\J s.2.2.length s.2.1/\told 0 p=s.2.2++told s.1 (p.drop s.1)) (fun s=>[(0,jf l),(10,L p),(11,I p.length),(12,I s.1)]) (fun s=>s.2.1) (fun s=>[]) (fun s=>p.length-s.1) (zD (0,A0,[]) [] (by simp [hA0]) (by simp) rfl (by simp)) ?_)
 rintro ⟨a,A,pre⟩ ⟨ha,hJ,hr⟩
 simp only at ha hJ hr ⊢
 refine za (zb ?_)
 refine za (zr rfl (fun hc=>?_) (fun hc=>?_))
 ·simp at hc
  obtain ⟨d,tl,a1,a2,a3,e0⟩:=zC rfl p a hc
  have hdm:=List.mem_of_getElem? a1
  have hdl:=hd d hdm
  rw [a2] at hr
  simp only [told] at hr
  refine zh (za (zi (za (ze [] (zn e0 hc) ?_))))
  intro v0
  refine za (zb ?_)
  refine zi (yP (σ:=Nat × Store × List (Stop × Nat)) (fun s=>s.1<=d.length/\J s.2.2.length s.2.1/\told 0 p=s.2.2++((d.drop s.1).flatten.map (·,a)++told (a+1) (p.drop (a+1)))) (fun s=>[(0,jf l),(3,I a),(10,L p),(11,I p.length),(12,I a),(18,L d),(19,I d.length),(20,I s.1)]) (fun s=>s.2.1) (fun s=>[]) (fun s=>d.length-s.1) (zD (0,A,pre) [_] (by simp [hJ,hr]) (by simp) rfl rfl) ?_)
  rintro ⟨b,A,pre⟩ ⟨hb,hJ,hr⟩
  simp only at hb hJ hr ⊢
  refine za (zb ?_)
  refine za (zr rfl (fun hc2=>?_) (fun hc2=>?_))
  ·simp at hc2
   obtain ⟨t,tl2,b1,b2,b3,e2⟩:=zC rfl d b hc2
   have htl:=ht d hdm t (List.mem_of_getElem? b1)
   rw [b2] at hr
   simp only [List.flatten_cons,List.map_append,List.append_assoc] at hr
   refine zh (za (zi (za (ze [] (zn e2 hc2) ?_))))
   intro v1
   refine za (zb ?_)
   refine zi (yP (σ:=Nat × Store × List (Stop × Nat)) (fun s=>s.1<=t.length/\J s.2.2.length s.2.1/\told 0 p=s.2.2++((t.drop s.1).map (·,a)++((d.drop (b+1)).flatten.map (·,a)++told (a+1) (p.drop (a+1))))) (fun s=>[(0,jf l),(3,I a),(10,L p),(11,I p.length),(12,I a),(18,L d),(19,I d.length),(20,I b),(25,L t),(26,I t.length),(27,I s.1)]) (fun s=>s.2.1) (fun s=>[]) (fun s=>t.length-s.1) (zD (0,A,pre) [_] (by simp [hJ,hr]) (by simp) rfl rfl) ?_)
   rintro ⟨j,A,pre⟩ ⟨hj,hJ,hr⟩
   simp only at hj hJ hr ⊢
   refine za (zb ?_)
   refine za (zr rfl (fun hc3=>?_) (fun hc3=>?_))
   ·simp at hc3
    obtain ⟨s,tl3,c1,c2,c3,_,e3⟩:=el 2 rfl t j hc3
    rw [c2] at hr
    simp only [List.map_cons,List.cons_append] at hr
    refine zh (za (zi (za (ze [] (zn e3 hc3) ?_))))
    intro v2
    refine za (z8 [] (by rfl) (by rfl) fun K Gc Gh hK hGc hGh X hX0 hX=>?_)
    simp -implicitDefEqProofs [hX0,hX]
    try clear hX0 hX X
    refine hGh _ _ _ _ _ fun hsuf=>YD rfl rfl rfl (hY _ _ _ _ (yieldX pre _ (s,a) hr) hJ) ?_
    rintro _ ⟨A',hJ',rfl⟩
    refine ⟨_,_,rfl,?_⟩
    clear hGc hGh
    clear Gc Gh
    refine zW hsuf (D:=[]) (by rfl) fun Gc Gh hGc hGh X hX0 hX=>?_
    simp -implicitDefEqProofs [hX0,hX]
    try clear hX0 hX X
    refine hK _ _ _ ?_
    clear hK hGc hGh
    clear K Gc Gh
    refine zo rfl (zh (zb ?_))
    exact zq (j+1,A',pre++[(s,a)]) [_] ⟨hc3,by simpa using hJ',by simp [hr]⟩ (by simp;omega) (by simp [zt j (by omega)]) rfl rfl
   ·simp at hc3
    have:j=t.length:=by omega
    subst this
    simp only [List.drop_length,List.map_nil,List.nil_append] at hr
    refine zu (zb ?_)
    exact zq (b+1,A,pre) [] ⟨hc2,hJ,hr⟩ (by simp;omega) (by simp [zt b (by omega)]) rfl (by simp)
  ·simp at hc2
   have:b=d.length:=by omega
   subst this
   simp only [List.drop_length,List.flatten_nil,List.map_nil,List.nil_append] at hr
   refine zu (zb ?_)
   exact zq (a+1,A,pre) [] ⟨hc,hJ,hr⟩ (by simp;omega) (by simp [zt a (by omega)]) rfl (by simp)
 ·simp at hc
  have:a=p.length:=by omega
  subst this
  simp only [List.drop_length,told,List.append_nil] at hr
  refine zu (wX (hJd _ _ hJ) rfl ?_)
  simpa [hr] using hJ
open Go
def yC (c:Int) (l:List (Stop × Nat)):List Visit:=(l.filter fun x=>decide (x.1.c=c)).map fun x=>⟨x.2,x.1.q⟩
theorem Y3 (c:Int) (l m:List (Stop × Nat)):yC c (l++m)=yC c l++yC c m:=by simp [yC]
theorem Y4 (c:Int) (x:Stop × Nat):yC c [x]=if x.1.c=c then [⟨x.2,x.1.q⟩] else []:=by
 by_cases h:x.1.c=c<;>simp [yC,h]
theorem ZdS (c:Int) (l:List (Stop × Nat)):(yC c l).length<=l.length:=by
 simp only [yC,List.length_map];exact List.length_filter_le _ _
structure PlanOk (p:zJ):Prop where
 n:p.length<=1048576
 d:∀d∈p,d.length<=1048576
 t:∀d∈p,∀t∈d,t.length<=1048576
 told:(told 0 p).length<=1048576
theorem ZkW (p:zJ) (c:Int) (hp:PlanOk p):Pure Tryz.prog 207 [.agg [L p],I c] (L (yC c (told 0 p))):=by
 have hlen:=hp.told
 refine zz Tryz.func207 Tryz.ntmps207 Tryz.results207 fun S nx hd=>?_
 refine za (zb ?_)
 intro v0 v1
 refine za (zb ?_)
 intro v2
 repeat apply za
 refine zb ?_
 refine zA (ZkU p) ?_
 refine y8 2 0 85 2 rfl rfl fun v3=>?_
 refine zi (YE (xs:=(told 0 p).map Jc) (σ:=List Visit × Nat) (fun i s=>s.1=yC c ((told 0 p).take i)/\s.1.length<=i/\i<=(told 0 p).length) [(3,.ptr (nx+1) v1 0),(5,.ptr (nx+2) v2 0)] (fun _=>S)
  (fun (out,v3)=>[.cells v0 38 [L p],.cells v1 3 [I c],.cells v2 26 [.sl (nx+3) v3 2 0 out.length],.cells v3 85 (out.flatMap Enc.enc)]) ([],v3)
  (ZkV p hp.n hp.d hp.t) rfl (by intro x hx;obtain ⟨y,_,rfl⟩:=List.mem_map.1 hx;rfl) (by decide) (by simp) ⟨by simp [yC],by simp,by simp⟩ rfl (by simp) (by simp) ?_ ?_)
 ·rintro l i ⟨out,v3⟩ more x ⟨ho,hl,hi⟩ hx
  simp only at ho hl hi ⊢
  rw [List.getElem?_map] at hx
  obtain ⟨y,hy,rfl⟩:=Option.map_eq_some_iff.1 hx
  obtain ⟨s,d⟩:=y
  obtain ⟨hil,hyi⟩:=List.getElem?_eq_some_iff.1 hy
  have htk:(told 0 p).take (i+1)=(told 0 p).take i++[(s,d)]:=by rw [List.take_succ_eq_append_getElem hil,hyi]
  refine z8 [] (by rfl) (by rfl) fun K Gc Gh hK hGc hGh X hX0 hX=>?_
  simp -implicitDefEqProofs [hX0,hX,Jc]
  try clear hX0 hX X
  intro v4
  refine hK _ _ _ ?_
  clear hK hGc hGh
  clear K Gc Gh
  refine zi (za (zb ?_))
  refine zr rfl (fun hc=>?_) (fun hc=>?_)
  ·simp at hc
   refine zb ?_
   refine ⟨by omega,?_⟩
   simp only [qz]
   exact xA (out++[⟨d,s.q⟩],v3+1) [_] ⟨by rw [htk,Y3,Y4,if_pos hc,ho],by simp;omega,by omega⟩ rfl (by simp;rfl)
  ·simp at hc
   refine zh ?_
   simp only [qz]
   exact xA (out,v3) [_] ⟨by rw [htk,Y3,Y4,if_neg hc,ho,List.append_nil],Nat.le_succ_of_le hl,by omega⟩ rfl (by simp;rfl)
 ·rintro ⟨out,v3⟩ ⟨ho,hl,-⟩
  simp only [List.length_map,List.take_length] at ho hl ⊢
  refine za (zb ?_)
  refine zX 3 rfl ?_
  exact zg (zk hd (by simp;rfl) (by rw [ho];rfl))
open Go
def jW (n:Nat) (d:Int):Nat:=if 0<=d/\d<64 then n ||| 2 ^ d.toNat else n
theorem VU (n:Nat) (d:Int) (hn:n<2 ^ 64):jW n d<2 ^ 64:=by
 unfold jW;split
 ·exact Nat.or_lt_two_pow hn (Nat.pow_lt_pow_right (by decide) (by omega))
 ·exact hn
def up (l:List Int):Nat:=l.foldl jW 0
theorem ZkX (l:List Int):up l<2 ^ 64:=by
 have:∀(l:List Int) (n:Nat),n<2 ^ 64->l.foldl jW n<2 ^ 64:=by
  intro l;induction l with
  | nil=>intro n h;exact h
  | cons d l ih=>intro n h;exact ih _ (VU n d h)
 exact this l 0 (by decide)
theorem VV (d:Int):Pure Tryz.prog 235 [I d] (B (decide (0<=d/\d<64))):=by
 refine zz Tryz.func235 Tryz.ntmps235 Tryz.results235 fun S nx hd=>?_
 refine za (zb ?_)
 by_cases h1:0<=d
 ·refine za (ze [(2,5)] h1 ?_)
  exact zg (zk hd (by simp;rfl) (by simp [h1,zp]))
 ·refine za (ze [(2,5)] (zn h1 zx) ?_)
  exact zg (zk hd (by simp;rfl) (by simp [h1,zp]))
theorem ZkY (d:Nat) (h:d<64):IntKind.u64.wrap (2 ^ d)=((2 ^ d:Nat):Int):=by
 have h2:(2:Nat) ^ d<2 ^ 64:=Nat.pow_lt_pow_right (by decide) h
 have h3:((2 ^ d:Nat):Int)<2 ^ 64:=by exact_mod_cast h2
 have h4:(2:Int) ^ d=((2 ^ d:Nat):Int):=by simp
 rw [h4]
 generalize (2 ^ d:Nat)=m at h3 ⊢
 simp only [IntKind.wrap,IntKind.bits,IntKind.signed]
 simp
 omega
theorem ZkZ (n:Nat) (d:Int) (hn:n<2 ^ 64):Pure Tryz.prog 192 [U n,I d] (U (jW n d)):=by
 refine zz Tryz.func192 Tryz.ntmps192 Tryz.results192 fun S nx hd=>?_
 refine za (zb ?_)
 repeat apply za
 refine zb ?_
 refine zA (VV d) ?_
 by_cases h:0<=d/\d<64
 ·repeat apply za
  refine zo (by simp [h]) ?_
  refine zh ?_
  have h1:¬d<0:=by omega
  have h2:min d.toNat 64=d.toNat:=by omega
  have h3:=ZkY d.toNat (by omega)
  have h4:bits BinOp.or IntKind.u64 (n:Int) (2 ^ d.toNat)=((n ||| 2 ^ d.toNat:Nat):Int):=by
   have:=bits_or_u64_nat n (2 ^ d.toNat) (by omega) (by have:(2:Nat) ^ d.toNat<2 ^ 64:=Nat.pow_lt_pow_right (by decide) (by omega);omega)
   simpa using this
  refine za (z8 [] (by rfl) (by rfl) fun K Gc Gh hK hGc hGh X hX0 hX=>?_)
  simp -implicitDefEqProofs [hX0,hX,h1,h2,IntKind.bits,h3,h4]
  try clear hX0 hX X
  refine hK _ _ _ ?_
  clear hK hGc hGh
  clear K Gc Gh
  exact zg (zk hd (by simp;rfl) (by simp [jW,h,zp]))
 ·repeat apply za
  refine zm (by simp;omega) ?_
  refine za (zb ?_)
  exact zg (zk hd (by simp;rfl) (by simp [jW,h,zp]))
open Go
structure CustFits (c:Cust):Prop where
 rate:0<=c.rate/\c.rate<=2147483648
 size:0<=c.size/\c.size<=2147483648
 start:0<=c.start/\c.start<=2147483648
def jX (q:Int):Bool:=decide (q<0\/2147483648<q)
def qk (size rate:Int):Int->List Int->Option (List Int)
 | _,[]=>some []
 | there,q :: l=>if size<there+q\/there+q<rate then none else (qk size rate (there+q-rate) l).map ((there+q-rate) :: ·)
def yF (c:Cust) (q:List Int):List Int × Int :=
 if q.any jX then ([],1) else match qk c.size c.rate c.start q with
 | none=>([],8)
 | some l=>(l,0)
theorem ZdT (c:Cust) {S:Store} {nx:Nat} (hd:zQ nx S):Spec Tryz.prog 205 [.agg (zM c)] S (fun p S'=>∃v,p=.fn (.func 239) [] [.ptr (nx+1) v 0,.ip (zM c)]/\S'=S.set (nx+1) (.cells v 3 [I c.start])):=by
 refine uc hd Tryz.func205 Tryz.ntmps205 Tryz.results205 ?_
 refine za (zb ?_)
 intro v0
 refine za (zb ?_)
 intro v1
 refine za (zb ?_)
 refine jR 0 rfl ?_
 refine zg ⟨_,_,rfl,⟨v1,by simp [zp],rfl⟩,ZY (j:=1) hd (by simp)⟩
theorem ZdU (c:Cust) (q there:Int) {S:Store} {id v:Nat} (hid:S id=.cells v 3 [I there]) (h1:-4611686018427387904<=there+q/\there+q<=4611686018427387904) (h2:-4611686018427387904<=there+q-c.rate/\there+q-c.rate<=4611686018427387904) :
  Spec Tryz.prog 239 [I q,.ptr id v 0,.ip (zM c)] S (fun p S'=>p=.tup [I (there+q),I (there+q-c.rate)]/\S'=S.set id (.cells v 3 [I (there+q-c.rate)])):=by
 refine qO Tryz.func239 Tryz.ntmps239 Tryz.results239 fun nx hd=>?_
 have hlt:id<nx:=by
  rcases Nat.lt_or_ge id nx with h | h
  ·exact h
  ·rw [hd id h] at hid;cases hid
 have hge:¬nx<=id:=by omega
 have hE:∀obs,ext S nx obs id=.cells v 3 [I there]:=fun obs=>(zH hlt).trans hid
 have hE2:∀obs x,ext (S.set id x) nx obs id=x:=fun obs x=>(zH hlt).trans (Store.set_same _ _ _)
 have hd2:∀x,zQ nx (S.set id x):=fun x i hi=>by rw [Store.set_other _ _ _ _ (by omega)];exact hd i hi
 have w1:IntKind.i64.wrap (there+q)=there+q:=wr _ (by omega) (by omega)
 have w2:IntKind.i64.wrap (there+q-c.rate)=there+q-c.rate:=wr _ (by omega) (by omega)
 refine za (zb ?_)
 refine za (ze [] (zn hE w1) ?_)
 refine za (ze [] (zE hE hge w2) ?_)
 refine za (zF none (Row.pures [0,1,2,3] .done) mixed hE2 ?_)
 refine zg ⟨_,_,rfl,⟨rfl,rfl⟩,zU (hd2 _)⟩
theorem ZdV {size rate there q:Int} {l:List Int} {out:List Int} {r:Option (List Int)} (h:r=(qk size rate there (q :: l)).map (out++·)) (hs:¬size<there+q) (hr:¬there+q<rate) :
  r=(qk size rate (there+q-rate) l).map ((out++[there+q-rate])++·):=by
 rw [h]
 simp only [qk,hs,hr,or_self,if_false,Option.map_map]
 congr 1
 funext x
 simp
theorem VW (c:Cust) (q:List Int) (hc:CustFits c) (hq:q.length<=1048576):Pure Tryz.prog 164 [.agg (zM c),L q] (.tup [L (yF c q).1,I (yF c q).2]):=by
 obtain ⟨hr,hsz,hst⟩:=hc
 refine zz Tryz.func164 Tryz.ntmps164 Tryz.results164 fun S nx hd=>?_
 refine za (zb ?_)
 intro v0
 repeat apply za
 refine zb ?_
 refine yk (nx:=nx) (σ:=Nat) (fun v0=>q.any jX=false) (fun v0=>[(1,L q),(2,.ptr nx v0 0)]) (fun _=>S) (fun v0=>[.cells v0 65 (zM c)]) ?_ ?_
 ·refine zi (zB (fun s:Nat=>s<=q.length/\(q.take s).any jX=false) (fun k=>[(1,L q),(2,.ptr nx v0 0),(14,L q),(15,I q.length),(16,I k)]) (fun _=>[.cells v0 65 (zM c)]) (fun s=>q.length-s) 0 [] (by simp) (by simp) (by simp) ?_)
  rintro k ⟨hk,ho⟩
  refine za (zb ?_)
  refine za (zr rfl (fun hc=>?_) (fun hc=>?_))
  ·simp at hc
   obtain ⟨z,tl,a1,a2,a3,e0⟩:=zC rfl q k hc
   have bad:jX z=true->yF c q=([],1):=fun h=>by
    have:q.any jX=true:=by rw [List.any_eq_true];exact ⟨z,List.mem_of_getElem? a1,h⟩
    simp [yF,this]
   refine zh (za (zi (za (ze [] (zn e0 hc) ?_))))
   by_cases h1:z<0
   ·refine za (ze [(2,22)] (zn h1 zx) ?_)
    refine zm rfl (za (zb ?_))
    refine xz 4 rfl ?_
    exact zg (zk hd (by simp;rfl) (by rw [bad (by simp [jX,h1])];rfl))
   by_cases h2:(2147483648:Int)<z
   ·refine za (ze [(2,22)] (zn h1 h2) ?_)
    refine zm rfl (za (zb ?_))
    refine xz 4 rfl ?_
    exact zg (zk hd (by simp;rfl) (by rw [bad (by simp [jX,h2])];rfl))
   refine za (ze [(2,22)] (zn h1 h2) ?_)
   refine zo rfl (zh (zb ?_))
   exact zq (k+1) [] ⟨hc,by rw [a3,List.any_append,ho];simp [jX];omega⟩ (by omega) (by simp [zt k (by omega)]) rfl (by simp)
  ·simp at hc
   obtain rfl:k=q.length:=by omega
   rw [List.take_length] at ho
   exact zu (zD v0 [] ho (by simp) rfl (by simp))
 ·intro v0 hb
  have hq0:∀z∈q,0<=z/\z<=2147483648:=by
   intro z hz
   rw [List.any_eq_false] at hb
   have:=hb z hz
   simp [jX] at this
   omega
  have hres:yF c q=match qk c.size c.rate c.start q with | none=>([],8) | some l=>(l,0):=by simp [yF,hb]
  refine za (z8 [] (by rfl) (by rfl) fun K Gc Gh hK hGc hGh X hX0 hX=>?_)
  simp -implicitDefEqProofs [hX0,hX]
  try clear hX0 hX X
  refine hGc _ _ _ _ _ _ _ fun hsuf=>((ZdT c qN).mono ?_).v
  rintro p T ⟨v1,rfl,rfl⟩
  refine ⟨_,_,YC _,?_⟩
  clear hGc hGh
  clear Gc Gh
  refine zW hsuf (D:=[]) (by rfl) fun Gc Gh hGc hGh X hX0 hX=>?_
  simp -implicitDefEqProofs [hX0,hX]
  clear hX0 hX X
  refine hK _ _ _ ?_
  clear hK hGc hGh
  clear K Gc Gh
  refine za (zb ?_)
  refine ⟨by omega,fun v2=>?_⟩
  refine Zgb 3 0 rfl ?_
  simp only [List.take_zero,List.set_cons_succ,List.set_cons_zero,List.append_eq,List.cons_append,List.nil_append,List.length_cons,List.length_nil]
  repeat apply za
  refine zb ?_
  refine zi (zB (fun s:Nat × Int × List Int × Nat=>s.1<=q.length/\s.2.2.1.length=s.1/\(0<=s.2.1/\s.2.1<=2147483648)/\qk c.size c.rate c.start q=(qk c.size c.rate s.2.1 (q.drop s.1)).map (s.2.2.1++·))
   (fun (k,there,out,v2)=>[(2,.ptr nx v0 0),(8,.fn (.func 239) [] [.ptr (nx+2) v1 0,.ip (zM c)]),(9,.sl (nx+3) v2 1 0 out.length),(32,L q),(33,I q.length),(34,I k)])
   (fun (k,there,out,v2)=>[.cells v0 65 (zM c),.dead,.cells v1 3 [I there],.cells v2 3 (out.flatMap Enc.enc)]) (fun s=>q.length-s.1) (0,c.start,[],v2) [] ?_ (by simp) (by simp) ?_)
  ·refine ⟨by simp,by simp,hst,?_⟩
   simp
  rintro ⟨k,there,out,v2⟩ ⟨hk,hol,hth,ho⟩
  simp only at hk hol hth ho ⊢
  refine za (zb ?_)
  refine za (zr rfl (fun hc=>?_) (fun hc=>?_))
  ·simp at hc
   obtain ⟨z,tl,a1,a2,a3,e0⟩:=zC rfl q k hc
   have hz:=hq0 z (List.mem_of_getElem? a1)
   rw [a2] at ho
   refine zh (za (zi (za (ze [] (zn e0 hc) ?_))))
   refine za (z8 [] (by rfl) (by rfl) fun K Gc Gh hK hGc hGh X hX0 hX=>?_)
   simp -implicitDefEqProofs [hX0,hX]
   try clear hX0 hX X
   refine hGc _ _ _ _ _ _ _ fun hsuf=>((ZdU c z there (id:=nx+2) (v:=v1) (by simp) (by omega) (by omega)).mono ?_).v
   rintro p T ⟨rfl,rfl⟩
   refine ⟨_,_,qA _ (by omega) (by simp),?_⟩
   clear hGc hGh
   clear Gc Gh
   refine zW hsuf (D:=[]) (by rfl) fun Gc Gh hGc hGh X hX0 hX=>?_
   simp -implicitDefEqProofs [hX0,hX]
   clear hX0 hX X
   refine hK _ _ _ ?_
   clear hK hGc hGh
   clear K Gc Gh
   have bad:(c.size<there+z\/there+z<c.rate)->yF c q=([],8):=fun h=>by
    rw [hres,ho];simp only [qk,if_pos h,Option.map_none]
   by_cases h1:c.size<there+z
   ·repeat apply za
    refine ze [(4,48)] (zn h1 zx) ?_
    refine zm rfl (za (zb ?_))
    refine xz 4 rfl ?_
    exact zg (zk hd (by simp;rfl) (by rw [bad (.inl h1)];rfl))
   by_cases h2:there+z<c.rate
   ·repeat apply za
    refine ze [(4,48)] (zn h1 h2) ?_
    refine zm rfl (za (zb ?_))
    refine xz 4 rfl ?_
    exact zg (zk hd (by simp;rfl) (by rw [bad (.inr h2)];rfl))
   repeat apply za
   refine ze [(4,48)] (zn h1 h2) ?_
   refine zo rfl (zh (zb ?_))
   refine ⟨by omega,?_⟩
   refine zb ?_
   exact zq (k+1,there+z-c.rate,out++[there+z-c.rate],v2+1) [] ⟨hc,by simp [hol],by dsimp only;omega,ZdV ho h1 h2⟩ (by simp;omega) (by simp [zt k (by omega)]) rfl (by simp)
  ·simp at hc
   obtain rfl:k=q.length:=by omega
   rw [List.drop_length] at ho
   simp only [qk,Option.map_some,List.append_nil] at ho
   refine zu (za (zb ?_))
   refine zX 3 rfl ?_
   exact zg (zk hd (by simp;rfl) (by rw [hres,ho];simp [zp]))
open Go
def ve (rate size:Int):List Int->List Int->Bool
 | z :: q,n :: l=>decide (0<z/\n+rate≠size) || ve rate size q l
 | _,_=>false
def wy (c:Cust) (q:List Int):Int :=
 if (yF c q).2≠0 then (yF c q).2 else if c.rule≠1 then 0 else if ve c.rate c.size q (yF c q).1 then 9 else 0
def uY (c:Cust) (ns:List Int):Int:=W (c.hold*W ns.sum)
theorem Y5 (l:List Int) (x:Int):(l++[x]).sum=l.sum+x:=by simp
theorem VX (c:Cust) (ns:List Int) (hn:ns.length<=1048576):Pure Tryz.prog 166 [.agg (zM c),L ns] (I (uY c ns)):=by
 refine zz Tryz.func166 Tryz.ntmps166 Tryz.results166 fun S nx hd=>?_
 refine za (zb ?_)
 intro v0
 refine za (zb ?_)
 repeat apply za
 refine zb ?_
 refine zi (zB (fun s:Nat=>s<=ns.length) (fun k=>[(2,.ptr nx v0 0),(5,I (W (ns.take k).sum)),(8,L ns),(9,I ns.length),(10,I k)]) (fun _=>[.cells v0 65 (zM c)]) (fun s=>ns.length-s) 0 [] (by simp) (by simp) (by simp) ?_)
 rintro k hk
 refine za (zb ?_)
 refine za (zr rfl (fun hc=>?_) (fun hc=>?_))
 ·simp at hc
  obtain ⟨z,tl,a1,a2,a3,e0⟩:=zC rfl ns k hc
  refine zh (za (zi (za (ze [] (zn e0 hc) ?_))))
  refine zb ?_
  refine zb ?_
  have hw:W (W (ns.take k).sum+z)=W (ns.take (k+1)).sum:=by rw [a3,Y5,xO]
  exact zq (k+1) [] hc (by omega) (by simp [zt k (by omega)];exact hw) rfl (by simp)
 ·simp at hc
  obtain rfl:k=ns.length:=by omega
  rw [List.take_length]
  refine zu (za (zb ?_))
  exact zg (zk hd (by simp;rfl) rfl)
theorem Zk0 (c:Cust) (q:List Int) (hc:CustFits c) (hq:q.length<=1048576):Pure Tryz.prog 258 [.agg (zM c),L q] (I (wy c q)):=by
 have hni:=VW c q hc hq
 obtain ⟨hr,hsz,hst⟩:=hc
 refine zz Tryz.func258 Tryz.ntmps258 Tryz.results258 fun S nx hd=>?_
 refine za (zb ?_)
 intro v0
 repeat apply za
 refine zb ?_
 refine zA hni ?_
 by_cases he:(yF c q).2=0
 case neg =>
  refine za (ze [] he ?_)
  refine zm (by simp [he]) ?_
  refine za (zb ?_)
  exact zg (zk hd (by simp;rfl) (by simp [wy,he,zp]))
 refine za (ze [] he ?_)
 refine zo (by simp [he]) ?_
 refine zh ?_
 by_cases hru:c.rule=1
 case neg =>
  repeat apply za
  refine ze [] hru ?_
  refine zm (by simp [hru]) ?_
  refine za (zb ?_)
  exact zg (zk hd (by simp;rfl) (by simp [wy,he,hru,zp]))
 repeat apply za
 refine ze [] hru ?_
 refine zo (by simp [hru]) ?_
 refine zh ?_
 have hres:wy c q=if ve c.rate c.size q (yF c q).1 then 9 else 0:=by simp [wy,he,hru]
 obtain ⟨l,hl,hq0⟩:∃l,qk c.size c.rate c.start q=some l/\(yF c q).1=l/\∀z∈q,0<=z/\z<=2147483648:=by
  unfold yF at he ⊢
  split at he
  ·simp at he
  ·rename_i hb
   cases hrn:qk c.size c.rate c.start q with
   | none=>simp [hrn] at he
   | some l =>
    refine ⟨l,rfl,by simp [hb],fun z hz=>?_⟩
    simp only [Bool.not_eq_true,List.any_eq_false] at hb
    have:=hb z hz
    simp [jX] at this
    omega
 obtain ⟨hl1,hq0⟩:=hq0
 rw [hl1] at hres
 refine za (z8 [] (by rfl) (by rfl) fun K Gc Gh hK hGc hGh X hX0 hX=>?_)
 simp -implicitDefEqProofs [hX0,hX]
 try clear hX0 hX X
 refine hGc _ _ _ _ _ _ _ fun hsuf=>((ZdT c qN).mono ?_).v
 rintro p T ⟨v1,rfl,rfl⟩
 refine ⟨_,_,YC _,?_⟩
 clear hGc hGh
 clear Gc Gh
 refine zW hsuf (D:=[]) (by rfl) fun Gc Gh hGc hGh X hX0 hX=>?_
 simp -implicitDefEqProofs [hX0,hX]
 clear hX0 hX X
 refine hK _ _ _ ?_
 clear hK hGc hGh
 clear K Gc Gh
 repeat apply za
 refine zb ?_
 refine zi (zB (fun s:Nat × Int=>s.1<=q.length/\(0<=s.2/\s.2<=2147483648)/\qk c.size c.rate s.2 (q.drop s.1)=some (l.drop s.1)/\ve c.rate c.size q l=ve c.rate c.size (q.drop s.1) (l.drop s.1))
  (fun (k,there)=>[(2,.ptr nx v0 0),(7,.fn (.func 239) [] [.ptr (nx+2) v1 0,.ip (zM c)]),(26,L q),(27,I q.length),(28,I k)])
  (fun (k,there)=>[.cells v0 65 (zM c),.dead,.cells v1 3 [I there]]) (fun s=>q.length-s.1) (0,c.start) [] ⟨by simp,hst,by simpa using hl,by simp⟩ (by simp) (by simp) ?_)
 rintro ⟨k,there⟩ ⟨hk,hth,hrn,ho⟩
 simp only at hk hth hrn ho ⊢
 refine za (zb ?_)
 refine za (zr rfl (fun hc=>?_) (fun hc=>?_))
 ·simp at hc
  obtain ⟨z,tl,a1,a2,a3,e0⟩:=zC rfl q k hc
  have hz:=hq0 z (List.mem_of_getElem? a1)
  rw [a2] at hrn ho
  simp only [qk] at hrn
  split at hrn
  ·cases hrn
  rename_i hno
  obtain ⟨l2,hl2,hl3⟩:=Option.map_eq_some_iff.1 hrn
  rw [<-hl3] at ho
  simp only [ve] at ho
  have hl4:l.drop (k+1)=l2:=by rw [<-List.drop_drop,<-hl3];rfl
  have hs1:there+z-c.rate+c.rate=there+z:=by omega
  rw [hs1] at ho
  refine zh (za (zi (za (ze [] (zn e0 hc) ?_))))
  refine za (z8 [] (by rfl) (by rfl) fun K Gc Gh hK hGc hGh X hX0 hX=>?_)
  simp -implicitDefEqProofs [hX0,hX]
  try clear hX0 hX X
  refine hGc _ _ _ _ _ _ _ fun hsuf=>((ZdU c z there (id:=nx+2) (v:=v1) (by simp) (by omega) (by omega)).mono ?_).v
  rintro p T ⟨rfl,rfl⟩
  refine ⟨_,_,qA _ (by omega) (by simp),?_⟩
  clear hGc hGh
  clear Gc Gh
  refine zW hsuf (D:=[]) (by rfl) fun Gc Gh hGc hGh X hX0 hX=>?_
  simp -implicitDefEqProofs [hX0,hX]
  clear hX0 hX X
  refine hK _ _ _ ?_
  clear hK hGc hGh
  clear K Gc Gh
  by_cases h1:0<z
  ·by_cases h2:there+z=c.size
   ·refine za (ze [(2,40)] (zn h1 h2) ?_)
    refine zo (by simp [h2]) ?_
    refine zh (zb ?_)
    exact zq (k+1,there+z-c.rate) [] ⟨hc,by dsimp only;omega,by rw [hl4];exact hl2,by rw [ho,hl4,decide_eq_false (by omega),Bool.false_or]⟩ (by simp;omega) (by simp [zt k (by omega)]) rfl (by simp [h2])
   ·refine za (ze [(2,40)] (zn h1 h2) ?_)
    refine zm (by simp [h2]) ?_
    refine za (zb ?_)
    exact zg (zk hd (by simp;rfl) (by rw [hres,ho];simp [h1,h2,zp]))
  ·refine za (ze [(2,40)] (zn h1 zx) ?_)
   refine zo rfl (zh (zb ?_))
   exact zq (k+1,there+z-c.rate) [] ⟨hc,by dsimp only;omega,by rw [hl4];exact hl2,by rw [ho,hl4,decide_eq_false (by omega),Bool.false_or]⟩ (by simp;omega) (by simp [zt k (by omega)]) rfl (by simp)
 ·simp at hc
  obtain rfl:k=q.length:=by omega
  rw [List.drop_length] at ho
  simp only [ve] at ho
  refine zu (za (zb ?_))
  exact zg (zk hd (by simp;rfl) (by rw [hres,ho];rfl))
def vH (a b:Int):Int:=if a+b < -9223372036854775808 then -9223372036854775808 else if 9223372036854775807<a+b then 9223372036854775807 else a+b
theorem Zk1 (a b:Int) (ha:zR a) (hb:zR b):Pure Tryz.prog 257 [I a,I b] (if -9223372036854775808<=a+b/\a+b<=9223372036854775807 then .tup [I (a+b),B true] else .tup [I 0,B false]):=by
 unfold zR at ha hb
 refine zz Tryz.func257 Tryz.ntmps257 Tryz.results257 fun S nx hd=>?_
 refine za (zb ?_)
 by_cases h:-9223372036854775808<=a+b/\a+b<=9223372036854775807
 ·have w1:IntKind.i64.wrap (a+b)=a+b:=wr _ h.1 h.2
  refine za (ze [] w1 ?_)
  by_cases h1:b<0
  ·have h2:a+b<a:=by omega
   repeat apply za
   refine ze [] (zn h1 h2) ?_
   refine zo (by simp) ?_
   refine zh (za (zb ?_))
   exact zg (zk hd (by simp;rfl) (by simp [h,zp]))
  ·have h2:¬a+b<a:=by omega
   repeat apply za
   refine ze [] (zn h1 h2) ?_
   refine zo (by simp) ?_
   refine zh (za (zb ?_))
   exact zg (zk hd (by simp;rfl) (by simp [h,zp]))
 ·by_cases h0:a+b < -9223372036854775808
  ·have w1:IntKind.i64.wrap (a+b)=a+b+18446744073709551616:=by rw [IntKind.wrap_i64];omega
   have h1:b<0:=by omega
   have h2:¬a+b+18446744073709551616<a:=by omega
   refine za (ze [] w1 ?_)
   repeat apply za
   refine ze [] (zn h1 h2) ?_
   refine zm (by simp) ?_
   refine za (zb ?_)
   exact zg (zk hd (by simp;rfl) (by simp only [h,if_false];rfl))
  ·have w1:IntKind.i64.wrap (a+b)=a+b-18446744073709551616:=by rw [IntKind.wrap_i64];omega
   have h1:¬b<0:=by omega
   have h2:a+b-18446744073709551616<a:=by omega
   refine za (ze [] w1 ?_)
   repeat apply za
   refine ze [] (zn h1 h2) ?_
   refine zm (by simp) ?_
   refine za (zb ?_)
   exact zg (zk hd (by simp;rfl) (by simp only [h,if_false];rfl))
theorem ZdW (a b:Int) (ha:zR a) (hb:zR b):Pure Tryz.prog 234 [I a,I b] (I (vH a b)):=by
 have hadd:=Zk1 a b ha hb
 unfold zR at ha hb
 refine zz Tryz.func234 Tryz.ntmps234 Tryz.results234 fun S nx hd=>?_
 refine za (zb ?_)
 by_cases h:-9223372036854775808<=a+b/\a+b<=9223372036854775807
 ·rw [if_pos h] at hadd
  refine za (zb ?_)
  refine zA hadd ?_
  refine za (zi (za (zb ?_)))
  refine zm rfl (za (zb ?_))
  exact zg (zk hd (by simp;rfl) (by simp only [vH,zp];rw [if_neg (by omega),if_neg (by omega)]))
 ·rw [if_neg h] at hadd
  refine za (zb ?_)
  refine zA hadd ?_
  refine za (zi (za (zb ?_)))
  refine zo rfl (za (zb ?_))
  refine zr rfl (fun h1=>?_) (fun h1=>?_)
  ·simp at h1
   refine za (zb ?_)
   exact zg (zk hd (by simp;rfl) (by simp only [vH,zp];rw [if_pos (by omega)]))
  ·simp at h1
   refine zh (za (zb ?_))
   exact zg (zk hd (by simp;rfl) (by simp only [vH,zp];rw [if_neg (by omega),if_pos (by omega)]))
theorem Zk2 (a lo hi:Int):Pure Tryz.prog 79 [I a,I lo,I hi] (I (min (max a lo) hi)):=by
 have h1:vk (j4 a lo) hi=min (max a lo) hi:=by unfold vk j4;split<;>split<;>omega
 refine zz Tryz.func79 Tryz.ntmps79 Tryz.results79 fun S nx hd=>?_
 refine za (zb ?_)
 refine za (ze [] h1 ?_)
 exact zg (zk hd (by simp;rfl) rfl)
def yx (v:List Visit) (n:Int):List Int:=(List.range (min (max n 0) 64).toNat).map fun (d:Nat)=>((v.filter fun s=>decide (s.d=(d:Int))).map (·.q)).sum
theorem XB (v:List Visit) (n:Int):(yx v n).length=(min (max n 0) 64).toNat:=by simp [yx]
theorem Zk3 (n:Int):yx [] n=List.replicate (min (max n 0) 64).toNat 0:=by
 apply List.ext_getElem
 ·simp [yx]
 ·intro i h1 h2;simp [yx]
theorem Zk4 (v:List Visit) (n:Int) (s:Visit) (h:¬(0<=s.d/\s.d<((min (max n 0) 64).toNat:Int))):yx (v++[s]) n=yx v n:=by
 unfold yx
 apply List.map_congr_left
 intro d hd
 have hdl:=List.mem_range.1 hd
 have:¬s.d=(d:Int):=by omega
 simp [this]
theorem Zk5 (v:List Visit) (n:Int) (s:Visit) (d:Nat) (hs:s.d=(d:Int)) (b:Int) (hb:(yx v n)[d]?=some b):yx (v++[s]) n=(yx v n).set d (b+s.q):=by
 obtain ⟨hdl,hbe⟩:=List.getElem?_eq_some_iff.1 hb
 apply List.ext_getElem
 ·simp [yx]
 ·intro i h1 h2
  rw [List.getElem_set]
  have hil:i<(yx v n).length:=by simpa using h2
  by_cases q:d=i
  ·subst q
   rw [if_pos rfl,<-hbe]
   simp [yx,hs]
  ·rw [if_neg q]
   have:¬s.d=(i:Int):=by omega
   simp [yx,this]
structure VisOk (v:List Visit):Prop where
 n:v.length<=1048576
 q:∀s∈v,0<=s.q/\s.q<=2147483648
 d:∀s∈v,zR s.d
theorem ZdX (v:List Visit) (p:Visit->Bool) (h:∀s∈v,0<=s.q/\s.q<=2147483648):0<=((v.filter p).map (·.q)).sum/\((v.filter p).map (·.q)).sum<=2147483648*v.length:=by
 induction v with
 | nil=>simp
 | cons s v ih =>
  have h1:=ih fun x hx=>h x (by simp [hx])
  have h2:=h s (by simp)
  rw [List.filter_cons]
  split
  ·simp only [List.map_cons,List.sum_cons,List.length_cons];omega
  ·simp only [List.length_cons];omega
theorem Zk6 {v:List Visit} (hv:∀s∈v,0<=s.q/\s.q<=2147483648) (n:Int):∀b∈yx v n,0<=b/\b<=2147483648*v.length:=by
 intro b hb
 simp only [yx,List.mem_map] at hb
 obtain ⟨d,_,rfl⟩:=hb
 exact ZdX v _ hv
theorem ZdY (v:List Visit) (n:Int) (hv:VisOk v):Pure Tryz.prog 206 [L v,I n] (L (yx v n)):=by
 have hvn:=hv.n
 have hm:min (max n 0) 64=(((min (max n 0) 64).toNat:Nat):Int):=by omega
 have hm64:(min (max n 0) 64).toNat<=64:=by omega
 refine zz Tryz.func206 Tryz.ntmps206 Tryz.results206 fun S nx hd=>?_
 refine za (zb ?_)
 refine za (zb ?_)
 refine zA (Zk2 n 0 64) ?_
 refine ⟨by omega,fun v1=>?_⟩
 generalize hmm:(min (max n 0) 64).toNat=m at hm hm64
 have hz:=Zk3 n
 rw [hmm] at hz
 repeat apply za
 refine zb ?_
 refine zi (zB (fun s:Nat=>s<=v.length) (fun k=>[(5,.sl nx v1 1 0 m),(11,L v),(12,I v.length),(13,I k)]) (fun k=>[.cells v1 3 ((yx (v.take k) n).flatMap Enc.enc)]) (fun s=>v.length-s) 0 [] (by simp) (by simp [hmm]) (by simp [hz,hmm,WL]) ?_)
 rintro k hk
 have hbl:=XB (v.take k) n
 rw [hmm] at hbl
 refine za (zb ?_)
 refine za (zr rfl (fun hc=>?_) (fun hc=>?_))
 ·simp at hc
  obtain ⟨s,tl,a1,a2,a3,_,e0⟩:=el 2 rfl v k hc
  have hsm:=List.mem_of_getElem? a1
  have hsq:=hv.q s hsm
  have hout:=Zk4 (v.take k) n s
  rw [hmm] at hout
  refine zh (za (zi (za (ze [] (zn e0 hc) ?_))))
  intro v2
  by_cases h1:0<=s.d
  ·by_cases h2:s.d<(m:Int)
   ·obtain ⟨d,hd⟩:=Int.eq_ofNat_of_zero_le h1
    have hdm:d<m:=by omega
    obtain ⟨b,tl2,b1,b2,b3,e2⟩:=zC rfl (yx (v.take k) n) d (by omega)
    have hbm:=Zk6 (fun x hx=>hv.q x (List.mem_of_mem_take hx)) n b (List.mem_of_getElem? b1)
    have htl:(v.take k).length<=1048576:=by simp;omega
    have hin:=Zk5 (v.take k) n s d hd b b1
    have hsp:=J8 (yx (v.take k) n) d (b+s.q) (by omega)
    have hsat:vH b s.q=b+s.q:=by unfold vH;rw [if_neg (by omega),if_neg (by omega)]
    have hflen:((yx (v.take k) n).flatMap Enc.enc).length=m:=by rw [qY,hbl]
    refine za (ze [(3,20)] (zn h1 h2) ?_)
    refine zm rfl (zF (some [nx+1]) (Row.pures [0,1,2,3,4,5,6,8,9] (.alt 7 (Row.pures [10,11] (.alt 12 (.done) .stop)) .stop)) mixed (zP hd hdm e2 hbl) ?_)
    refine zN (ZdW b s.q (by unfold zR;omega) (by unfold zR;omega)) (yD hsat hsp hbl hdm hd) ?_
    refine ⟨by omega,?_⟩
    refine zb ?_
    exact zq (k+1) [_] hc (by omega) (by simp [zt k (by omega)]) rfl (by rw [a3,hin];rfl)
   ·refine za (ze [(3,20)] (zn h1 h2) ?_)
    refine zo rfl (zh (zb ?_))
    exact zq (k+1) [_] hc (by omega) (by simp [zt k (by omega)]) rfl (by rw [a3,hout (by omega)];rfl)
  ·refine za (ze [(3,20)] (zn h1 zx) ?_)
   refine zo rfl (zh (zb ?_))
   exact zq (k+1) [_] hc (by omega) (by simp [zt k (by omega)]) rfl (by rw [a3,hout (by omega)];rfl)
 ·simp at hc
  obtain rfl:k=v.length:=by omega
  rw [List.take_length] at hbl ⊢
  refine zu (za (zb ?_))
  refine zX 0 rfl ?_
  exact zg (zk hd (by simp;rfl) (by simp [hbl,zp]))
open Go
def yr (n:Nat):List Int:=if h:n=0 then [] else ((n % 65536:Nat):Int) :: yr (n / 65536)
termination_by n
decreasing_by omega
theorem Zx:yr 0=[]:=by rw [yr];simp
theorem Zy {n:Nat} (h:n≠0):yr n=((n % 65536:Nat):Int) :: yr (n / 65536):=by rw [yr];simp [h]
def yg:List Int->Int
 | []=>0
 | d :: l=>d+65536*yg l
def xp (l:List Int):Prop:=∀d∈l,0<=d/\d<65536
def Yf:List Int->Prop
 | []=>True
 | [d]=>d≠0
 | _ :: e :: l=>Yf (e :: l)
theorem Zz:∀n:Nat,xp (yr n)/\yg (yr n)=n/\Yf (yr n)/\(n<65536 ^ 4->(yr n).length<=4):=by
 intro n
 induction n using Nat.strongRecOn with
 | _ n ih =>
  by_cases h:n=0
  ·subst h;rw [Zx];exact ⟨fun d hd=>(nomatch hd),rfl,trivial,by simp⟩
  ·obtain ⟨h1,h2,h3,_⟩:=ih (n / 65536) (by omega)
   rw [Zy h]
   refine ⟨?_,?_,?_,?_⟩
   ·intro d hd
    rcases List.mem_cons.1 hd with rfl | hd
    ·omega
    ·exact h1 d hd
   ·simp only [yg,h2];omega
   ·cases hl:yr (n / 65536) with
    | nil =>
     rw [hl] at h2
     simp only [yg] at h2
     simp only [Yf];omega
    | cons e l=>rw [hl] at h3;exact h3
   ·intro hlt
    have:∀m:Nat,∀k:Nat,m<65536 ^ k->(yr m).length<=k:=by
     intro m k
     induction k generalizing m with
     | zero=>intro hm;simp at hm;subst hm;rw [Zx];simp
     | succ k ihk =>
      intro hm
      by_cases h0:m=0
      ·subst h0;rw [Zx];simp
      ·rw [Zy h0]
       have:=ihk (m / 65536) (by rw [Nat.pow_succ] at hm;exact Nat.div_lt_of_lt_mul (by rw [Nat.mul_comm];exact hm))
       simp;exact this
    have:=this n 4 hlt
    rw [Zy h] at this
    exact this
theorem VY {l:List Int} (h:xp l):0<=yg l:=by
 induction l with
 | nil=>simp [yg]
 | cons d l ih =>
  have h1:=h d (by simp)
  have h2:=ih fun x hx=>h x (by simp [hx])
  simp only [yg];omega
theorem XC (a b:List Int):yg (a++b)=yg a+65536 ^ a.length*yg b:=by
 induction a with
 | nil=>simp [yg]
 | cons d a ih=>simp only [List.cons_append,yg,ih,List.length_cons,Int.pow_succ];rw [Int.mul_add,Int.mul_comm (65536 ^ a.length) 65536,Int.mul_assoc];omega
theorem Zk7:∀{l:List Int},xp l->Yf l->l=yr (yg l).toNat:=by
 intro l
 induction l with
 | nil=>intro _ _;simp only [yg];exact Zx.symm
 | cons d l ih =>
  intro h ht
  have h1:=h d (by simp)
  have hl:xp l:=fun x hx=>h x (by simp [hx])
  have h2:=VY hl
  cases l with
  | nil =>
   simp only [Yf] at ht
   simp only [yg]
   rw [Zy (by omega)]
   have e1:(d+65536*0).toNat / 65536=0:=by omega
   rw [e1,Zx]
   congr 1;omega
  | cons e l =>
   have:=ih hl ht
   have hpos:yg (e :: l)≠0:=by
    intro h0
    rw [h0] at this
    rw [show (0:Int).toNat=0 from rfl,Zx] at this
    cases this
   have ev:yg (d :: e :: l)=d+65536*yg (e :: l):=rfl
   rw [ev,Zy (by omega)]
   have e1:(d+65536*yg (e :: l)).toNat / 65536=(yg (e :: l)).toNat:=by omega
   rw [e1,<-this]
   congr 1;omega
theorem XE (n:Int) (hn:zR n):Pure Tryz.prog 156 [I n] (.agg [L (yr n.natAbs),B (decide (n<0))]):=by
 unfold zR at hn
 have hd4:=(Zz n.natAbs).2.2.2 (by rw [show (65536:Nat) ^ 4=18446744073709551616 from by decide];omega)
 refine zz Tryz.func156 Tryz.ntmps156 Tryz.results156 fun S nx hd=>?_
 refine za (zb ?_)
 intro v0
 refine za (zb ?_)
 intro v1
 refine za (zb ?_)
 refine za (y8 1 0 3 1 rfl rfl fun v2=>?_)
 refine zi (zB (fun s:Int × List Int × Nat=>yr n.natAbs=s.2.1++yr s.1.natAbs/\(-9223372036854775808<=s.1/\s.1<=9223372036854775807)) (fun (m,out,v2)=>[(0,I m),(2,.ptr nx v0 0),(3,.ptr (nx+1) v1 0)])
  (fun (m,out,v2)=>[.cells v0 204 [.sc (.slice none 0 0),B false],.cells v1 204 [.sl (nx+2) v2 1 0 out.length,B (decide (n<0))],.cells v2 3 (out.flatMap Enc.enc)]) (fun s=>s.1.natAbs) (n,[],v2) [] (by simp;exact hn) (by simp) (by simp) ?_)
 rintro ⟨m,out,v2⟩ ⟨ho,hm⟩
 simp only at ho hm ⊢
 by_cases h0:m=0
 ·subst h0
  rw [show (0:Int).natAbs=0 from rfl,Zx,List.append_nil] at ho
  repeat apply za
  refine zb ?_
  refine zo rfl (zu (za (zb ?_)))
  refine zX 2 rfl ?_
  exact zg (zk hd (by simp;rfl) (by rw [ho];simp [zp]))
 ·repeat apply za
  refine ze [] h0 ?_
  refine zm (by simp [h0]) ?_
  refine zh (zi ?_)
  have hdm:yr m.natAbs=((m.natAbs % 65536:Nat):Int) :: yr (m.tdiv 65536).natAbs:=by
   rw [Zy (by omega)]
   congr 2
   rw [Int.natAbs_tdiv];rfl
  rw [hdm] at ho
  have hol:out.length<=4:=by rw [ho] at hd4;simp at hd4;omega
  have hq:(m.tdiv 65536).natAbs=m.natAbs / 65536:=by rw [Int.natAbs_tdiv];rfl
  have hq2:-9223372036854775808<=m.tdiv 65536/\m.tdiv 65536<=9223372036854775807:=by omega
  have w1:IntKind.i64.wrap (m.tdiv 65536)=m.tdiv 65536:=wr _ hq2.1 hq2.2
  refine za (zb ?_)
  repeat apply za
  refine zb ?_
  by_cases hneg:m.tmod 65536<0
  ·have e1:-(m.tmod 65536)=((m.natAbs % 65536:Nat):Int):=by
    have:=Int.natAbs_tmod m 65536
    have e:(65536:Int).natAbs=65536:=rfl
    rw [e] at this;omega
   have w2:IntKind.i64.wrap (-(m.tmod 65536))=((m.natAbs % 65536:Nat):Int):=by rw [wr _ (by omega) (by omega)];exact e1
   refine zm (by simp [hneg]) ?_
   refine ze [] w2 ?_
   refine za (zb ?_)
   refine ⟨by omega,?_⟩
   refine ze [] w1 ?_
   exact zq (m.tdiv 65536,out++[((m.natAbs % 65536:Nat):Int)],v2+1) [] ⟨by rw [ho];simp,hq2⟩ (by dsimp only;omega) (by simp) rfl (by simp)
  ·have e1:m.tmod 65536=((m.natAbs % 65536:Nat):Int):=by
    have:=Int.natAbs_tmod m 65536
    have e:(65536:Int).natAbs=65536:=rfl
    rw [e] at this;omega
   refine zo (by simp;omega) ?_
   refine zh (za (ze [] e1 ?_))
   refine ⟨by omega,?_⟩
   refine ze [] w1 ?_
   exact zq (m.tdiv 65536,out++[((m.natAbs % 65536:Nat):Int)],v2+1) [] ⟨by rw [ho];simp,hq2⟩ (by dsimp only;omega) (by simp) rfl (by simp)
def qx:List Int->List Int->Int->List Int
 | [],[],c=>if 0<c then [c] else []
 | a :: u,[],c=>(a+c) % 65536 :: qx u [] ((a+c) / 65536)
 | [],b :: bs,c=>(b+c) % 65536 :: qx [] bs ((b+c) / 65536)
 | a :: u,b :: bs,c=>(a+b+c) % 65536 :: qx u bs ((a+b+c) / 65536)
theorem Zk8:∀(a b:List Int) (c:Int),xp a->xp b->0<=c->c<=1->xp (qx a b c)/\yg (qx a b c)=yg a+yg b+c/\(qx a b c).length<=max a.length b.length+1:=by
 intro a
 induction a with
 | nil =>
  intro b
  induction b with
  | nil =>
   intro c _ _ h0 h1
   simp only [qx]
   split
   ·refine ⟨?_,by simp [yg],by simp⟩
    intro d hd;simp at hd;omega
   ·refine ⟨by intro d hd;simp at hd,by simp [yg];omega,by simp⟩
  | cons b bs ih =>
   intro c ha hb h0 h1
   have hb1:=hb b (by simp)
   obtain ⟨q1,q2,q3⟩:=ih ((b+c) / 65536) ha (fun x hx=>hb x (by simp [hx])) (by omega) (by omega)
   simp only [qx]
   refine ⟨?_,by simp only [yg] at q2 ⊢;rw [q2];omega,by simp at q3 ⊢;omega⟩
   intro d hd
   rcases List.mem_cons.1 hd with rfl | hd
   ·omega
   ·exact q1 d hd
 | cons a u iha =>
  intro b
  cases b with
  | nil =>
   intro c ha hb h0 h1
   have ha1:=ha a (by simp)
   obtain ⟨q1,q2,q3⟩:=iha [] ((a+c) / 65536) (fun x hx=>ha x (by simp [hx])) hb (by omega) (by omega)
   simp only [qx]
   refine ⟨?_,by simp only [yg] at q2 ⊢;rw [q2];omega,by simp at q3 ⊢;omega⟩
   intro d hd
   rcases List.mem_cons.1 hd with rfl | hd
   ·omega
   ·exact q1 d hd
  | cons b bs =>
   intro c ha hb h0 h1
   have ha1:=ha a (by simp)
   have hb1:=hb b (by simp)
   obtain ⟨q1,q2,q3⟩:=iha bs ((a+b+c) / 65536) (fun x hx=>ha x (by simp [hx])) (fun x hx=>hb x (by simp [hx])) (by omega) (by omega)
   simp only [qx]
   refine ⟨?_,by simp only [yg] at q2 ⊢;rw [q2];omega,by simp at q3 ⊢;omega⟩
   intro d hd
   rcases List.mem_cons.1 hd with rfl | hd
   ·omega
   ·exact q1 d hd
theorem Zk9 (a b:List Int) (c:Int) (h:a≠[]\/b≠[]\/0<c):qx a b c=(a.headD 0+b.headD 0+c) % 65536 :: qx a.tail b.tail ((a.headD 0+b.headD 0+c) / 65536)\/(a=[]/\b=[]/\qx a b c=[c]):=by
 cases a with
 | nil =>
  cases b with
  | nil=>right;simp at h;simp [qx,h]
  | cons b bs=>left;simp [qx]
 | cons a u =>
  cases b with
  | nil=>left;simp [qx]
  | cons b bs=>left;simp [qx]
theorem XF (l:List Int) (k:Nat):(l.drop k).headD 0=l.getD k 0:=by simp [List.headD_eq_head?_getD,List.head?_drop,List.getD_eq_getElem?_getD]
theorem Zla (a b:List Int) (ha:xp a) (hb:xp b) (hal:a.length<=1000) (hbl:b.length<=1000):Pure Tryz.prog 200 [L a,L b] (L (qx a b 0)):=by
 refine zz Tryz.func200 Tryz.ntmps200 Tryz.results200 fun S nx hd=>?_
 refine za (zb ?_)
 refine za (zb ?_)
 refine za (yT 5 3 1 rfl fun v1=>?_)
 refine zb ?_
 repeat apply za
 refine zb ?_
 refine zi (zB (fun s:Nat × Int × List Int × Nat=>s.1<=max a.length b.length+1/\(0<=s.2.1/\s.2.1<=1)/\s.2.2.1.length=s.1/\qx a b 0=s.2.2.1++qx (a.drop s.1) (b.drop s.1) s.2.1/\(s.1=max a.length b.length+1->s.2.1=0)) (fun (k,c,out,v1)=>[(0,L a),(1,L b),(5,.sl nx v1 1 0 out.length),(6,I c),(7,I k)])
  (fun (k,c,out,v1)=>[.cells v1 3 (out.flatMap Enc.enc)]) (fun s=>max a.length b.length+1-s.1) (0,0,[],v1) [] (by simp) (by simp) (by simp) ?_)
 rintro ⟨k,c,out,v1⟩ ⟨hk,hc,hol,ho,hend⟩
 simp only at hk hc hol ho hend ⊢
 by_cases hlive:k<a.length\/k<b.length\/0<c
 ·have hkl:k<max a.length b.length+1:=by
   rcases Nat.lt_or_ge k (max a.length b.length+1) with h | h
   ·exact h
   ·have:=hend (by omega);omega
  -- the sum at this place
  have hx:0<=a.getD k 0/\a.getD k 0<65536:=by
   rw [List.getD_eq_getElem?_getD]
   cases h:a[k]? with
   | none=>simp
   | some x=>exact ha x (List.mem_of_getElem? h)
  have hy:0<=b.getD k 0/\b.getD k 0<65536:=by
   rw [List.getD_eq_getElem?_getD]
   cases h:b[k]? with
   | none=>simp
   | some x=>exact hb x (List.mem_of_getElem? h)
  generalize hxx:a.getD k 0=x at hx
  generalize hyy:b.getD k 0=y at hy
  have hnext:∀s,s=c+x+y->qx a b 0=(out++[s % 65536])++qx (a.drop (k+1)) (b.drop (k+1)) (s / 65536)/\(k+1=max a.length b.length+1->s / 65536=0):=by
   rintro s rfl
   have hne:a.drop k≠[]\/b.drop k≠[]\/0<c:=by
    rcases hlive with h | h | h
    ·left;intro e;have:=List.drop_eq_nil_iff.1 e;omega
    ·right;left;intro e;have:=List.drop_eq_nil_iff.1 e;omega
    ·exact .inr (.inr h)
   have hsum:(a.drop k).headD 0+(b.drop k).headD 0+c=c+x+y:=by rw [XF,XF,hxx,hyy];omega
   have h0:k+1=max a.length b.length+1->c+x+y=c:=by
    intro q
    have e1:x=0:=by rw [<-hxx,List.getD_eq_getElem?_getD,List.getElem?_eq_none (by omega)];rfl
    have e2:y=0:=by rw [<-hyy,List.getD_eq_getElem?_getD,List.getElem?_eq_none (by omega)];rfl
    omega
   refine ⟨?_,fun q=>by have:=h0 q;omega⟩
   rcases Zk9 (a.drop k) (b.drop k) c hne with e | ⟨e1,e2,e3⟩
   ·rw [ho,e,hsum]
    simp [List.tail_drop]
   ·have hx0:x=0:=by rw [<-hxx,<-XF,e1];rfl
    have hy0:y=0:=by rw [<-hyy,<-XF,e2];rfl
    have d1:a.drop (k+1)=[]:=by rw [<-List.drop_drop,e1];rfl
    have d2:b.drop (k+1)=[]:=by rw [<-List.drop_drop,e2];rfl
    have z1:(c+x+y) % 65536=c:=by omega
    have z2:(c+x+y) / 65536=0:=by omega
    rw [ho,e3,d1,d2,z1,z2];simp [qx]
  have fin:∀s:Int,s=c+x+y->s.tmod 65536=s % 65536/\IntKind.i64.wrap (s.tdiv 65536)=s / 65536:=by
   intro s hs
   refine ⟨Int.tmod_eq_emod_of_nonneg (by omega),?_⟩
   rw [Int.tdiv_eq_ediv_of_nonneg (by omega),wr _ (by omega) (by omega)]
  obtain ⟨f1,f2⟩:=fin _ rfl
  obtain ⟨g1,g2⟩:=hnext _ rfl
  have wa:IntKind.i64.wrap (c+x)=c+x:=wr _ (by omega) (by omega)
  have wb:IntKind.i64.wrap (c+x+y)=c+x+y:=wr _ (by omega) (by omega)
  by_cases h1:k<a.length
  ·obtain ⟨x',tl,a1,a2,a3,e0⟩:=zC rfl a k h1
   obtain rfl:x'=x:=by rw [<-hxx,List.getD_eq_getElem?_getD,a1];rfl
   repeat apply za
   refine ze [(4,12),(10,18)] (zn h1 zx) ?_
   refine zm (by simp) ?_
   refine zh (za (zi ?_))
   repeat apply za
   refine zb ?_
   refine zm (by simp [h1]) ?_
   refine ze [] (zE e0 h1 wa) ?_
   by_cases h2:k<b.length
   ·obtain ⟨y',tl2,b1,b2,b3,e2⟩:=zC rfl b k h2
    obtain rfl:y'=y:=by rw [<-hyy,List.getD_eq_getElem?_getD,b1];rfl
    repeat apply za
    refine zb ?_
    refine zm (by simp [h2]) ?_
    refine ze [] (zE e2 h2 wb) ?_
    refine za (ze [] f1 ?_)
    refine ⟨by omega,?_⟩
    refine ze [] f2 ?_
    refine zb ?_
    exact zq (k+1,(c+x'+y') / 65536,out++[(c+x'+y') % 65536],v1+1) [] ⟨by omega,by dsimp only;omega,by simp [hol],g1,g2⟩ (by simp;omega) (by simp [zt k (by omega)]) rfl (by simp)
   ·obtain rfl:y=0:=by rw [<-hyy,List.getD_eq_getElem?_getD,List.getElem?_eq_none (by omega)];rfl
    rw [Int.add_zero] at f1 f2 g1 g2
    repeat apply za
    refine zb ?_
    refine zo (by simp;omega) ?_
    refine zh (za (ze [] f1 ?_))
    refine ⟨by omega,?_⟩
    refine ze [] f2 ?_
    refine zb ?_
    exact zq (k+1,(c+x') / 65536,out++[(c+x') % 65536],v1+1) [] ⟨by omega,by dsimp only;omega,by simp [hol],g1,g2⟩ (by simp;omega) (by simp [zt k (by omega)]) rfl (by simp)
  ·obtain rfl:x=0:=by rw [<-hxx,List.getD_eq_getElem?_getD,List.getElem?_eq_none (by omega)];rfl
   by_cases h2:k<b.length
   ·obtain ⟨y',tl2,b1,b2,b3,e2⟩:=zC rfl b k h2
    obtain rfl:y'=y:=by rw [<-hyy,List.getD_eq_getElem?_getD,b1];rfl
    have f1':(c+y').tmod 65536=(c+y') % 65536:=by rw [show c+y'=c+0+y' by omega];exact f1
    have f2':IntKind.i64.wrap ((c+y').tdiv 65536)=(c+y') / 65536:=by rw [show c+y'=c+0+y' by omega];exact f2
    have wb':IntKind.i64.wrap (c+y')=c+y':=wr _ (by omega) (by omega)
    rw [show c+0+y'=c+y' by omega] at g1 g2
    repeat apply za
    refine ze [(4,12),(10,18)] (zE h1 h2 zx) ?_
    refine zm (by simp) ?_
    refine zh (za (zi ?_))
    repeat apply za
    refine zb ?_
    refine zo (by simp;omega) ?_
    refine zh ?_
    repeat apply za
    refine zb ?_
    refine zm (by simp [h2]) ?_
    refine ze [] (zE e2 h2 wb') ?_
    refine za (ze [] f1' ?_)
    refine ⟨by omega,?_⟩
    refine ze [] f2' ?_
    refine zb ?_
    exact zq (k+1,(c+y') / 65536,out++[(c+y') % 65536],v1+1) [] ⟨by omega,by dsimp only;omega,by simp [hol],g1,g2⟩ (by simp;omega) (by simp [zt k (by omega)]) rfl (by simp)
   ·obtain rfl:y=0:=by rw [<-hyy,List.getD_eq_getElem?_getD,List.getElem?_eq_none (by omega)];rfl
    have h3:0<c:=by omega
    obtain rfl:c=1:=by omega
    rw [show (1:Int)+0+0=1 by rfl] at f1 f2 g1 g2
    repeat apply za
    refine ze [(4,12),(10,18)] (zn h1 h2) ?_
    refine zm (by simp) ?_
    refine zh (za (zi ?_))
    repeat apply za
    refine zb ?_
    refine zo (by simp;omega) ?_
    refine zh ?_
    repeat apply za
    refine zb ?_
    refine zo (by simp;omega) ?_
    refine zh (za (ze [] f1 ?_))
    refine ⟨by omega,?_⟩
    refine ze [] f2 ?_
    refine zb ?_
    exact zq (k+1,(1:Int) / 65536,out++[(1:Int) % 65536],v1+1) [] ⟨by omega,by dsimp only;omega,by simp [hol],g1,g2⟩ (by simp;omega) (by simp [zt k (by omega)]) rfl (by simp)
 ·have h1:¬k<a.length:=by omega
  have h2:¬k<b.length:=by omega
  have h3:¬0<c:=by omega
  rw [List.drop_of_length_le (by omega),List.drop_of_length_le (by omega)] at ho
  simp only [qx,h3,if_false,List.append_nil] at ho
  repeat apply za
  refine ze [(4,12),(10,18)] (zE h1 h2 h3) ?_
  refine zo (by simp) ?_
  refine zu (za (zb ?_))
  refine zX 0 rfl ?_
  exact zg (zk hd (by simp;rfl) (by rw [ho];simp [zp]))
open Go
theorem Zlb {l:List Int} (h:l=[]\/∃m x,l=m++[x]/\x≠0):Yf l:=by
 rcases h with rfl | ⟨m,x,rfl,hx⟩
 ·trivial
 ·induction m with
  | nil=>exact hx
  | cons a m ih =>
   cases m with
   | nil=>exact hx
   | cons b m=>exact ih
theorem Zlc (l:List Int) (k:Nat) (h:∀d∈l.drop k,d=0):yg l=yg (l.take k):=by
 have hz:∀m:List Int,(∀d∈m,d=0)->yg m=0:=by
  intro m;induction m with
  | nil=>intro _;rfl
  | cons a m ih=>intro h;simp only [yg];rw [ih fun d hd=>h d (by simp [hd]),h a (by simp)];rfl
 conv=>lhs;rw [<-List.take_append_drop k l]
 rw [XC,hz _ h];simp
theorem Zld (l:List Int) (neg:Bool) (hl:xp l) (hn:l.length<=1000):Pure Tryz.prog 199 [.agg [L l,B neg]] (.agg [L (yr (yg l).toNat),B (if yr (yg l).toNat=[] then false else neg)]):=by
 refine zz Tryz.func199 Tryz.ntmps199 Tryz.results199 fun S nx hd=>?_
 refine za (zb ?_)
 intro v0 v1
 have fl:∀k,k<=l.length->((l.flatMap Enc.enc).take k)=((l.take k).flatMap Enc.enc):=fun k _=>by
  have:=uK (α:=Int) Enc.enc 1 (fun _=>rfl) l k
  rw [Nat.mul_one] at this;exact this
 refine za (yk (nx:=nx) (σ:=Unit) (fun _=>True) (fun _=>[(1,.ptr nx v0 0),(2,.ptr (nx+1) v1 0)]) (fun _=>S) (fun _=>[.cells v0 204 [L (yr (yg l).toNat),B neg],.cells v1 204 [.sc (.slice none 0 0),B false]]) ?_ ?_)
 ·refine zi (zB (fun s:Nat=>s<=l.length/\(∀d∈l.drop s,d=0)) (fun k=>[(1,.ptr nx v0 0),(2,.ptr (nx+1) v1 0)]) (fun k=>[.cells v0 204 [L (l.take k),B neg],.cells v1 204 [.sc (.slice none 0 0),B false]]) (fun s=>s) l.length [] (by simp) (by simp) (by simp) ?_)
  rintro k ⟨hk,ho⟩
  have htk:(l.take k).length=k:=by simp;omega
  have stop:Yf (l.take k)->L (l.take k)=L (yr (yg l).toNat):=by
   intro h
   rw [Zlc l k ho,<-Zk7 (fun d hd=>hl d (List.mem_of_mem_take hd)) h]
  match k,hk with
  | 0,_ =>
   repeat apply za
   refine ze [(4,7)] zx ?_
   refine zo rfl (zu (zD () [] trivial (by simp) rfl ?_))
   have:=stop trivial
   simp only [List.take_zero] at this
   simp [this]
  | j+1,hk =>
   obtain ⟨d,tl,a1,a2,a3,e0⟩:=zC rfl l j (by omega)
   have hw:IntKind.i64.wrap ((j:Int)+1-1)=(j:Int):=by rw [wr _ (by omega) (by omega)];omega
   have hw':IntKind.i64.wrap (j:Int)=(j:Int):=wr _ (by omega) (by omega)
   have hlast:((l.take (j+1)).flatMap Enc.enc).drop j=[I d]:=by
    rw [a3,List.flatMap_append,List.drop_append_of_le_length (by rw [qY];simp;omega),List.drop_of_length_le (by rw [qY];simp;omega)];rfl
   have hjj:(j:Int)<(j:Int)+1:=by omega
   by_cases h0:d=0
   ·repeat apply za
    refine ze [(4,7)] (zL htk hw hw' hlast hjj h0) ?_
    refine zm (by simp) ?_
    refine zh (zi ?_)
    have hft:((l.take (j+1)).flatMap Enc.enc).take j=(l.take j).flatMap Enc.enc:=by rw [<-fl (j+1) hk,List.take_take,fl _ (by omega)];congr 2;omega
    have hjl:(l.take j).length=j:=by simp;omega
    refine ze [] (zP htk hw hw' hft) ?_
    exact zq j [] ⟨by omega,fun e he=>by rw [a2] at he;rcases List.mem_cons.1 he with q | q;exact q.trans h0;exact ho e q⟩ (by omega) (by simp) rfl (by simp [hjl,hft])
   ·repeat apply za
    refine ze [(4,7)] (zL htk hw hw' hlast hjj h0) ?_
    refine zo (by simp) ?_
    have:=stop (Zlb (.inr ⟨l.take j,d,a3,h0⟩))
    refine zu (zD () [] trivial (by simp) rfl (by rw [this];rfl))
 ·intro _ _
  have hdl:=Zz (yg l).toNat
  generalize yr (yg l).toNat=m at hdl ⊢
  cases m with
  | nil =>
   repeat apply za
   refine zb ?_
   refine zm (by simp) ?_
   refine zb ?_
   refine za (zb ?_)
   exact zg (zk hd (by simp;rfl) rfl)
  | cons a m =>
   have h1:¬((m.length:Int)+1=0):=by omega
   repeat apply za
   refine ze [] h1 ?_
   refine zo (by simp) ?_
   refine zh (za (zb ?_))
   exact zg (zk hd (by simp;rfl) rfl)
def uq:List Int->List Int->Int
 | x :: a,y :: b=>if x<y then -1 else if y<x then 1 else uq a b
 | _,_=>0
def ZA (a b:List Int):Int:=if a.length<b.length then -1 else if b.length<a.length then 1 else uq a.reverse b.reverse
theorem Zle (a b:List Int) (ha:a.length<=1000) (hb:b.length<=1000):Pure Tryz.prog 198 [L a,L b] (I (ZA a b)):=by
 refine zz Tryz.func198 Tryz.ntmps198 Tryz.results198 fun S nx hd=>?_
 refine za (zb ?_)
 by_cases h1:a.length=b.length
 case neg =>
  have h1':¬((a.length:Int)=b.length):=by omega
  repeat apply za
  refine ze [] h1' ?_
  refine zm (by simp [h1']) ?_
  by_cases h2:a.length<b.length
  ·repeat apply za
   refine zb ?_
   refine zm (by simp [h2]) ?_
   refine za (zb ?_)
   exact zg (zk hd (by simp;rfl) (by simp [ZA,h2,zp]))
  ·repeat apply za
   refine zb ?_
   refine zo (by simp;omega) ?_
   refine zh (za (zb ?_))
   exact zg (zk hd (by simp;rfl) (by simp [ZA,h2,show b.length<a.length by omega,zp]))
 have hres:ZA a b=uq a.reverse b.reverse:=by simp [ZA,h1]
 rw [hres]
 have h1':((a.length:Int)=b.length):=by omega
 repeat apply za
 refine ze [] h1' ?_
 refine zo (by simp [h1']) ?_
 refine zh ?_
 repeat apply za
 refine zb ?_
 have w0:IntKind.i64.wrap ((a.length:Int)-1)=(a.length:Int)-1:=wr _ (by omega) (by omega)
 refine zi (zB (fun m:Nat=>m<=a.length/\uq a.reverse b.reverse=uq (a.take m).reverse (b.take m).reverse) (fun m=>[(0,L a),(1,L b),(5,I ((m:Int)-1))]) (fun _=>[]) (fun m=>m) a.length [] ⟨Nat.le_refl _,by rw [List.take_length,List.take_of_length_le (by omega)]⟩ (by simp [w0]) (by simp) ?_)
 rintro m ⟨hm,ho⟩
 match m,hm with
 | 0,_ =>
  repeat apply za
  refine zb ?_
  refine zo (by simp) ?_
  refine zu (za (zb ?_))
  exact zg (zk hd (by simp;rfl) (by rw [ho];simp [uq,zp]))
 | j+1,hm =>
  have s1:((j+1:Nat):Int)-1=(j:Int):=by omega
  obtain ⟨x,tl,a1,a2,a3,e0⟩:=zC rfl a j (by omega)
  obtain ⟨y,tl2,b1,b2,b3,e2⟩:=zC rfl b j (by omega)
  rw [a3,b3] at ho
  simp only [List.reverse_append,List.reverse_cons,List.reverse_nil,List.nil_append,List.cons_append,uq] at ho
  have g1:j<a.length:=by omega
  have g2:j<b.length:=by omega
  have s2:(j:Int)+1-1=(j:Int):=by omega
  repeat apply za
  refine ze [] (zn s1 s2) ?_
  refine zm (by simp) ?_
  refine zh (za (zi ?_))
  repeat apply za
  refine zF none (Row.pures [0,1,2,3,4,5,6,7,8] .done) mixed (zL s1 s2 g1 g2 e0 e2) ?_
  by_cases h3:x<y
  ·repeat apply za
   refine zm (by simp [h3]) ?_
   refine za (zb ?_)
   exact zg (zk hd (by simp;rfl) (by rw [ho,if_pos h3];rfl))
  ·repeat apply za
   refine zo (by simp;omega) ?_
   refine zh (za (zF none (Row.pures [0,1,2,3,4,5,6,7,8] .done) mixed (zL s1 s2 g1 g2 e0 e2) ?_))
   by_cases h4:y<x
   ·repeat apply za
    refine zm (by simp [h4]) ?_
    refine za (zb ?_)
    exact zg (zk hd (by simp;rfl) (by rw [ho,if_neg h3,if_pos h4];rfl))
   ·repeat apply za
    refine zo (by simp;omega) ?_
    refine zh ?_
    have w1:IntKind.i64.wrap ((j:Int)-1)=(j:Int)-1:=wr _ (by omega) (by omega)
    refine ze [] (zE s1 s2 w1) ?_
    exact zq j [] ⟨by omega,by rw [ho,if_neg h3,if_neg h4]⟩ (by omega) (by simp) rfl (by simp)
theorem VZ (l:List Int) (h:xp l) (k:Nat):0<=yg (l.take k)/\yg (l.take k)<65536 ^ k:=by
 have hd:xp (l.take k):=fun d hd=>h d (List.mem_of_mem_take hd)
 refine ⟨VY hd,?_⟩
 have main:∀(k:Nat) (m:List Int),xp m->m.length<=k->yg m<65536 ^ k:=by
  intro k
  induction k with
  | zero=>intro m _ hm;simp at hm;subst hm;simp [yg]
  | succ k ih =>
   intro m hm hl
   cases m with
   | nil=>simp only [yg];exact Int.pow_pos (by decide)
   | cons d m =>
    have h1:=hm d (by simp)
    have h2:=ih m (fun x hx=>hm x (by simp [hx])) (by simpa using hl)
    simp only [yg,Int.pow_succ];omega
 exact main k _ hd (by simp;omega)
theorem Zlf:∀(m:Nat) (a b:List Int),xp a->xp b->a.length=m->b.length=m->yg a<=yg b->uq a.reverse b.reverse<=0:=by
 intro m
 induction m with
 | zero=>intro a b _ _ ha hb _;rw [List.eq_nil_of_length_eq_zero ha];simp [uq]
 | succ m ih =>
  intro a b ha hb hal hbl hv
  have hane:a≠[]:=by intro e;subst e;cases hal
  have hbne:b≠[]:=by intro e;subst e;cases hbl
  obtain ⟨a',x,rfl⟩:∃a' x,a=a'++[x]:=⟨a.dropLast,a.getLast hane,(List.dropLast_concat_getLast hane).symm⟩
  obtain ⟨b',y,rfl⟩:∃b' y,b=b'++[y]:=⟨b.dropLast,b.getLast hbne,(List.dropLast_concat_getLast hbne).symm⟩
  have hal':a'.length=m:=by simpa using hal
  have hbl':b'.length=m:=by simpa using hbl
  have ha':xp a':=fun d hd=>ha d (by simp [hd])
  have hb':xp b':=fun d hd=>hb d (by simp [hd])
  have p1:=VZ (b'++[y]) hb m
  have p2:=VZ (a'++[x]) ha m
  rw [List.take_append_of_le_length (by omega),List.take_of_length_le (by omega)] at p1 p2
  rw [XC,XC,hal',hbl'] at hv
  simp only [yg,Int.mul_zero,Int.add_zero] at hv
  simp only [List.reverse_append,List.reverse_cons,List.reverse_nil,List.nil_append,List.cons_append,uq]
  by_cases h1:x<y
  ·rw [if_pos h1];omega
  ·rw [if_neg h1]
   by_cases h2:y<x
   ·exfalso
    have:(65536:Int) ^ m*x>=65536 ^ m*(y+1):=Int.mul_le_mul_of_nonneg_left (by omega) (by omega)
    rw [Int.mul_add] at this
    omega
   ·rw [if_neg h2]
    have hxy:x=y:=by omega
    subst hxy
    exact ih a' b' ha' hb' hal' hbl' (by omega)
theorem Zlg {a b:Nat} (h:a<=b):(yr a).length<=(yr b).length:=by
 induction b using Nat.strongRecOn generalizing a with
 | _ b ih =>
  by_cases h0:a=0
  ·subst h0;rw [Zx];simp
  ·rw [Zy h0,Zy (show b≠0 by omega)]
   have:=ih (b / 65536) (by omega) (a:=a / 65536) (Nat.div_le_div_right h)
   simpa using this
theorem Zlh {a b:Nat} (h:a<=b):ZA (yr a) (yr b)<=0:=by
 have hl:=Zlg h
 unfold ZA
 split
 ·omega
 ·rw [if_neg (by omega)]
  have h1:=Zz a
  have h2:=Zz b
  exact Zlf _ _ _ h1.1 h2.1 rfl (by omega) (by rw [h1.2.1,h2.2.1];omega)
theorem XG {n:Nat} (h:n<=18446744073709551615):(yr n).length<=4:=(Zz n).2.2.2 (by rw [show (65536:Nat) ^ 4=18446744073709551616 from by decide];omega)
theorem Zli (a b:Nat) (ha:a<=9223372036854775807) (hb:b<=9223372036854775807):Pure Tryz.prog 155 [.agg [L (yr a),B false],.agg [L (yr b),B false]] (.agg [L (yr (a+b)),B false]):=by
 have h1:=Zz a
 have h2:=Zz b
 have l1:=XG (n:=a) (by omega)
 have l2:=XG (n:=b) (by omega)
 obtain ⟨p1,p2,p3⟩:=Zk8 (yr a) (yr b) 0 h1.1 h2.1 (by omega) (by omega)
 have hv:(yg (qx (yr a) (yr b) 0)).toNat=a+b:=by rw [p2,h1.2.1,h2.2.1];omega
 have hpl:=Zla (yr a) (yr b) h1.1 h2.1 (by omega) (by omega)
 have htr:=Zld (qx (yr a) (yr b) 0) false p1 (by omega)
 rw [hv,ite_self] at htr
 generalize yr a=x at *
 generalize yr b=y at *
 generalize qx x y 0=z at *
 refine zz Tryz.func155 Tryz.ntmps155 Tryz.results155 fun S nx hd=>?_
 refine za (zb ?_)
 intro v0 v1 v2
 repeat apply za
 refine zb ?_
 refine zm (by simp) ?_
 refine za (zF (some [nx,nx+1]) (Row.pures [0,1,2,3,4,5,6,7,8] (.alt 9 (.done) .stop)) mixed trivial ?_)
 refine zN (hpl) trivial ?_
 refine zN (htr) trivial ?_
 exact zg (zk hd (by simp;rfl) rfl)
theorem Zlj (n:Nat) (hn:n<=9223372036854775807):Pure Tryz.prog 154 [.agg [L (yr n),B false]] (.tup [I n,B true]):=by
 have h1:=Zz n
 have l1:=XG (n:=n) (by omega)
 have hsz:=Zlh (a:=n) (b:=9223372036854775807) hn
 have hs:=Zle (yr n) (yr 9223372036854775807) (by omega) (by have:=XG (n:=9223372036854775807) (by omega);omega)
 have o1:=XE 9223372036854775807 (by unfold zR;omega)
 have o2:=XE (-9223372036854775808) (by unfold zR;omega)
 rw [show ((9223372036854775807:Int)).natAbs=9223372036854775807 from rfl,show decide ((9223372036854775807:Int)<0)=false from rfl] at o1
 rw [show decide ((-9223372036854775808:Int)<0)=true from rfl] at o2
 generalize yr (-9223372036854775808:Int).natAbs=lo at *
 generalize yr 9223372036854775807=hi at *
 generalize hdn:yr n=l at *
 have hg:¬0<ZA l hi:=by omega
 refine zz Tryz.func154 Tryz.ntmps154 Tryz.results154 fun S nx hd=>?_
 refine za (zb ?_)
 intro v0
 refine za (zb ?_)
 refine zA o1 ?_
 intro v1
 refine za (zb ?_)
 refine zA o2 ?_
 intro v2
 repeat apply za
 refine ze [(3,13)] trivial ?_
 refine qZ [(3,13)] hs hg ?_
 refine zo (by simp) ?_
 refine zh ?_
 repeat apply za
 refine ze [(2,23)] zx ?_
 refine zo (by simp) ?_
 refine zh (za (zb ?_))
 have w0:IntKind.i64.wrap ((l.length:Int)-1)=(l.length:Int)-1:=wr _ (by omega) (by omega)
 repeat apply za
 refine ze [] w0 ?_
 refine zi (zB (fun m:Nat=>m<=l.length) (fun m=>[(1,.ptr nx v0 0),(6,I (yg (l.drop m))),(7,I ((m:Int)-1))]) (fun _=>[.cells v0 204 [L l,B false]]) (fun m=>m) l.length [_,_] (Nat.le_refl _) (by simp [yg]) rfl ?_)
 rintro m hm
 match m,hm with
 | 0,_ =>
  repeat apply za
  refine zb ?_
  refine zo (by simp) ?_
  refine zu (za (zb ?_))
  exact zg (zk hd (by simp;rfl) (by simp [h1.2.1,zp]))
 | j+1,hm =>
  have s1:((j+1:Nat):Int)-1=(j:Int):=by omega
  have s2:(j:Int)+1-1=(j:Int):=by omega
  obtain ⟨x,tl,a1,a2,a3,e0⟩:=zC rfl l j (by omega)
  have g1:j<l.length:=by omega
  have hx:=h1.1 x (List.mem_of_getElem? a1)
  have hv0:0<=yg (l.drop (j+1)):=VY fun d hd=>h1.1 d (List.mem_of_mem_drop hd)
  have hvj:yg (l.drop j)=x+65536*yg (l.drop (j+1)):=by rw [a2];rfl
  have hvle:yg (l.drop j)<=n:=by
   have e:=XC (l.take j) (l.drop j)
   rw [List.take_append_drop,h1.2.1] at e
   have t0:=(VZ l h1.1 j).1
   have hp:(1:Int)<=65536 ^ (l.take j).length:=by have:=Int.pow_pos (n:=65536) (m:=(l.take j).length) (by decide);omega
   have hd0:0<=yg (l.drop j):=by omega
   have:=Int.mul_le_mul_of_nonneg_right hp hd0
   rw [Int.one_mul] at this
   omega
  have w1:IntKind.i64.wrap (yg (l.drop (j+1))*65536)=yg (l.drop (j+1))*65536:=wr _ (by omega) (by omega)
  have w2:IntKind.i64.wrap (yg (l.drop (j+1))*65536+x)=yg (l.drop j):=by rw [wr _ (by omega) (by omega)];omega
  have w3:IntKind.i64.wrap ((j:Int)-1)=(j:Int)-1:=wr _ (by omega) (by omega)
  repeat apply za
  refine ze [] (zn s1 s2) ?_
  refine zm (by simp) ?_
  refine zh (za (zi (za (ze [] w1 ?_))))
  refine za (zb ?_)
  refine zo (by simp) ?_
  refine ze [] (yD s1 s2 g1 e0 w2) ?_
  refine ze [] (zE s1 s2 w3) ?_
  exact zq j [] (by omega) (by omega) (by simp) rfl (by simp)
theorem Zlk (a b:Int) (ha:0<=a) (hb:0<=b) (hab:a+b<=9223372036854775807):Pure Tryz.prog 114 [I a,I b] (I (a+b)):=by
 obtain ⟨x,rfl⟩:=Int.eq_ofNat_of_zero_le ha
 obtain ⟨y,rfl⟩:=Int.eq_ofNat_of_zero_le hb
 have o1:=XE (x:Int) (by unfold zR;omega)
 have o2:=XE (y:Int) (by unfold zR;omega)
 rw [Int.natAbs_natCast,decide_eq_false (by omega)] at o1 o2
 have h3:=Zli x y (by omega) (by omega)
 have h4:=Zlj (x+y) (by omega)
 rw [show ((x+y:Nat):Int)=(x:Int)+(y:Int) by omega] at h4
 refine zz Tryz.func114 Tryz.ntmps114 Tryz.results114 fun S nx hd=>?_
 refine za (zb ?_)
 refine za (zb ?_)
 refine zA o1 ?_
 refine zA o2 ?_
 refine zA h3 ?_
 refine zA h4 ?_
 repeat apply za
 refine zb ?_
 refine zm (by simp) ?_
 refine za (zb ?_)
 exact zg (zk hd (by simp;rfl) rfl)
open Go
theorem Zll (c:Cust) (ns:List Int) (hn:ns.length<=1048576):Pure Tryz.prog 109 [.agg (zM c),L ns] (I (uY c ns)):=by
 refine zz Tryz.func109 Tryz.ntmps109 Tryz.results109 fun S nx hd=>?_
 refine za (zb ?_)
 intro v0
 refine za (zb ?_)
 repeat apply za
 refine zb ?_
 refine zi (zB (fun s:Nat=>s<=ns.length) (fun k=>[(1,L ns),(2,.ptr nx v0 0),(5,I (W (ns.take k).sum)),(6,I k)]) (fun _=>[.cells v0 65 (zM c)]) (fun s=>ns.length-s) 0 [] (by simp) (by simp) (by simp) ?_)
 rintro k hk
 repeat apply za
 refine zb ?_
 refine zr rfl (fun hc=>?_) (fun hc=>?_)
 ·simp at hc
  obtain ⟨z,tl,a1,a2,a3,e0⟩:=zC rfl ns k hc
  refine zh (za (zi ?_))
  have hw:W (W (ns.take k).sum+z)=W (ns.take (k+1)).sum:=by rw [a3,Y5,xO]
  refine ze [] (zn e0 hc) ?_
  refine zb ?_
  exact zq (k+1) [] hc (by omega) (by simp [zt k (by omega)];exact hw) rfl (by simp)
 ·simp at hc
  obtain rfl:k=ns.length:=by omega
  rw [List.take_length]
  refine zu (za (zb ?_))
  exact zg (zk hd (by simp;rfl) rfl)
theorem V1 {q:List Int} (h:∀z∈q,0<=z/\z<=2147483648):∀k:Nat,k<=q.length->0<=(q.take k).sum/\(q.take k).sum<=2147483648*k:=by
 intro k
 induction k with
 | zero=>intro _;simp
 | succ k ih =>
  intro hk
  have:=ih (by omega)
  have hz:=h q[k] (List.getElem_mem (by omega))
  rw [List.take_succ_eq_append_getElem (by omega),Y5]
  omega
theorem ZdZ (c:Cust) (q:List Int) (hc:CustFits c) (hq:q.length<=1048576):Pure Tryz.prog 108 [.agg (zM c),L q] (.tup [L (yF c q).1,I (yF c q).2]):=by
 obtain ⟨hr,hsz,hst⟩:=hc
 refine zz Tryz.func108 Tryz.ntmps108 Tryz.results108 fun S nx hd=>?_
 refine za (zb ?_)
 intro v0
 repeat apply za
 refine zb ?_
 refine yk (nx:=nx) (σ:=Nat) (fun v0=>q.any jX=false) (fun v0=>[(1,L q),(2,.ptr nx v0 0)]) (fun _=>S) (fun v0=>[.cells v0 65 (zM c)]) ?_ ?_
 ·refine zi (zB (fun s:Nat=>s<=q.length/\(q.take s).any jX=false) (fun k=>[(1,L q),(2,.ptr nx v0 0),(6,I k)]) (fun _=>[.cells v0 65 (zM c)]) (fun s=>q.length-s) 0 [] (by simp) (by simp) (by simp) ?_)
  rintro k ⟨hk,ho⟩
  repeat apply za
  refine zb ?_
  refine zr rfl (fun hc=>?_) (fun hc=>?_)
  ·simp at hc
   obtain ⟨z,tl,a1,a2,a3,e0⟩:=zC rfl q k hc
   have bad:jX z=true->yF c q=([],1):=fun h=>by
    have:q.any jX=true:=by rw [List.any_eq_true];exact ⟨z,List.mem_of_getElem? a1,h⟩
    simp [yF,this]
   refine zh (za (zi ?_))
   by_cases h1:z<0
   ·refine za (ze [(5,23)] (zP e0 hc h1 zx) ?_)
    refine zm rfl (za (zb ?_))
    refine xz 4 rfl ?_
    exact zg (zk hd (by simp;rfl) (by rw [bad (by simp [jX,h1])];rfl))
   by_cases h2:(2147483648:Int)<z
   ·refine za (ze [(5,23)] (zP e0 hc h1 h2) ?_)
    refine zm rfl (za (zb ?_))
    refine xz 4 rfl ?_
    exact zg (zk hd (by simp;rfl) (by rw [bad (by simp [jX,h2])];rfl))
   refine za (ze [(5,23)] (zP e0 hc h1 h2) ?_)
   refine zo rfl (zh (zb ?_))
   exact zq (k+1) [] ⟨hc,by rw [a3,List.any_append,ho];simp [jX];omega⟩ (by omega) (by simp [zt k (by omega)]) rfl (by simp)
  ·simp at hc
   obtain rfl:k=q.length:=by omega
   rw [List.take_length] at ho
   exact zu (zD v0 [] ho (by simp) rfl (by simp))
 ·intro v0 hb
  have hq0:∀z∈q,0<=z/\z<=2147483648:=by
   intro z hz
   rw [List.any_eq_false] at hb
   have:=hb z hz
   simp [jX] at this
   omega
  have hres:yF c q=match qk c.size c.rate c.start q with | none=>([],8) | some l=>(l,0):=by unfold yF;rw [hb];rfl
  refine za (zb ?_)
  refine yT 7 3 1 rfl fun v1=>?_
  repeat apply za
  refine zb ?_
  refine zi (zB (fun s:Nat × List Int × Nat=>s.1<=q.length/\s.2.1.length=s.1/\(0<=c.start+(q.take s.1).sum-c.rate*s.1/\c.start+(q.take s.1).sum-c.rate*s.1<=2147483648)/\qk c.size c.rate c.start q=(qk c.size c.rate (c.start+(q.take s.1).sum-c.rate*s.1) (q.drop s.1)).map (s.2.1++·))
   (fun (k,out,v1)=>[(1,L q),(2,.ptr nx v0 0),(7,.sl (nx+1) v1 1 0 out.length),(8,I k)])
   (fun (k,out,v1)=>[.cells v0 65 (zM c),.cells v1 3 (out.flatMap Enc.enc)]) (fun s=>q.length-s.1) (0,[],v1) [] ?_ (by simp) (by simp) ?_)
  ·refine ⟨by simp,by simp,by simpa using hst,?_⟩
   simp
  rintro ⟨k,out,v1⟩ ⟨hk,hol,hth,ho⟩
  simp only at hk hol hth ho ⊢
  repeat apply za
  refine zb ?_
  refine zr rfl (fun hc=>?_) (fun hc=>?_)
  ·simp at hc
   obtain ⟨z,tl,a1,a2,a3,e0⟩:=zC rfl q k hc
   have hz:=hq0 z (List.mem_of_getElem? a1)
   have hst1:=V1 hq0 k hk
   have hst2:=V1 hq0 (k+1) hc
   have hsum:(q.take (k+1)).sum=(q.take k).sum+z:=by rw [a3,Y5]
   have hrk:0<=c.rate*k/\c.rate*k<=2147483648*1048576:=⟨Int.mul_nonneg hr.1 (by omega),Int.mul_le_mul hr.2 (by omega) (by omega) (by omega)⟩
   rw [a2] at ho
   refine zh (za (zi (za (zb ?_))))
   repeat apply za
   refine zb ?_
   refine yk (nx:=nx) (σ:=Nat) (fun _=>True) (fun v1=>[(1,L q),(2,.ptr nx v0 0),(7,.sl (nx+1) v1 1 0 out.length),(8,I k),(9,I (c.start+(q.take (k+1)).sum))]) (fun _=>S) (fun v1=>[.cells v0 65 (zM c),.cells v1 3 (out.flatMap Enc.enc)]) ?_ ?_
   ·refine zi (zB (fun s:Nat=>s<=k+1) (fun j=>[(1,L q),(2,.ptr nx v0 0),(7,.sl (nx+1) v1 1 0 out.length),(8,I k),(9,I (c.start+(q.take j).sum)),(10,I j)]) (fun _=>[.cells v0 65 (zM c),.cells v1 3 (out.flatMap Enc.enc)]) (fun s=>k+1-s) 0 [] (by simp) (by simp) (by simp) ?_)
    rintro j hj
    repeat apply za
    refine zb ?_
    refine zr rfl (fun hc2=>?_) (fun hc2=>?_)
    ·simp at hc2
     obtain ⟨y,tl2,b1,b2,b3,e2⟩:=zC rfl q j (by omega)
     have hsj:=V1 hq0 (j+1) (by omega)
     have hjq:j<q.length:=by omega
     have hsum2:c.start+(q.take j).sum+y=c.start+(q.take (j+1)).sum:=by rw [b3,Y5];omega
     have w1:IntKind.i64.wrap (c.start+(q.take (j+1)).sum)=c.start+(q.take (j+1)).sum:=wr _ (by omega) (by omega)
     refine zh (za (zi (ze [] (zP e2 hjq hsum2 w1) ?_)))
     refine zb ?_
     exact zq (j+1) [] (by omega) (by omega) (by simp [zt j (by omega)]) rfl (by simp)
    ·simp at hc2
     obtain rfl:j=k+1:=by omega
     exact zu (zD v1 [] trivial (by simp) rfl (by simp))
   ·intro v1 _
    have w1:IntKind.i64.wrap (c.rate*(k:Int))=c.rate*(k:Int):=wr _ (by omega) (by omega)
    have hbe:c.start+(q.take (k+1)).sum-c.rate*(k:Int)=(c.start+(q.take k).sum-c.rate*(k:Int))+z:=by omega
    generalize hth':c.start+(q.take k).sum-c.rate*(k:Int)=there at hth ho hbe
    have w2:IntKind.i64.wrap (there+z)=there+z:=wr _ (by omega) (by omega)
    have w3:IntKind.i64.wrap (there+z-c.rate)=there+z-c.rate:=wr _ (by omega) (by omega)
    have bad:(c.size<there+z\/there+z<c.rate)->yF c q=([],8):=fun h=>by
     rw [hres,ho];simp only [qk,if_pos h,Option.map_none]
    refine za (ze [] (zE w1 hbe w2) ?_)
    by_cases h1:c.size<there+z
    ·repeat apply za
     refine ze [(4,59)] (zn h1 zx) ?_
     refine zm rfl (za (zb ?_))
     refine xz 4 rfl ?_
     exact zg (zk hd (by simp;rfl) (by rw [bad (.inl h1)];rfl))
    by_cases h2:there+z-c.rate<0
    ·repeat apply za
     refine ze [(4,59)] (zE h1 h2 w3) ?_
     refine zm rfl (za (zb ?_))
     refine xz 4 rfl ?_
     exact zg (zk hd (by simp;rfl) (by rw [bad (.inr (by omega))];rfl))
    repeat apply za
    refine ze [(4,59)] (zE h1 h2 w3) ?_
    refine zo rfl (zh (ze [] w3 ?_))
    refine ⟨by omega,?_⟩
    refine zb ?_
    have hnext:c.start+(q.take (k+1)).sum-c.rate*((k+1:Nat):Int)=there+z-c.rate:=by
     have:c.rate*((k+1:Nat):Int)=c.rate*(k:Int)+c.rate:=by rw [show ((k+1:Nat):Int)=(k:Int)+1 by omega,Int.mul_add,Int.mul_one]
     omega
    exact zq (k+1,out++[there+z-c.rate],v1+1) [] ⟨hc,by simp [hol],by dsimp only;rw [hnext];omega,by dsimp only;rw [hnext];exact ZdV ho h1 (by omega)⟩ (by simp;omega) (by simp [zt k (by omega)]) rfl (by simp)
  ·simp at hc
   obtain rfl:k=q.length:=by omega
   rw [List.drop_length] at ho
   simp only [qk,Option.map_some,List.append_nil] at ho
   refine zu (za (zb ?_))
   refine zX 1 rfl ?_
   exact zg (zk hd (by simp;rfl) (by rw [hres,ho];simp [zp]))
theorem V2 {size rate:Int}:∀{q:List Int} {there:Int} {l:List Int},qk size rate there q=some l->l.length=q.length:=by
 intro q
 induction q with
 | nil=>intro there l h;simp only [qk,Option.some.injEq] at h;subst h;rfl
 | cons z q ih =>
  intro there l h
  simp only [qk] at h
  split at h
  ·cases h
  ·obtain ⟨l2,h2,rfl⟩:=Option.map_eq_some_iff.1 h
   simp [ih h2]
theorem Zlm {size rate:Int}:∀{q:List Int} {there:Int} {l:List Int},qk size rate there q=some l->∀n∈l,n+rate<=size/\0<=n:=by
 intro q
 induction q with
 | nil=>intro there l h;simp only [qk,Option.some.injEq] at h;subst h;intro n hn;cases hn
 | cons z q ih =>
  intro there l h
  simp only [qk] at h
  split at h
  ·cases h
  ·obtain ⟨l2,h2,rfl⟩:=Option.map_eq_some_iff.1 h
   intro n hn
   rcases List.mem_cons.1 hn with rfl | hn
   ·omega
   ·exact ih h2 n hn
theorem V3 (c:Cust) (q:List Int) (hc:CustFits c) (hq:q.length<=1048576):Pure Tryz.prog 74 [.agg (zM c),L q] (I (wy c q)):=by
 have hni:=ZdZ c q hc hq
 obtain ⟨hr,hsz,hst⟩:=hc
 refine zz Tryz.func74 Tryz.ntmps74 Tryz.results74 fun S nx hd=>?_
 refine za (zb ?_)
 intro v0
 refine za (zb ?_)
 refine zA hni ?_
 by_cases he:(yF c q).2=0
 case neg =>
  repeat apply za
  refine ze [] he ?_
  refine zm (by simp [he]) ?_
  refine za (zb ?_)
  exact zg (zk hd (by simp;rfl) (by simp [wy,he,zp]))
 repeat apply za
 refine ze [] he ?_
 refine zo (by simp [he]) ?_
 refine zh ?_
 have hres:wy c q=if c.rule≠1 then 0 else if ve c.rate c.size q (yF c q).1 then 9 else 0:=by simp [wy,he]
 obtain ⟨l,hl,hl1⟩:∃l,qk c.size c.rate c.start q=some l/\(yF c q).1=l:=by
  unfold yF at he ⊢
  split at he
  ·simp at he
  ·rename_i hb
   cases hrn:qk c.size c.rate c.start q with
   | none=>simp [hrn] at he
   | some l=>exact ⟨l,rfl,by simp [hb]⟩
 rw [hl1] at hres ⊢
 have hll:=V2 hl
 repeat apply za
 refine zb ?_
 refine zi (zB (fun s:Nat=>s<=q.length/\(c.rule=1->ve c.rate c.size q l=ve c.rate c.size (q.drop s) (l.drop s)))
  (fun k=>[(1,L q),(2,.ptr nx v0 0),(5,L l),(7,I k)]) (fun k=>[.cells v0 65 (zM c)]) (fun s=>q.length-s) 0 [] ⟨by simp,by simp⟩ (by simp) (by simp) ?_)
 rintro k ⟨hk,ho⟩
 repeat apply za
 refine zb ?_
 refine zr rfl (fun hc=>?_) (fun hc=>?_)
 ·simp at hc
  obtain ⟨z,tl,a1,a2,a3,e0⟩:=zC rfl q k hc
  obtain ⟨n,tl2,b1,b2,b3,e2⟩:=zC rfl l k (by omega)
  have hkl:k<l.length:=by omega
  have hnl:=Zlm hl n (List.mem_of_getElem? b1)
  rw [a2,b2] at ho
  simp only [ve] at ho
  have w1:IntKind.i64.wrap (n+c.rate)=n+c.rate:=wr _ (by omega) (by omega)
  refine zh (za (zi ?_))
  by_cases h0:c.rule=1
  ·have ho:=ho h0
   by_cases h1:0<z
   ·by_cases h2:n+c.rate=c.size
    ·have w4:IntKind.i64.wrap c.size=c.size:=wr _ (by omega) (by omega)
     refine za (zF (some [nx]) (Row.pures [0,1,2,3,4,5,6,7,8,9,10,11,12,13,14,15,16,17,18,19,20,21] .done) mixed (zL e0 e2 hc hkl h0 (zE h1 h2 w4)) ?_)
     refine zo (by simp) ?_
     refine zh (zb ?_)
     exact zq (k+1) [] ⟨hc,fun _=>by rw [ho,decide_eq_false (by omega),Bool.false_or]⟩ (by omega) (by simp [zt k (by omega)]) rfl (by simp)
    ·refine za (zF (some [nx]) (Row.pures [0,1,2,3,4,5,6,7,8,9,10,11,12,13,14,15,16,17,18,19,20,21] .done) mixed (zL e0 e2 hc hkl h0 (zE h1 w1 h2)) ?_)
     refine zm (by simp [h2]) ?_
     refine za (zb ?_)
     exact zg (zk hd (by simp;rfl) (by rw [hres,ho];simp [h0,h1,h2,zp]))
   ·refine za (zF (some [nx]) (Row.pures [0,1,2,3,4,5,6,7,8,9,10,11,12,13,14,15,16,17,18,19,20,21] .done) mixed (zL e0 e2 hc hkl h0 (zn h1 zx)) ?_)
    refine zo (by simp) ?_
    refine zh (zb ?_)
    exact zq (k+1) [] ⟨hc,fun _=>by rw [ho,decide_eq_false (by omega),Bool.false_or]⟩ (by omega) (by simp [zt k (by omega)]) rfl (by simp)
  ·refine za (zF (some [nx]) (Row.pures [0,1,2,3,4,5,6,7,8,9,10,11,12,13,14,15,16,17,18,19,20,21] .done) mixed (zn h0 zx) ?_)
   refine zo (by simp) ?_
   refine zh (zb ?_)
   exact zq (k+1) [] ⟨hc,fun q=>absurd q h0⟩ (by omega) (by simp [zt k (by omega)]) rfl (by simp)
 ·simp at hc
  obtain rfl:k=q.length:=by omega
  rw [List.drop_length] at ho
  simp only [ve] at ho
  refine zu (za (zb ?_))
  exact zg (zk hd (by simp;rfl) (by rw [hres];by_cases h0:c.rule=1;simp [h0,ho h0,zp];simp [h0,zp]))
open Go
def Jd (v:List Visit) (k:Nat):List Int:=(List.range k).map fun (d:Nat)=>((v.filter fun s=>decide (s.d=(d:Int))).map (·.q)).sum
theorem Zd0 (v:List Visit) (n:Int) (hv:VisOk v):Pure Tryz.prog 72 [L v,I n] (L (yx v n)):=by
 have hvn:=hv.n
 have hres:yx v n=Jd v (min (max n 0) 64).toNat:=rfl
 rw [hres]
 refine zz Tryz.func72 Tryz.ntmps72 Tryz.results72 fun S nx hd=>?_
 refine za (zb ?_)
 repeat apply za
 refine zb ?_
 refine yk (nx:=nx) (σ:=Unit) (fun _=>True) (fun _=>[(0,L v),(1,I (min n 64))]) (fun _=>S) (fun _=>[]) ?_ ?_
 ·by_cases h:(64:Int)<n
  ·refine zm (by simp [h]) ?_
   refine zb ?_
   exact zD () [] trivial (by simp;omega) rfl (by simp)
  ·refine zo (by simp;omega) ?_
   exact zh (zD () [] trivial (by simp;omega) rfl (by simp))
 intro _ _
 generalize hm:(min (max n 0) 64).toNat=m
 have hm64:m<=64:=by omega
 have hcmp:∀k:Nat,((k:Int)<min n 64)=(k<m):=fun k=>propext ⟨fun h=>by omega,fun h=>by omega⟩
 refine za (zb ?_)
 refine yT 5 3 1 rfl fun v1=>?_
 repeat apply za
 refine zb ?_
 refine zi (zB (fun s:Nat × List Int × Nat=>s.1<=m/\s.2.1=Jd v s.1) (fun (k,out,v1)=>[(0,L v),(1,I (min n 64)),(5,.sl nx v1 1 0 out.length),(6,I k)]) (fun (k,out,v1)=>[.cells v1 3 (out.flatMap Enc.enc)]) (fun s=>m-s.1) (0,[],v1) [] (by simp [Jd]) (by simp) (by simp) ?_)
 rintro ⟨k,out,v1⟩ ⟨hk,ho⟩
 simp only at hk ho ⊢
 have hol:out.length=k:=by rw [ho];simp [Jd]
 by_cases hc:k<m
 ·repeat apply za
  refine ze [] (zn hcmp hc) ?_
  refine zm (by simp) ?_
  refine zh (za (zi (za (zb ?_))))
  repeat apply za
  refine zb ?_
  refine yk (nx:=nx) (σ:=Nat) (fun _=>True) (fun v1=>[(0,L v),(1,I (min n 64)),(5,.sl nx v1 1 0 out.length),(6,I k),(7,I ((v.filter fun s=>decide (s.d=(k:Int))).map (·.q)).sum)]) (fun _=>S) (fun v1=>[.cells v1 3 (out.flatMap Enc.enc)]) ?_ ?_
  ·refine zi (zB (fun s:Nat=>s<=v.length) (fun j=>[(0,L v),(1,I (min n 64)),(5,.sl nx v1 1 0 out.length),(6,I k),(7,I (((v.take j).filter fun s=>decide (s.d=(k:Int))).map (·.q)).sum),(8,I j)]) (fun _=>[.cells v1 3 (out.flatMap Enc.enc)]) (fun s=>v.length-s) 0 [] (by simp) (by simp) (by simp) ?_)
   rintro j hj
   repeat apply za
   refine zb ?_
   refine zr rfl (fun hc2=>?_) (fun hc2=>?_)
   ·simp at hc2
    obtain ⟨s,tl,a1,a2,a3,e1,e0⟩:=el 2 rfl v j hc2
    have hsq:=hv.q s (List.mem_of_getElem? a1)
    have hlj:(v.take j).length<=1048576:=by simp;omega
    have hle:=ZdX (v.take j) (fun s=>decide (s.d=(k:Int))) (fun x hx=>hv.q x (List.mem_of_mem_take hx))
    have e11:=e1 1 (by omega)
    refine zh (za (zi ?_))
    by_cases h:s.d=(k:Int)
    ·have hsum:(((v.take j).filter fun s=>decide (s.d=(k:Int))).map (·.q)).sum+s.q=(((v.take (j+1)).filter fun s=>decide (s.d=(k:Int))).map (·.q)).sum:=by rw [a3];simp [h]
     refine za (ze [] (zE e0 hc2 h) ?_)
     refine zm (by simp) ?_
     refine ze [] (zn e11 hc2) ?_
     refine zA (Zlk _ _ hle.1 hsq.1 (by omega)) ?_
     refine zb ?_
     exact zq (j+1) [] hc2 (by omega) (by simp [zt j (by omega)];exact hsum) rfl (by simp)
    ·have hsum:(((v.take j).filter fun s=>decide (s.d=(k:Int))).map (·.q)).sum=(((v.take (j+1)).filter fun s=>decide (s.d=(k:Int))).map (·.q)).sum:=by rw [a3];simp [h]
     refine za (ze [] (zE e0 hc2 h) ?_)
     refine zo (by simp) ?_
     refine zh (zb ?_)
     exact zq (j+1) [] hc2 (by omega) (by simp [zt j (by omega)];exact hsum) rfl (by simp)
   ·simp at hc2
    obtain rfl:j=v.length:=by omega
    rw [List.take_length]
    exact zu (zD v1 [] trivial (by simp) rfl (by simp))
  ·intro v1 _
   refine zb ?_
   refine ⟨by omega,?_⟩
   refine zb ?_
   exact zq (k+1,out++[((v.filter fun s=>decide (s.d=(k:Int))).map (·.q)).sum],v1+1) [] ⟨hc,by rw [ho];simp [Jd,List.range_succ]⟩ (by simp;omega) (by simp [zt k (by omega)]) rfl (by simp)
 ·obtain rfl:k=m:=by omega
  repeat apply za
  refine ze [] hcmp ?_
  refine zo (by simp) ?_
  refine zu (za (zb ?_))
  refine zX 0 rfl ?_
  exact zg (zk hd (by simp;rfl) (by rw [ho];simp [zp]))
theorem Zln (p:zJ) (c:Int) (hp:PlanOk p):Pure Tryz.prog 33 [.agg [L p],I c] (L (yC c (told 0 p))):=by
 have hlen:=hp.told
 have ol:∀pre rest,told 0 p=pre++rest->(yC c pre).length<=1048576:=fun pre rest e=>by
  have:=ZdS c pre
  have:=congrArg List.length e
  simp at this;omega
 refine zz Tryz.func33 Tryz.ntmps33 Tryz.results33 fun S nx hd=>?_
 refine za (zb ?_)
 intro v0
 refine za (zb ?_)
 refine za (yT 5 85 2 rfl fun v1=>?_)
 refine za (zb ?_)
 refine zi (zB (fun s:Nat × List (Stop × Nat) × Nat=>s.1<=p.length/\told 0 p=s.2.1++told s.1 (p.drop s.1)) (fun (a,pre,v1)=>[(1,I c),(2,.ptr nx v0 0),(5,.sl (nx+1) v1 2 0 (yC c pre).length),(6,I a)]) (fun (a,pre,v1)=>[.cells v0 38 [L p],.cells v1 85 ((yC c pre).flatMap Enc.enc)]) (fun s=>p.length-s.1) (0,[],v1) [] (by simp) (by simp [yC]) (by simp [yC]) ?_)
 rintro ⟨a,pre,v1⟩ ⟨ha,hr⟩
 simp only at ha hr ⊢
 have hpn:=hp.n
 repeat apply za
 refine zb ?_
 refine zr rfl (fun hc=>?_) (fun hc=>?_)
 ·simp at hc
  obtain ⟨d,tl,a1,a2,a3,e0⟩:=zC rfl p a hc
  have hdm:=List.mem_of_getElem? a1
  have hdl:=hp.d d hdm
  rw [a2] at hr
  simp only [told] at hr
  refine zh (za (zi (za (zb ?_))))
  refine zi (zB (fun s:Nat × List (Stop × Nat) × Nat=>s.1<=d.length/\told 0 p=s.2.1++((d.drop s.1).flatten.map (·,a)++told (a+1) (p.drop (a+1)))) (fun (b,pre,v1)=>[(1,I c),(2,.ptr nx v0 0),(5,.sl (nx+1) v1 2 0 (yC c pre).length),(6,I a),(7,I b)]) (fun (b,pre,v1)=>[.cells v0 38 [L p],.cells v1 85 ((yC c pre).flatMap Enc.enc)]) (fun s=>d.length-s.1) (0,pre,v1) [] (by simp [hr]) (by simp) (by simp) ?_)
  rintro ⟨b,pre,v1⟩ ⟨hb,hr⟩
  simp only at hb hr ⊢
  repeat apply za
  refine ze [] (zn e0 hc) ?_
  refine zr rfl (fun hc2=>?_) (fun hc2=>?_)
  ·simp at hc2
   obtain ⟨t,tl2,b1,b2,b3,e2⟩:=zC rfl d b hc2
   have htl:=hp.t d hdm t (List.mem_of_getElem? b1)
   rw [b2] at hr
   simp only [List.flatten_cons,List.map_append,List.append_assoc] at hr
   refine zh (za (zi (za (ze [] (zP e0 hc e2 hc2) ?_))))
   refine za (zb ?_)
   refine zi (zB (fun s:Nat × List (Stop × Nat) × Nat=>s.1<=t.length/\told 0 p=s.2.1++((t.drop s.1).map (·,a)++((d.drop (b+1)).flatten.map (·,a)++told (a+1) (p.drop (a+1))))) (fun (j,pre,v1)=>[(1,I c),(2,.ptr nx v0 0),(5,.sl (nx+1) v1 2 0 (yC c pre).length),(6,I a),(7,I b),(8,L t),(9,I j)]) (fun (j,pre,v1)=>[.cells v0 38 [L p],.cells v1 85 ((yC c pre).flatMap Enc.enc)]) (fun s=>t.length-s.1) (0,pre,v1) [] (by simp [hr]) (by simp) (by simp) ?_)
   rintro ⟨j,pre,v1⟩ ⟨hj,hr⟩
   simp only at hj hr ⊢
   repeat apply za
   refine zb ?_
   refine zr rfl (fun hc3=>?_) (fun hc3=>?_)
   ·simp at hc3
    obtain ⟨s,tl3,c1,c2,c3,e4,e3⟩:=el 2 rfl t j hc3
    have e31:=e4 1 (by omega)
    rw [c2] at hr
    simp only [List.map_cons,List.cons_append] at hr
    have hl:=ol pre _ hr
    refine zh (za (zi ?_))
    by_cases h:s.c=c
    ·refine za (ze [] (zE e3 hc3 h) ?_)
     refine zm (by simp) ?_
     refine ze [] (zn e31 hc3) ?_
     refine ⟨by omega,?_⟩
     refine zb ?_
     exact zq (j+1,pre++[(s,a)],v1+1) [] ⟨hc3,by simp [hr]⟩ (by simp;omega) (by simp [zt j (by omega),Y3,Y4,h]) rfl (by simp [Y3,Y4,h])
    ·refine za (ze [] (zE e3 hc3 h) ?_)
     refine zo (by simp) ?_
     refine zh (zb ?_)
     exact zq (j+1,pre++[(s,a)],v1) [] ⟨hc3,by simp [hr]⟩ (by simp;omega) (by simp [zt j (by omega),Y3,Y4,h]) rfl (by simp [Y3,Y4,h])
   ·simp at hc3
    obtain rfl:j=t.length:=by omega
    simp only [List.drop_length,List.map_nil,List.nil_append] at hr
    refine zu (zb ?_)
    exact zq (b+1,pre,v1) [] ⟨hc2,hr⟩ (by simp;omega) (by simp [zt b (by omega)]) rfl (by simp)
  ·simp at hc2
   obtain rfl:b=d.length:=by omega
   simp only [List.drop_length,List.flatten_nil,List.map_nil,List.nil_append] at hr
   refine zu (zb ?_)
   exact zq (a+1,pre,v1) [] ⟨hc,hr⟩ (by simp;omega) (by simp [zt a (by omega)]) rfl (by simp)
 ·simp at hc
  obtain rfl:a=p.length:=by omega
  simp only [List.drop_length,told,List.append_nil] at hr
  refine zu (za (zb ?_))
  refine zX 1 rfl ?_
  exact zg (zk hd (by simp;rfl) (by rw [hr];simp [zp]))
open Go
theorem Zlo (n d:Nat):((n:Int).fdiv (2 ^ d))=((n / 2 ^ d:Nat):Int):=by
 have h:(2:Int) ^ d=((2 ^ d:Nat):Int):=by simp
 rw [h,Int.fdiv_eq_ediv_of_nonneg _ (Int.natCast_nonneg _)]
 rfl
theorem Zlp (n:Nat) (d:Int) (hn:n<2 ^ 64):Pure Tryz.prog 256 [U n,I d] (B (decide (0<=d/\d<64/\yJ n d.toNat=1))):=by
 by_cases h:0<=d/\d<64
 ·have h1:¬d<0:=by omega
  have h2:min d.toNat 64=d.toNat:=by omega
  have hlt:n / 2 ^ d.toNat<=n:=Nat.div_le_self _ _
  have h3:=Zlo n d.toNat
  have hb:yJ n d.toNat=n / 2 ^ d.toNat % 2:=rfl
  generalize n / 2 ^ d.toNat=m at hlt h3 hb
  have h4:=and_one_u64 (m:Int) (by omega) (by omega)
  have h5:IntKind.u64.wrap (m:Int)=(m:Int):=by
   simp only [IntKind.wrap,IntKind.bits,IntKind.signed]
   simp
   omega
  have h6:((m:Int) % 2=1)=(yJ n d.toNat=1):=by rw [hb];exact propext ⟨fun q=>by omega,fun q=>by omega⟩
  refine zz Tryz.func256 Tryz.ntmps256 Tryz.results256 fun S nx hd=>?_
  refine za (zb ?_)
  refine za (z8 [(2,7)] (by rfl) (by rfl) fun K Gc Gh hK hGc hGh X hX0 hX=>?_)
  simp -implicitDefEqProofs [hX0,hX]
  try clear hX0 hX X
  refine hGc _ _ _ _ _ _ _ fun hsuf=>((VV d _).mono ?_).v
  rintro _ _ ⟨rfl,rfl⟩
  refine ⟨_,_,rfl,?_⟩
  clear hGc hGh
  clear Gc Gh
  refine zW hsuf (D:=[(2,7)]) (by rfl) fun Gc Gh hGc hGh X hX0 hX=>?_
  simp -implicitDefEqProofs [hX0,hX,h,h1,h2,h3,h5,h4,IntKind.bits]
  try clear hX0 hX X
  refine hK _ _ _ ?_
  clear hK hGc hGh
  clear K Gc Gh
  exact zg (zk hd (by simp;rfl) (by simp [h,zp,h6]))
 ·refine zz Tryz.func256 Tryz.ntmps256 Tryz.results256 fun S nx hd=>?_
  refine za (zb ?_)
  refine za (ze [(2,7)] trivial ?_)
  refine qZ [(2,7)] (VV d) (zn h zx) ?_
  have h7:¬(0<=d/\d<64/\yJ n d.toNat=1):=fun q=>h ⟨q.1,q.2.1⟩
  exact zg (zk hd (by simp;rfl) (by simp only [h7,zp,decide_false]))
def yq (n a k:Nat):List Int:=((List.range k).filter fun i=>decide (a<=i) && decide (yJ n i=1)).map fun (i:Nat)=>(i:Int)
theorem uZ (n a k:Nat):(yq n a k).length<=k:=by
 simp only [yq,List.length_map]
 exact Nat.le_trans (List.length_filter_le _ _) (by simp)
theorem Zd1 (n a k:Nat) (h:a<=k):yq n a (k+1)=yq n a k++(if yJ n k=1 then [(k:Int)] else []):=by
 simp only [yq,List.range_succ,List.filter_append,List.map_append]
 by_cases q:yJ n k=1<;>simp [q,h]
theorem V4 (n a k:Nat) (h:k<=a):yq n a k=[]:=by
 simp only [yq,List.map_eq_nil_iff,List.filter_eq_nil_iff,List.mem_range]
 intro i hi;simp;omega
theorem Zlq (n:Nat) (d:Int) (hn:n<2 ^ 64) (hdl:d<=1000):Pure Tryz.prog 255 [.fn (.func 256) [U n] [],I d] (L (yq n d.toNat 64)):=by
 have hmax:j4 d 0=((d.toNat:Nat):Int):=by unfold j4;split<;>omega
 have h64:yq n d.toNat (max d.toNat 64)=yq n d.toNat 64:=by
  by_cases q:d.toNat<=64
  ·rw [Nat.max_eq_right q]
  ·rw [Nat.max_eq_left (by omega),V4 _ _ _ (Nat.le_refl _),V4 _ _ _ (by omega)]
 have ha:d.toNat<=1000:=by omega
 have main:∀a:Nat,a<=1000->yq n a (max a 64)=yq n d.toNat 64->j4 d 0=(a:Int)->Pure Tryz.prog 255 [.fn (.func 256) [U n] [],I d] (L (yq n d.toNat 64)):=by
  intro a ha h64 hmax
  refine zz Tryz.func255 Tryz.ntmps255 Tryz.results255 fun S nx hd=>?_
  refine za (zb ?_)
  refine za (zb ?_)
  refine za (yT 5 3 1 rfl fun v1=>?_)
  refine za (ze [] hmax ?_)
  refine zi (zB (fun s:Nat × List Int × Nat=>a<=s.1/\s.1<=max a 64/\s.2.1=yq n a s.1) (fun (k,out,v1)=>[(0,.fn (.func 256) [U n] []),(5,.sl nx v1 1 0 out.length),(6,I k)]) (fun (k,out,v1)=>[.cells v1 3 (out.flatMap Enc.enc)]) (fun s=>max a 64-s.1) (a,[],v1) [] (by simp [V4];omega) (by simp) (by simp) ?_)
  rintro ⟨k,out,v1⟩ ⟨hk0,hk,ho⟩
  simp only at hk0 hk ho ⊢
  have hol:out.length<=k:=by rw [ho];exact uZ _ _ _
  repeat apply za
  refine zb ?_
  refine zr rfl (fun hc=>?_) (fun hc=>?_)
  ·simp at hc
   have hc':k<64:=by omega
   refine zh (za (zi (za (zb ?_))))
   refine zA (Zlp n k hn) ?_
   have hs:=Zd1 n a k hk0
   refine zr rfl (fun hb=>?_) (fun hb=>?_)
   ·simp at hb
    refine zb ?_
    refine ⟨by omega,?_⟩
    refine zb ?_
    exact zq (k+1,out++[(k:Int)],v1+1) [] ⟨by omega,by omega,by rw [hs,if_pos hb.2,ho]⟩ (by simp;omega) (by simp [zt k (by omega)]) rfl (by simp)
   ·have hb':¬yJ n k=1:=by simp at hb;exact hb (by omega)
    refine zh (zb ?_)
    exact zq (k+1,out,v1) [] ⟨by omega,by omega,by rw [hs,if_neg hb',ho];simp⟩ (by simp;omega) (by simp [zt k (by omega)]) rfl (by simp)
  ·simp at hc
   obtain rfl:k=max a 64:=by omega
   refine zu (za (zb ?_))
   refine zX 0 rfl ?_
   exact zg (zk hd (by simp;rfl) (by simp [ho,h64,zp]))
 exact main d.toNat ha h64 hmax
def ZB (n:Nat) (d:Int):Int:=(yq n d.toNat 64).headD (-1)
open Go
def zY (n lo hi:Int):Bool:=decide (lo<=n/\n<=hi)
def Yg (c:Cust) (days:Int):Bool:=(c.pats.all fun p=>decide (ZB p days<0)) && zY c.pats.length 1 64
def vI (c:Cust):Bool:=decide (c.rate=0/\c.size=0/\c.start=0/\c.rule=0/\c.hold=0)
def u5 (c:Cust):Bool:=decide (c.rule=1\/c.rule=2)
def ZC (c:Cust):Bool:=decide (c.pats.length=0/\c.demand=0)
structure Must where
 f:FuncId
 b:Bool
instance:Enc Must:=⟨fun m=>[.fn (.func m.f) [] []],1,fun _=>rfl,fun _=>rfl⟩
@[simp] theorem ZqU (m:Must):Enc.enc m=[.fn (.func m.f) [] []]:=rfl
@[simp high] theorem ZqV (l:List Must):(l.flatMap Enc.enc).length=l.length:=(j8 l).trans (Nat.mul_one _)
def vf (c:Cust) (d:Int):Bool :=
 if c.kind=1 then (zY c.demand 1 2147483648 && Yg c d && vI c)
 else if c.kind=2 then (zY c.rate 0 2147483648 && zY c.size 1 2147483648 && zY c.start 0 c.size && u5 c && zY c.hold 0 1024 && ZC c) else false
open Go
def ZD (n:Nat):Nat->List (List Int)->Bool
 | _,[]=>true
 | a,row :: l=>(decide (row.length=n) && decide (row.getD a 0=0) && row.all (zY · 0 2147483648)) && ZD n (a+1) l
def V5 (l:List (List Int)) (n:Nat):Bool:=decide (l.length=n) && ZD n 0 l
def jD (x:Inst):Bool :=
 zY x.days 1 64 && decide (x.cust.length<=2000) && zY x.veh 0 2147483648 && zY x.cap 0 2147483648 && zY x.len 0 2147483648 && x.cust.all (vf · x.days) && V5 x.dist (x.cust.length+1)
open Go
theorem Zd2 (n:Nat) (hn:n<2 ^ 64):Pure Tryz.prog 113 [U n] (L (yq n 0 64)):=by
 have hl:=Z0 n
 refine zz Tryz.func113 Tryz.ntmps113 Tryz.results113 fun S nx hd=>?_
 refine za (zb ?_)
 refine za (zb ?_)
 refine za (yT 3 3 1 rfl fun v1=>?_)
 refine zb ?_
 refine zA (ZbL n hn) ?_
 repeat apply za
 refine zb ?_
 refine zi (zB (fun s:Nat × List Int × Nat=>s.1<=64/\s.2.1=yq n 0 s.1) (fun (k,out,v1)=>[(3,.sl nx v1 1 0 out.length),(4,L (q8 n)),(5,I k)]) (fun (k,out,v1)=>[.cells v1 3 (out.flatMap Enc.enc)]) (fun s=>64-s.1) (0,[],v1) [] (by simp [yq]) (by simp) (by simp) ?_)
 rintro ⟨k,out,v1⟩ ⟨hk,ho⟩
 simp only at hk ho ⊢
 have hol:out.length<=k:=by rw [ho];exact uZ _ _ _
 have hs:=Zd1 n 0 k (by omega)
 repeat apply za
 refine zb ?_
 refine zr rfl (fun hc=>?_) (fun hc=>?_)
 ·simp at hc
  have hc':k<64:=by omega
  obtain ⟨b,tl,a1,a2,a3,e0⟩:=zC rfl (q8 n) k (by omega)
  rw [WM n k hc'] at a1;cases a1
  have g1:(k:Int)<64:=by omega
  refine zh (za (zi (za (ze [] (zE e0 hl g1) ?_))))
  refine zr rfl (fun hb=>?_) (fun hb=>?_)
  ·have hb':yJ n k=1:=by simp at hb;omega
   refine zb ?_
   refine ⟨by omega,?_⟩
   refine zb ?_
   exact zq (k+1,out++[(k:Int)],v1+1) [] ⟨by omega,by rw [hs,if_pos hb',ho]⟩ (by simp;omega) (by simp [zt k (by omega)]) rfl (by simp)
  ·have hb':¬yJ n k=1:=by simp at hb;omega
   refine zh (zb ?_)
   exact zq (k+1,out,v1) [] ⟨by omega,by rw [hs,if_neg hb',ho];simp⟩ (by simp;omega) (by simp [zt k (by omega)]) rfl (by simp)
 ·simp at hc
  obtain rfl:k=64:=by omega
  refine zu (za (zb ?_))
  refine zX 0 rfl ?_
  exact zg (zk hd (by simp;rfl) (by simp [ho,zp]))
theorem Zlr (n:Nat) (d:Int):yq n d.toNat 64=(yq n 0 64).filter fun x=>decide (d<=x):=by
 simp only [yq,List.filter_map,List.filter_filter,Nat.zero_le,decide_true,Bool.true_and]
 congr 1
 apply List.filter_congr
 intro i _
 have:(d.toNat<=i)=(d<=(i:Int)):=propext ⟨fun h=>by omega,fun h=>by omega⟩
 simp only [Function.comp,this]
theorem Zls (n:Nat) (d:Int) (hn:n<2 ^ 64):Pure Tryz.prog 132 [U n,I d] (I (ZB n d)):=by
 have hln:=uZ n 0 64
 have hnx:ZB n d=((yq n 0 64).filter fun x=>decide (d<=x)).headD (-1):=by rw [ZB,Zlr]
 have hall:=Zd2 n hn
 generalize yq n 0 64=l at hln hnx hall
 refine zz Tryz.func132 Tryz.ntmps132 Tryz.results132 fun S nx hd=>?_
 refine za (zb ?_)
 refine za (zb ?_)
 refine zA hall ?_
 repeat apply za
 refine zb ?_
 refine zi (zB (fun s:Nat=>s<=l.length/\ZB n d=((l.drop s).filter fun x=>decide (d<=x)).headD (-1)) (fun k=>[(1,I d),(5,L l),(6,I k)]) (fun _=>[]) (fun s=>l.length-s) 0 [] (by simp [hnx]) (by simp) (by simp) ?_)
 rintro k ⟨hk,ho⟩
 repeat apply za
 refine zb ?_
 refine zr rfl (fun hc=>?_) (fun hc=>?_)
 ·simp at hc
  obtain ⟨e,tl,a1,a2,a3,e0⟩:=zC rfl l k hc
  rw [a2] at ho
  refine zh (za (zi (za (ze [] (zn e0 hc) ?_))))
  refine zr rfl (fun h=>?_) (fun h=>?_)
  ·simp at h
   refine za (ze [] (zn e0 hc) ?_)
   exact zg (zk hd (by simp;rfl) (by rw [ho];simp [h,zp]))
  ·simp at h
   refine zh (zb ?_)
   exact zq (k+1) [] ⟨hc,by rw [ho];simp [h]⟩ (by omega) (by simp [zt k (by omega)]) rfl (by simp)
 ·simp at hc
  obtain rfl:k=l.length:=by omega
  rw [List.drop_length] at ho
  refine zu (za (zb ?_))
  exact zg (zk hd (by simp;rfl) (by rw [ho];rfl))
theorem V6 (c:Cust) (d:Int) (h:c.kind=1):vf c d=(zY c.demand 1 2147483648 && Yg c d && vI c):=by simp [vf,h]
theorem V7 (c:Cust) (d:Int) (h:c.kind=2):vf c d=(zY c.rate 0 2147483648 && zY c.size 1 2147483648 && zY c.start 0 c.size && u5 c && zY c.hold 0 1024 && ZC c):=by simp [vf,h]
theorem Zd3 (c:Cust) (d:Int) (h:¬c.kind=1) (h2:¬c.kind=2):vf c d=false:=by simp [vf,h,h2]
theorem Zlt (c:Cust) (d:Int) (hp:∀p∈c.pats,p<2 ^ 64) (hl:c.pats.length<=9223372036854775807):Pure Tryz.prog 95 [.agg (zM c),I d] (B (vf c d)):=by
 refine zz Tryz.func95 Tryz.ntmps95 Tryz.results95 fun S nx hd=>?_
 refine za (zb ?_)
 intro v0
 repeat apply za
 refine zb ?_
 refine zr rfl (fun hk1=>?_) (fun hk1=>?_)
 ·simp at hk1
  rw [V6 c d hk1]
  by_cases h1:c.demand<1
  ·repeat apply za
   refine ze [(3,12),(8,17),(14,23),(20,29),(25,34),(30,39),(35,44),(40,49)] (zn h1 zx) ?_
   refine zm rfl (za (zb ?_))
   exact zg (zk hd rfl (by simp only [zY,show ¬(1<=c.demand/\c.demand<=2147483648) by omega];rfl))
  by_cases h2:(2147483648:Int)<c.demand
  ·repeat apply za
   refine ze [(3,12),(8,17),(14,23),(20,29),(25,34),(30,39),(35,44),(40,49)] (zE h2 h1 zx) ?_
   refine zm rfl (za (zb ?_))
   exact zg (zk hd rfl (by simp only [zY,show ¬(1<=c.demand/\c.demand<=2147483648) by omega];rfl))
  by_cases h3:c.pats=[]
  ·repeat apply za
   refine ze [(3,12),(8,17),(14,23),(20,29),(25,34),(30,39),(35,44),(40,49)] (zP h3 h1 h2 zx) ?_
   refine zm rfl (za (zb ?_))
   exact zg (zk hd rfl (by simp [Yg,h3,zY,zp]))
  have h3':¬(c.pats.length:Int)<1:=by have:=List.length_pos_iff.2 h3;omega
  by_cases h4:(64:Int)<(c.pats.length:Int)
  ·repeat apply za
   refine ze [(3,12),(8,17),(14,23),(20,29),(25,34),(30,39),(35,44),(40,49)] (zL h4 h1 h2 h3 h3' zx) ?_
   refine zm rfl (za (zb ?_))
   exact zg (zk hd rfl (by simp [Yg,zY,zp,show ¬((c.pats.length:Int)<=64) by omega]))
  by_cases h5:c.rate=0
  case neg =>
   repeat apply za
   refine ze [(3,12),(8,17),(14,23),(20,29),(25,34),(30,39),(35,44),(40,49)] (zL h5 h1 h2 h3 h3' (zn h4 zx)) ?_
   refine zm rfl (za (zb ?_))
   exact zg (zk hd rfl (by simp [vI,h5,zp]))
  by_cases h6:c.size=0
  case neg =>
   repeat apply za
   refine ze [(3,12),(8,17),(14,23),(20,29),(25,34),(30,39),(35,44),(40,49)] (zL h6 h1 h2 h3 h3' (zE h4 h5 zx)) ?_
   refine zm rfl (za (zb ?_))
   exact zg (zk hd rfl (by simp [vI,h6,zp]))
  by_cases h7:c.start=0
  case neg =>
   repeat apply za
   refine ze [(3,12),(8,17),(14,23),(20,29),(25,34),(30,39),(35,44),(40,49)] (zL h7 h1 h2 h3 h3' (zP h4 h5 h6 zx)) ?_
   refine zm rfl (za (zb ?_))
   exact zg (zk hd rfl (by simp [vI,h7,zp]))
  by_cases h8:c.rule=0
  case neg =>
   repeat apply za
   refine ze [(3,12),(8,17),(14,23),(20,29),(25,34),(30,39),(35,44),(40,49)] (zL h8 h1 h2 h3 h3' (yD h4 h5 h6 h7 zx)) ?_
   refine zm rfl (za (zb ?_))
   exact zg (zk hd rfl (by simp [vI,h8,zp]))
  by_cases h9:c.hold=0
  case neg =>
   repeat apply za
   refine ze [(3,12),(8,17),(14,23),(20,29),(25,34),(30,39),(35,44),(40,49)] (zL h9 h1 h2 h3 h3' (zL h4 h5 h6 h7 h8 zx)) ?_
   refine zm rfl (za (zb ?_))
   exact zg (zk hd rfl (by simp [vI,h9,zp]))
  repeat apply za
  refine ze [(3,12),(8,17),(14,23),(20,29),(25,34),(30,39),(35,44),(40,49)] (zL h1 h2 h3 h3' h4 (yD h5 h6 h7 h8 h9)) ?_
  refine zo rfl (zh ?_)
  have hres:(zY c.demand 1 2147483648 && Yg c d && vI c)=c.pats.all fun p=>decide (ZB p d<0):=by
   have e1:zY c.demand 1 2147483648=true:=by simp [zY];omega
   have e2:zY c.pats.length 1 64=true:=by simp [zY];omega
   have e3:vI c=true:=by simp [vI,h5,h6,h7,h8,h9]
   rw [e1,e3,Yg,e2];simp
  rw [hres]
  repeat apply za
  refine zb ?_
  refine zi (zB (fun s:Nat=>s<=c.pats.length/\(c.pats.take s).all (fun p=>decide (ZB p d<0))=true) (fun k=>[(1,I d),(2,.ptr nx v0 0),(5,I k)]) (fun _=>[.cells v0 65 (zM c)]) (fun s=>c.pats.length-s) 0 [] (by simp) (by simp) (by simp) ?_)
  rintro k ⟨hk,ho⟩
  repeat apply za
  refine zb ?_
  refine zr rfl (fun hc=>?_) (fun hc=>?_)
  ·simp at hc
   obtain ⟨p,tl,a1,a2,a3,e0⟩:=zC rfl c.pats k hc
   have hpm:=List.mem_of_getElem? a1
   refine zh (za (zi (za (ze [] (zn e0 hc) ?_))))
   refine zA (Zls p d (hp p hpm)) ?_
   refine zr rfl (fun h=>?_) (fun h=>?_)
   ·simp at h
    have hr2:(c.pats.all fun p=>decide (ZB p d<0))=false:=by rw [List.all_eq_false];exact ⟨p,hpm,by simp;omega⟩
    refine za (zb ?_)
    exact zg (zk hd (by simp;rfl) (by simp only [hr2,zp]))
   ·simp at h
    refine zh (zb ?_)
    exact zq (k+1) [] ⟨hc,by rw [a3,List.all_append,ho];simp [h]⟩ (by omega) (by simp [zt k (by omega)]) rfl (by simp)
  ·simp at hc
   obtain rfl:k=c.pats.length:=by omega
   rw [List.take_length] at ho
   refine zu (za (zb ?_))
   exact zg (zk hd (by simp;rfl) (by rw [ho];rfl))
 ·simp at hk1
  refine zh ?_
  by_cases hk2:c.kind=2
  ·rw [V7 c d hk2]
   by_cases h1:0<c.pats.length
   ·repeat apply za
    refine ze [(3,72),(9,78)] (zE h1 hk2 zx) ?_
    refine zm rfl (za (zb ?_))
    exact zg (zk hd rfl (by simp [ZC,List.ne_nil_of_length_pos h1,zp]))
   have h1':c.pats=[]:=List.eq_nil_of_length_eq_zero (by omega)
   by_cases h2:c.demand=0
   case neg =>
    repeat apply za
    refine ze [(3,72),(9,78)] (zP h2 hk2 h1 zx) ?_
    refine zm rfl (za (zb ?_))
    exact zg (zk hd rfl (by simp [ZC,h2,zp]))
   repeat apply za
   refine ze [(3,72),(9,78)] (zE hk2 h1 h2) ?_
   refine zo rfl (zh ?_)
   by_cases h3:c.rate<0
   ·repeat apply za
    refine ze [(3,86),(8,91),(13,96),(18,101),(23,106)] (zn h3 zx) ?_
    refine zm rfl (za (zb ?_))
    exact zg (zk hd rfl (by simp only [zY,show ¬(0<=c.rate/\c.rate<=2147483648) by omega];rfl))
   by_cases h4:(2147483648:Int)<c.rate
   ·repeat apply za
    refine ze [(3,86),(8,91),(13,96),(18,101),(23,106)] (zE h4 h3 zx) ?_
    refine zm rfl (za (zb ?_))
    exact zg (zk hd rfl (by simp only [zY,show ¬(0<=c.rate/\c.rate<=2147483648) by omega];rfl))
   by_cases h5:c.size<1
   ·repeat apply za
    refine ze [(3,86),(8,91),(13,96),(18,101),(23,106)] (zP h5 h3 h4 zx) ?_
    refine zm rfl (za (zb ?_))
    exact zg (zk hd rfl (by simp [zY,zp,show ¬1<=c.size by omega]))
   by_cases h6:(2147483648:Int)<c.size
   ·repeat apply za
    refine ze [(3,86),(8,91),(13,96),(18,101),(23,106)] (yD h6 h3 h4 h5 zx) ?_
    refine zm rfl (za (zb ?_))
    exact zg (zk hd rfl (by simp [zY,zp,show ¬c.size<=2147483648 by omega]))
   by_cases h7:c.start<0
   ·repeat apply za
    refine ze [(3,86),(8,91),(13,96),(18,101),(23,106)] (zL h7 h3 h4 h5 h6 zx) ?_
    refine zm rfl (za (zb ?_))
    exact zg (zk hd rfl (by simp [zY,zp,show ¬0<=c.start by omega]))
   by_cases h8:c.size<c.start
   ·repeat apply za
    refine ze [(3,86),(8,91),(13,96),(18,101),(23,106)] (zL h8 h3 h4 h5 h6 (zn h7 zx)) ?_
    refine zm rfl (za (zb ?_))
    exact zg (zk hd rfl (by simp [zY,zp,show ¬c.start<=c.size by omega]))
   repeat apply za
   refine ze [(3,86),(8,91),(13,96),(18,101),(23,106)] (zL h3 h4 h5 h6 h7 h8) ?_
   refine zo rfl (zh ?_)
   have hres:(zY c.rate 0 2147483648 && zY c.size 1 2147483648 && zY c.start 0 c.size && u5 c && zY c.hold 0 1024 && ZC c)=(u5 c && zY c.hold 0 1024):=by
    have e1:zY c.rate 0 2147483648=true:=by simp [zY];omega
    have e2:zY c.size 1 2147483648=true:=by simp [zY];omega
    have e3:zY c.start 0 c.size=true:=by simp [zY];omega
    have e4:ZC c=true:=by simp [ZC,h1',h2]
    rw [e1,e2,e3,e4];simp
   rw [hres]
   by_cases r1:c.rule=1
   ·by_cases r3:0<=c.hold
    ·refine za (ze [(3,116),(8,121),(13,126)] (zE r1 r3 zx) ?_)
     exact zg (zk hd (by simp;rfl) (by simp [u5,r1,zY,r3,zp]))
    ·refine za (ze [(3,116),(8,121),(13,126)] (zE r1 r3 zx) ?_)
     exact zg (zk hd (by simp;rfl) (by simp [u5,r1,zY,r3,zp]))
   ·by_cases r2:c.rule=2
    ·by_cases r3:0<=c.hold
     ·refine za (ze [(3,116),(8,121),(13,126)] (zP r1 r2 r3 zx) ?_)
      exact zg (zk hd (by simp;rfl) (by simp [u5,r2,zY,r3,zp]))
     ·refine za (ze [(3,116),(8,121),(13,126)] (zP r1 r2 r3 zx) ?_)
      exact zg (zk hd (by simp;rfl) (by simp [u5,r2,zY,r3,zp]))
    ·refine za (ze [(3,116),(8,121),(13,126)] (zE r1 r2 zx) ?_)
     exact zg (zk hd (by simp;rfl) (by simp [u5,r1,r2,zp]))
  ·rw [Zd3 c d hk1 hk2]
   have hk2':(c.kind != 2)=true:=by simpa using hk2
   repeat apply za
   refine ze [(3,72),(9,78)] (zn hk2' zx) ?_
   refine zm rfl (za (zb ?_))
   exact zg (zk hd (by simp;rfl) rfl)
open Go
theorem Zlu (x:Inst) (hx:InstOk x):Pure Tryz.prog 51 [.agg (zv x)] (B (jD x)):=by
 have hnc:=hx.ncust
 refine zz Tryz.func51 Tryz.ntmps51 Tryz.results51 fun S nx hd=>?_
 refine za (zb ?_)
 intro v0
 refine za (zb ?_)
 by_cases h1:x.days<1
 ·repeat apply za
  refine ze [(3,14),(8,19),(13,24),(18,29),(23,34),(28,39),(33,44),(38,49),(42,53)] (zn h1 zx) ?_
  refine zm rfl (za (zb ?_))
  exact zg (zk hd rfl (by simp [jD,zY,zp,show ¬1<=x.days by omega]))
 by_cases h2:(64:Int)<x.days
 ·repeat apply za
  refine ze [(3,14),(8,19),(13,24),(18,29),(23,34),(28,39),(33,44),(38,49),(42,53)] (zE h2 h1 zx) ?_
  refine zm rfl (za (zb ?_))
  exact zg (zk hd rfl (by simp [jD,zY,zp,show ¬x.days<=64 by omega]))
 by_cases h3:x.veh<0
 ·repeat apply za
  refine ze [(3,14),(8,19),(13,24),(18,29),(23,34),(28,39),(33,44),(38,49),(42,53)] (zP h3 h1 h2 zx) ?_
  refine zm rfl (za (zb ?_))
  exact zg (zk hd rfl (by simp [jD,zY,zp,show ¬0<=x.veh by omega]))
 by_cases h4:(2147483648:Int)<x.veh
 ·repeat apply za
  refine ze [(3,14),(8,19),(13,24),(18,29),(23,34),(28,39),(33,44),(38,49),(42,53)] (yD h4 h1 h2 h3 zx) ?_
  refine zm rfl (za (zb ?_))
  exact zg (zk hd rfl (by simp [jD,zY,zp,show ¬x.veh<=2147483648 by omega]))
 by_cases h5:x.cap<0
 ·repeat apply za
  refine ze [(3,14),(8,19),(13,24),(18,29),(23,34),(28,39),(33,44),(38,49),(42,53)] (zL h5 h1 h2 h3 h4 zx) ?_
  refine zm rfl (za (zb ?_))
  exact zg (zk hd rfl (by simp [jD,zY,zp,show ¬0<=x.cap by omega]))
 by_cases h6:(2147483648:Int)<x.cap
 ·repeat apply za
  refine ze [(3,14),(8,19),(13,24),(18,29),(23,34),(28,39),(33,44),(38,49),(42,53)] (zL h6 h1 h2 h3 h4 (zn h5 zx)) ?_
  refine zm rfl (za (zb ?_))
  exact zg (zk hd rfl (by simp [jD,zY,zp,show ¬x.cap<=2147483648 by omega]))
 by_cases h7:x.len<0
 ·repeat apply za
  refine ze [(3,14),(8,19),(13,24),(18,29),(23,34),(28,39),(33,44),(38,49),(42,53)] (zL h7 h1 h2 h3 h4 (zE h5 h6 zx)) ?_
  refine zm rfl (za (zb ?_))
  exact zg (zk hd rfl (by simp [jD,zY,zp,show ¬0<=x.len by omega]))
 by_cases h8:(2147483648:Int)<x.len
 ·repeat apply za
  refine ze [(3,14),(8,19),(13,24),(18,29),(23,34),(28,39),(33,44),(38,49),(42,53)] (zL h8 h1 h2 h3 h4 (zP h5 h6 h7 zx)) ?_
  refine zm rfl (za (zb ?_))
  exact zg (zk hd rfl (by simp [jD,zY,zp,show ¬x.len<=2147483648 by omega]))
 by_cases h9:(2000:Int)<(x.cust.length:Int)
 ·repeat apply za
  refine ze [(3,14),(8,19),(13,24),(18,29),(23,34),(28,39),(33,44),(38,49),(42,53)] (zL h9 h1 h2 h3 h4 (yD h5 h6 h7 h8 zx)) ?_
  refine zm rfl (za (zb ?_))
  exact zg (zk hd rfl (by simp [jD,zp,show ¬x.cust.length<=2000 by omega]))
 have w1:=zt x.cust.length (by omega)
 have w1':IntKind.i64.wrap ((x.cust.length:Int)+1)=(x.cust.length:Int)+1:=by rw [w1];omega
 by_cases h10:(x.dist.length:Int)=(x.cust.length:Int)+1
 case neg =>
  repeat apply za
  refine ze [(3,14),(8,19),(13,24),(18,29),(23,34),(28,39),(33,44),(38,49),(42,53)] (zL h1 h2 h3 h4 h5 (zL h6 h7 h8 h9 h10 w1')) ?_
  refine zm (by simp [h10]) ?_
  refine za (zb ?_)
  exact zg (zk hd rfl (by simp [jD,V5,zp,show ¬x.dist.length=x.cust.length+1 by omega]))
 have h10':x.dist.length=x.cust.length+1:=by omega
 repeat apply za
 refine ze [(3,14),(8,19),(13,24),(18,29),(23,34),(28,39),(33,44),(38,49),(42,53)] (zL h1 h2 h3 h4 h5 (zL h6 h7 h8 h9 h10 w1')) ?_
 refine zo (by simp [h10]) ?_
 refine zh ?_
 have hres:jD x=(x.cust.all (vf · x.days) && ZD (x.cust.length+1) 0 x.dist):=by
  have e1:zY x.days 1 64=true:=by simp [zY];omega
  have e2:zY x.veh 0 2147483648=true:=by simp [zY];omega
  have e3:zY x.cap 0 2147483648=true:=by simp [zY];omega
  have e4:zY x.len 0 2147483648=true:=by simp [zY];omega
  have e5:x.cust.length<=2000:=by omega
  simp [jD,e1,e2,e3,e4,e5,V5,h10']
 rw [hres]
 clear hres
 repeat apply za
 refine zb ?_
 refine zi (zB (fun s:Nat=>s<=x.cust.length/\(x.cust.take s).all (vf · x.days)=true) (fun k=>[(1,.ptr nx v0 0),(3,I x.cust.length),(4,I k)]) (fun _=>[.cells v0 25 (zv x)]) (fun s=>x.cust.length-s) 0 [] (by simp) (by simp) (by simp) ?_)
 rintro k ⟨hk,ho⟩
 repeat apply za
 refine zb ?_
 refine zr rfl (fun hc=>?_) (fun hc=>?_)
 ·simp at hc
  obtain ⟨c,tl,a1,a2,a3,_,e0⟩:=el 8 rfl x.cust k hc
  have hcm:=List.mem_of_getElem? a1
  have hco:=hx.cust c hcm
  refine zh (za (zi (za (zF none (Row.pures [0,1,2,3,4,5,6,7,8] .done) mixed (zn hc e0) ?_))))
  refine zN (Zlt c x.days hco.pats hco.npats) trivial ?_
  refine za (zb ?_)
  cases hb:vf c x.days with
  | false =>
   have hr2:x.cust.all (vf · x.days)=false:=by rw [List.all_eq_false];exact ⟨c,hcm,by simp [hb]⟩
   refine zm rfl (za (zb ?_))
   exact zg (zk hd (by simp;rfl) (by simp only [hr2,zp,Bool.false_and]))
  | true =>
   refine zo rfl (zh (zb ?_))
   exact zq (k+1) [] ⟨hc,by rw [a3,List.all_append,ho];simp [hb]⟩ (by omega) (by simp [zt k (by omega)]) rfl (by simp)
 ·simp at hc
  obtain rfl:k=x.cust.length:=by omega
  rw [List.take_length] at ho
  rw [ho,Bool.true_and]
  refine zu ?_
  repeat apply za
  refine zb ?_
  generalize hn:x.cust.length=n at *
  refine zi (zB (fun s:Nat=>s<=n+1/\ZD (n+1) 0 x.dist=ZD (n+1) s (x.dist.drop s)) (fun k=>[(1,.ptr nx v0 0),(3,I n),(6,I k)]) (fun _=>[.cells v0 25 (zv x)]) (fun s=>n+1-s) 0 [] (by simp) (by simp) (by simp) ?_)
  rintro a ⟨ha,hr⟩
  repeat apply za
  refine zb ?_
  refine zr rfl (fun hc2=>?_) (fun hc2=>?_)
  ·simp at hc2
   have hal:a<x.dist.length:=by omega
   obtain ⟨row,tl,a1,a2,a3,e0⟩:=zC rfl x.dist a hal
   have hrow:=hx.dist row (List.mem_of_getElem? a1)
   rw [a2] at hr
   simp only [ZD] at hr
   have bad:(row.length=n+1/\row.getD a 0=0->row.all (zY · 0 2147483648)=false)->ZD (n+1) 0 x.dist=false:=by
    intro q
    rw [hr]
    by_cases q1:row.length=n+1
    ·by_cases q2:row.getD a 0=0
     ·rw [q ⟨q1,q2⟩];simp
     ·simp only [q2,decide_false,Bool.and_false,Bool.false_and]
    ·simp only [q1,decide_false,Bool.and_false,Bool.false_and]
   refine zh (za (zi ?_))
   by_cases h2:row.length=n+1
   case neg =>
    have hres:=bad (fun q=>absurd q.1 h2)
    have h2':¬((row.length:Int)=(n:Int)+1):=by omega
    repeat apply za
    refine ze [] (zP hal e0 h2' w1') ?_
    refine zm (by simp [h2']) ?_
    refine za (zb ?_)
    exact zg (zk hd (by simp;rfl) (by simp only [hres,zp]))
   have h2':((row.length:Int)=(n:Int)+1):=by omega
   repeat apply za
   refine ze [] (zP hal e0 h2' w1') ?_
   refine zo (by simp [h2']) ?_
   refine zh (za (zb ?_))
   refine zi (zB (fun s:Nat=>s<=n+1/\(row.take s).all (zY · 0 2147483648)=true/\(a<s->row.getD a 0=0)) (fun j=>[(1,.ptr nx v0 0),(3,I n),(6,I a),(7,I j)]) (fun _=>[.cells v0 25 (zv x)]) (fun s=>n+1-s) 0 [] (by simp) (by simp) (by simp) ?_)
   rintro b ⟨hb,hr1,hr2⟩
   repeat apply za
   refine zb ?_
   refine zr rfl (fun hc3=>?_) (fun hc3=>?_)
   ·simp at hc3
    have hbl:b<row.length:=by omega
    obtain ⟨d,tl2,b1,b2,b3,e2⟩:=zC rfl row b hbl
    have hdm:=List.mem_of_getElem? b1
    have hbn:b<n+1:=by omega
    refine zh (za (zi ?_))
    by_cases g1:d<0
    ·have hres:=bad (fun _=>by rw [List.all_eq_false];exact ⟨d,hdm,by simp [zY];omega⟩)
     refine za (ze [(9,104),(20,115),(24,119)] (zL hal e0 hbl e2 g1 zx) ?_)
     refine zm rfl (za (zb ?_))
     exact zg (zk hd (by simp;rfl) (by simp only [hres,zp]))
    by_cases g2:(2147483648:Int)<d
    ·have hres:=bad (fun _=>by rw [List.all_eq_false];exact ⟨d,hdm,by simp [zY];omega⟩)
     refine za (ze [(9,104),(20,115),(24,119)] (zL hal e0 hbl e2 g1 (zn g2 zx)) ?_)
     refine zm rfl (za (zb ?_))
     exact zg (zk hd (by simp;rfl) (by simp only [hres,zp]))
    have hfr:zY d 0 2147483648=true:=by simp [zY];omega
    by_cases g3:a=b
    ·subst g3
     have hd0:row.getD a 0=d:=by rw [List.getD_eq_getElem?_getD,b1];rfl
     by_cases g4:d=0
     ·refine za (ze [(9,104),(20,115),(24,119)] (zL hal e0 hbl e2 g1 (zn g2 g4)) ?_)
      refine zo (by simp) ?_
      refine zh (zb ?_)
      exact zq (a+1) [] ⟨by omega,by rw [b3,List.all_append,hr1];simp [hfr],fun _=>hd0.trans g4⟩ (by omega) (by simp [zt a (by omega)]) rfl (by simp)
     ·have hres:=bad (fun q=>absurd (hd0.symm.trans q.2) g4)
      refine za (ze [(9,104),(20,115),(24,119)] (zL hal e0 hbl e2 g1 (zn g2 g4)) ?_)
      refine zm (by simp [g4]) ?_
      refine za (zb ?_)
      exact zg (zk hd (by simp;rfl) (by simp only [hres,zp]))
    ·have g3':¬((a:Int)=(b:Int)):=by omega
     refine za (ze [(9,104),(20,115),(24,119)] (zL hal e0 hbl e2 g1 (zP g2 g3 g3' zx)) ?_)
     refine zo (by simp) ?_
     refine zh (zb ?_)
     exact zq (b+1) [] ⟨by omega,by rw [b3,List.all_append,hr1];simp [hfr],fun q=>hr2 (by omega)⟩ (by omega) (by simp [zt b (by omega)]) rfl (by simp)
   ·simp at hc3
    obtain rfl:b=n+1:=by omega
    rw [List.take_of_length_le (by omega)] at hr1
    have h0:=hr2 (by omega)
    refine zu (zb ?_)
    exact zq (a+1) [] ⟨by omega,by rw [hr,hr1,h0];simp [h2]⟩ (by omega) (by simp [zt a (by omega)]) rfl (by simp)
  ·simp at hc2
   obtain rfl:a=n+1:=by omega
   rw [List.drop_of_length_le (by omega)] at hr
   simp only [ZD] at hr
   refine zu (za (zb ?_))
   exact zg (zk hd (by simp;rfl) (by simp [hr,zp]))
open Go
abbrev Zlv (x:Inst) (p:zJ) (i:Int):List PV:=[I x.days,I x.veh,I x.cap,I x.len,L x.cust,L x.dist,L p,I i]
def V8 (c:Cust) (v:List Visit):Int:=if (v.any fun s=>decide (s.q≠c.demand))=true then 9 else if up (v.map (·.d))∈c.pats then 0 else 10
def ur (x:Inst) (p:zJ) (i:Nat):Int :=
 match x.cust[i]? with
 | none=>5
 | some c=>if c.kind=2 then wy c (yx (yC i (told 0 p)) x.days) else V8 c (yC i (told 0 p))
structure Serves (x:Inst) (p:zJ):Prop where
 sz:PlanOk p
 q:∀s∈told 0 p,0<=s.1.q/\s.1.q<=2147483648
 days:p.length<=64
theorem Zd4:∀(p:zJ) (i:Nat) (x:Stop × Nat),x∈told i p->i<=x.2/\x.2<i+p.length
 | [],_,_,h=>by cases h
 | d :: p,i,x,h=>by
  simp only [told,List.mem_append,List.mem_map] at h
  simp only [List.length_cons]
  rcases h with ⟨s,_,rfl⟩ | h
  ·simp only;omega
  ·have:=Zd4 p (i+1) x h;omega
theorem Zd5 {x:Inst} {p:zJ} (h:Serves x p) (c:Int):VisOk (yC c (told 0 p))/\∀s∈yC c (told 0 p),0<=s.d/\s.d<=63:=by
 have hd:∀s∈yC c (told 0 p),(0<=s.q/\s.q<=2147483648)/\0<=s.d/\s.d<=63:=by
  intro s hs
  simp only [yC,List.mem_map,List.mem_filter] at hs
  obtain ⟨y,⟨hy,_⟩,rfl⟩:=hs
  have h1:=h.q y hy
  have h2:=Zd4 p 0 y hy
  have h3:=h.days
  simp only;omega
 exact ⟨⟨Nat.le_trans (ZdS _ _) h.sz.told,fun s hs=>(hd s hs).1,fun s hs=>by have:=(hd s hs).2;unfold zR;omega⟩,fun s hs=>(hd s hs).2⟩
theorem Zlw (x:Inst) (p:zJ) (i:Nat) (h:Serves x p):Pure Tryz.prog 165 [.agg (Zlv x p i)] (L (yx (yC i (told 0 p)) x.days)):=by
 have h1:=ZkW p i h.sz
 have h2:=ZdY _ x.days (Zd5 h i).1
 generalize yx (yC i (told 0 p)) x.days=q at h2 ⊢
 generalize yC i (told 0 p)=v at h1 h2
 refine zz Tryz.func165 Tryz.ntmps165 Tryz.results165 fun S nx hd=>?_
 refine za (zb ?_)
 intro v0
 refine za (zF (some [nx]) (Row.pures [0,1,2,3,4,5,6,7,8,9] .done) mixed trivial ?_)
 refine zN (h1) trivial ?_
 refine zN (h2) trivial ?_
 exact zg (zk hd (by simp;rfl) rfl)
structure CustsOk (x:Inst):Prop where
 n:x.cust.length<=1048576
 kind:∀c∈x.cust,c.kind=1\/c.kind=2
 fits:∀c∈x.cust,CustFits c
 pats:∀c∈x.cust,c.pats.length<=1048576
 xe:∀c∈x.cust,∀p∈c.pats,p<2 ^ 64
open Go
theorem Zd6:∀(l:List Int),(∀b∈l,b=0\/b=1)->∀i:Nat,(jy l).toNat.testBit i=decide (l[i]?=some 1)
 | [],_,i=>by simp [jy]
 | b :: l,h,i=>by
  have hl:∀b∈l,b=0\/b=1:=fun x hx=>h x (by simp [hx])
  have h0:=(WK l hl).1
  have hb:=h b (by simp)
  have hn:jy (b :: l)=2*jy l+b:=rfl
  cases i with
  | zero =>
   rw [Nat.testBit_zero,hn]
   simp only [List.getElem?_cons_zero,Option.some.injEq]
   apply decide_eq_decide.2
   omega
  | succ i =>
   rw [Nat.testBit_succ,hn]
   have:(2*jy l+b).toNat / 2=(jy l).toNat:=by omega
   rw [this,Zd6 l hl i]
   simp
theorem Je (n i:Nat):n.testBit i=decide (yJ n i=1):=by rw [Nat.testBit_eq_decide_div_mod_eq];rfl
theorem Zd7 (n d:Nat) (hn:n<2 ^ 64) (hd:d<64):YI n d=jW n d:=by
 have h01:∀b∈(q8 n).set d 1,b=0\/b=1:=fun b hb=>by
  rcases WN hb with h | h
  ·exact WJ n b h
  ·exact .inr h
 apply Nat.eq_of_testBit_eq
 intro i
 unfold YI QI jW
 rw [Zd6 _ h01,if_pos (by omega),Nat.testBit_or,Int.toNat_natCast,Nat.testBit_two_pow,List.getElem?_set]
 have hl:=Z0 n
 by_cases h:d=i
 ·subst h;simp [hl,hd]
 ·rw [if_neg h]
  by_cases hi:i<64
  ·rw [WM n i hi,Je]
   simp [h];omega
  ·rw [List.getElem?_eq_none (by omega)]
   have:n.testBit i=false:=Nat.testBit_lt_two_pow (Nat.lt_of_lt_of_le hn (Nat.pow_le_pow_right (by decide) (by omega)))
   simp [this,h]
theorem Zlx (x:Inst) (p:zJ) (i:Nat) (h:Serves x p) (hx:CustsOk x) (hi:i<x.cust.length):Pure Tryz.prog 53 [.agg (zv x),.agg [L p],I i] (I (ur x p i)):=by
 obtain ⟨c,tl,a1,a2,a3,_,e0⟩:=el 8 rfl x.cust i hi
 have hcm:=List.mem_of_getElem? a1
 have hres:ur x p i=if c.kind=2 then wy c (yx (yC i (told 0 p)) x.days) else V8 c (yC i (told 0 p)):=by simp only [ur,a1]
 rw [hres]
 have g0:¬(i:Int)<0:=by omega
 have g1:¬(x.cust.length:Int)<=(i:Int):=by omega
 have hvi:=Zln p i h.sz
 obtain ⟨hv1,hv2⟩:=Zd5 h i
 generalize yC (i:Int) (told 0 p)=v at hvi hv1 hv2
 have hvl:=hv1.n
 refine zz Tryz.func53 Tryz.ntmps53 Tryz.results53 fun S nx hd=>?_
 refine za (zb ?_)
 intro v0 v1
 repeat apply za
 refine ze [(2,14)] (zE g0 g1 hi) ?_
 refine zo (by simp) ?_
 refine zh (za (ze [] (zn hi e0) ?_))
 intro v2
 refine za (zb ?_)
 refine zA hvi ?_
 repeat apply za
 refine zb ?_
 by_cases hk:c.kind=2
 ·have hb:=Zd0 v x.days hv1
  have hh:=V3 c (yx v x.days) (hx.fits c hcm) (by rw [XB];omega)
  generalize yx v x.days=q at hb hh ⊢
  refine zm (by simp [hk]) ?_
  refine za (zF (some [nx,nx+2]) (Row.pures [0,1,2,3,4,5,6] .done) mixed trivial ?_)
  refine zN (hb) trivial ?_
  refine zN (hh) trivial ?_
  exact zg (zk hd (by simp;rfl) (by simp [hk,zp]))
 ·have hpl:=hx.pats c hcm
  rw [if_neg hk]
  unfold V8
  refine zo (by simp [hk]) ?_
  refine zh (za (zb ?_))
  repeat apply za
  refine zb ?_
  refine yk (nx:=nx) (σ:=Unit) (fun _=>(v.any fun s=>decide (s.q≠c.demand))=false) (fun _=>[(7,.ptr (nx+2) v2 0),(9,U (up (v.map (·.d))))]) (fun _=>S) (fun _=>[.cells v0 25 (zv x),.cells v1 38 [L p],.cells v2 65 (zM c)]) ?_ ?_
  ·refine zi (zB (fun s:Nat=>s<=v.length/\((v.take s).any fun s=>decide (s.q≠c.demand))=false) (fun k=>[(7,.ptr (nx+2) v2 0),(8,L v),(9,U (up ((v.map (·.d)).take k))),(10,I k)]) (fun _=>[.cells v0 25 (zv x),.cells v1 38 [L p],.cells v2 65 (zM c)]) (fun s=>v.length-s) 0 [] (by simp) (by simp [up]) (by simp) ?_)
   rintro k ⟨hk2,ho⟩
   repeat apply za
   refine zb ?_
   refine zr rfl (fun hc1=>?_) (fun hc1=>?_)
   ·simp at hc1
    obtain ⟨s,tl2,b1,b2,b3,e1,e2⟩:=el 2 rfl v k hc1
    have e21:=e1 1 (by omega)
    have hs:=hv2 s (List.mem_of_getElem? b1)
    have hol:=ZkX ((v.map (·.d)).take k)
    refine zh (za (zi ?_))
    by_cases hq:s.q=c.demand
    ·repeat apply za
     refine zF (some [nx+2]) (Row.pures [0,1,2,3,4,5,6,7] .done) mixed (zE hc1 e21 hq) ?_
     refine zo (by simp) ?_
     refine zh ?_
     obtain ⟨dn,hdn⟩:=Int.eq_ofNat_of_zero_le hs.1
     have hpt:=ZbN (up ((v.map (·.d)).take k)) s.d hol hs.1 hs.2
     rw [(WO _ _).1,hdn,Int.toNat_natCast,Zd7 _ dn hol (by omega)] at hpt
     have hnx:jW (up ((v.map (·.d)).take k)) dn=up ((v.map (·.d)).take (k+1)):=by rw [<-List.map_take,<-List.map_take,b3];simp [up,hdn]
     rw [hnx] at hpt
     refine ze [] (zE hc1 e2 hdn) ?_
     refine zA hpt ?_
     refine zb ?_
     exact zq (k+1) [] ⟨hc1,by rw [b3,List.any_append,ho];simp [hq]⟩ (by omega) (by simp [zt k (by omega)]) rfl (by simp)
    ·have hany:(v.any fun s=>decide (s.q≠c.demand))=true:=by rw [List.any_eq_true];exact ⟨s,List.mem_of_getElem? b1,by simpa using hq⟩
     repeat apply za
     refine zF (some [nx+2]) (Row.pures [0,1,2,3,4,5,6,7] .done) mixed (zE hc1 e21 hq) ?_
     refine zm (by simp [hq]) ?_
     refine za (zb ?_)
     exact zg (zk hd (by simp;rfl) (by rw [if_pos hany];rfl))
   ·simp at hc1
    obtain rfl:k=v.length:=by omega
    rw [List.take_length] at ho
    have htl:(v.map (·.d)).take v.length=v.map (·.d):=List.take_of_length_le (by simp)
    exact zu (zD () [] ho (by simp [htl]) rfl (by simp))
  intro _ ho
  rw [ho]
  generalize up (v.map (·.d))=set
  repeat apply za
  refine zb ?_
  refine zi (zB (fun s:Nat=>s<=c.pats.length/\set ∉ c.pats.take s) (fun k=>[(7,.ptr (nx+2) v2 0),(9,U set),(11,I k)]) (fun _=>[.cells v0 25 (zv x),.cells v1 38 [L p],.cells v2 65 (zM c)]) (fun s=>c.pats.length-s) 0 [] (by simp) (by simp) (by simp) ?_)
  rintro k ⟨hk2,hno⟩
  repeat apply za
  refine zb ?_
  refine zr rfl (fun hc1=>?_) (fun hc1=>?_)
  ·simp at hc1
   obtain ⟨q,tl2,b1,b2,b3,e2⟩:=zC rfl c.pats k hc1
   refine zh (za (zi ?_))
   by_cases hq:q=set
   ·subst hq
    refine za (ze [] (zn hc1 e2) ?_)
    refine zm (by simp) ?_
    refine za (zb ?_)
    exact zg (zk hd (by simp;rfl) (by simp [List.mem_of_getElem? b1,zp]))
   ·have hq':¬((q:Int)=(set:Int)):=by omega
    refine za (ze [] (zP hc1 e2 hq hq') ?_)
    refine zo (by simp) ?_
    refine zh (zb ?_)
    exact zq (k+1) [] ⟨hc1,by rw [b3];simp;exact ⟨hno,fun e=>hq e.symm⟩⟩ (by omega) (by simp [zt k (by omega)]) rfl (by simp)
  ·simp at hc1
   obtain rfl:k=c.pats.length:=by omega
   rw [List.take_length] at hno
   refine zu (za (zb ?_))
   exact zg (zk hd (by simp;rfl) (by simp [hno,zp]))
open Go
def jk:List Int->Int
 | []=>0
 | e :: l=>if e≠0 then e else jk l
theorem XH {l:List Int} (h:∀e∈l,e=0):jk l=0:=by
 induction l with
 | nil=>rfl
 | cons e l ih=>simp only [jk,h e (by simp),ne_eq,not_true,if_false];exact ih fun x hx=>h x (by simp [hx])
theorem V9 {l:List Int} {k:Nat} {e:Int} (h:∀e∈l.take k,e=0) (hk:l[k]?=some e) (he:e≠0):jk l=e:=by
 induction l generalizing k with
 | nil=>cases hk
 | cons a l ih =>
  cases k with
  | zero=>simp at hk;subst hk;simp [jk,he]
  | succ k =>
   simp only [jk,h a (by simp),ne_eq,not_true,if_false]
   exact ih (k:=k) (fun x hx=>h x (by rw [List.take_succ_cons];simp [hx])) (by simpa using hk)
theorem Zd8 (l:List Int):jk l=0<->∀e∈l,e=0:=by
 refine ⟨fun h=>?_,XH⟩
 induction l with
 | nil=>intro e he;cases he
 | cons a l ih =>
  simp only [jk] at h
  split at h
  ·rename_i hne;exact absurd h hne
  ·rename_i hne
   intro e he
   rcases List.mem_cons.1 he with rfl | he
   ·simpa using hne
   ·exact ih h e he
def ZE (x:Inst) (p:zJ):Int :=
 if jD x=false then 3 else if (p.length:Int)≠x.days then 1 else if jk (p.map (yh x))≠0 then jk (p.map (yh x)) else jk ((List.range x.cust.length).map (ur x p))
structure PlanSz (p:zJ):Prop where
 ok:PlanOk p
 f:∀d∈p,d.flatten.length<=1048576
theorem Zaa:∀(p:zJ) (i:Nat) (x:Stop × Nat),x∈told i p->∃d∈p,x.1∈d.flatten
 | [],_,_,h=>by cases h
 | d :: p,i,x,h=>by
  simp only [told,List.mem_append,List.mem_map] at h
  rcases h with ⟨s,hs,rfl⟩ | h
  ·exact ⟨d,by simp,hs⟩
  ·obtain ⟨d',h1,h2⟩:=Zaa p (i+1) x h;exact ⟨d',by simp [h1],h2⟩
theorem Zab {x:Inst} {d:zj} (h:yh x d=0):∀s∈d.flatten,qu x s=true:=by
 intro s hs
 obtain ⟨t,ht,hst⟩:=List.mem_flatten.1 hs
 have hm:zK x t=0:=by
  unfold yh at h
  split at h
  ·rename_i u hu
   have:=List.find?_some hu
   simp [h] at this
  ·rename_i hn
   rw [List.find?_eq_none] at hn
   simpa using hn t ht
 have:yY x t=true:=by
  by_cases q:yY x t=true
  ·exact q
  ·simp [zK,q] at hm
 unfold yY at this
 simp only [Bool.and_eq_true,List.all_eq_true] at this
 exact this.1 s hst
theorem Zly {x:Inst} {p:zJ} (hp:PlanSz p) (hx:InstOk x) (hm:jD x=true) (hd:(p.length:Int)=x.days) (h0:∀d∈p,yh x d=0):Serves x p:=by
 have hdays:1<=x.days/\x.days<=64:=by
  unfold jD at hm;simp only [Bool.and_eq_true] at hm
  have:=hm.1.1.1.1.1.1;simpa [zY] using this
 refine ⟨hp.ok,fun s hs=>?_,by omega⟩
 obtain ⟨d,hd,hsd⟩:=Zaa p 0 s hs
 have:=Zab (h0 d hd) s.1 hsd
 simp [qu] at this
 omega
theorem Zlz {x:Inst} (hx:InstOk x) (hm:jD x=true):CustsOk x:=by
 unfold jD at hm
 simp only [Bool.and_eq_true,decide_eq_true_eq,List.all_eq_true] at hm
 obtain ⟨⟨⟨⟨⟨⟨_,h1⟩,_⟩,_⟩,_⟩,h2⟩,_⟩:=hm
 have hk:∀c∈x.cust,c.kind=1\/c.kind=2:=fun c hc=>by
  have:=h2 c hc
  by_cases k1:c.kind=1
  ·exact .inl k1
  ·by_cases k2:c.kind=2
   ·exact .inr k2
   ·rw [Zd3 c _ k1 k2] at this;cases this
 refine ⟨by omega,hk,fun c hc=>?_,fun c hc=>?_,fun c hc=>(hx.cust c hc).pats⟩
 ·have hb:=h2 c hc
  rcases hk c hc with k | k
  ·rw [V6 c _ k] at hb
   simp only [Bool.and_eq_true,vI,decide_eq_true_eq] at hb
   obtain ⟨_,a,b,c,_⟩:=hb
   exact ⟨by omega,by omega,by omega⟩
  ·rw [V7 c _ k] at hb
   simp only [Bool.and_eq_true,zY,decide_eq_true_eq] at hb
   obtain ⟨⟨⟨⟨⟨a,b⟩,c⟩,_⟩,_⟩,_⟩:=hb
   exact ⟨by omega,by omega,by omega⟩
 ·have hb:=h2 c hc
  rcases hk c hc with k | k
  ·rw [V6 c _ k] at hb
   simp only [Bool.and_eq_true,Yg,zY,decide_eq_true_eq] at hb
   omega
  ·rw [V7 c _ k] at hb
   simp only [Bool.and_eq_true,ZC,decide_eq_true_eq] at hb
   omega
theorem ZlA (x:Inst) (p:zJ) (hx:InstOk x) (hp:PlanSz p):Pure Tryz.prog 22 [.agg (zv x),.agg [L p]] (I (ZE x p)):=by
 have hpn:=hp.ok.n
 refine zz Tryz.func22 Tryz.ntmps22 Tryz.results22 fun S nx hd=>?_
 refine za (zb ?_)
 intro v0 v1
 refine za (zb ?_)
 refine zA (Zlu x hx) ?_
 cases hm:jD x with
 | false =>
  repeat apply za
  refine zb ?_
  refine zm rfl (za (zb ?_))
  exact zg (zk hd (by simp;rfl) (by simp [ZE,hm,zp]))
 | true =>
  have hcs:=Zlz hx hm
  have hcn:=hcs.n
  repeat apply za
  refine zb ?_
  refine zo rfl (zh ?_)
  by_cases hpd:(p.length:Int)=x.days
  case neg =>
   repeat apply za
   refine ze [] hpd ?_
   refine zm (by simp [hpd]) ?_
   refine za (zb ?_)
   exact zg (zk hd (by simp;rfl) (by simp [ZE,hm,hpd,zp]))
  have hres:ZE x p=if jk (p.map (yh x))≠0 then jk (p.map (yh x)) else jk ((List.range x.cust.length).map (ur x p)):=by simp [ZE,hm,hpd]
  repeat apply za
  refine ze [] hpd ?_
  refine zo (by simp [hpd]) ?_
  refine zh ?_
  repeat apply za
  refine zb ?_
  refine yk (nx:=nx) (σ:=Unit) (fun _=>∀d∈p,yh x d=0) (fun _=>[(2,.ptr nx v0 0),(3,.ptr (nx+1) v1 0)]) (fun _=>S) (fun _=>[.cells v0 25 (zv x),.cells v1 38 [L p]]) ?_ ?_
  ·refine zi (zB (fun s:Nat=>s<=p.length/\∀d∈p.take s,yh x d=0) (fun k=>[(2,.ptr nx v0 0),(3,.ptr (nx+1) v1 0),(6,I k)]) (fun _=>[.cells v0 25 (zv x),.cells v1 38 [L p]]) (fun s=>p.length-s) 0 [] (by simp) (by simp) (by simp) ?_)
   rintro k ⟨hk,ho⟩
   repeat apply za
   refine zb ?_
   refine zr rfl (fun hc=>?_) (fun hc=>?_)
   ·simp at hc
    obtain ⟨d,tl,a1,a2,a3,e0⟩:=zC rfl p k hc
    have hdm:=List.mem_of_getElem? a1
    refine zh (za (zi (za (zF (some [nx,nx+1]) (Row.pures [0,1,2,3,4,5,6,7] .done) mixed (zn hc e0) ?_))))
    refine zN (Zhc x d hcn (hp.ok.d d hdm) (hp.ok.t d hdm) (hp.f d hdm)) trivial ?_
    by_cases h0:yh x d=0
    ·refine za (ze [] h0 ?_)
     refine zo (by simp [h0]) ?_
     refine zh (zb ?_)
     exact zq (k+1) [] ⟨hc,fun e he=>by rw [a3] at he;rcases List.mem_append.1 he with he | he;exact ho e he;rw [List.mem_singleton.1 he];exact h0⟩ (by omega) (by simp [zt k (by omega)]) rfl (by simp)
    ·have hf:jk (p.map (yh x))=yh x d:=V9 (k:=k) (fun e he=>by rw [<-List.map_take] at he;obtain ⟨u,hu,rfl⟩:=List.mem_map.1 he;exact ho u hu) (by rw [List.getElem?_map,a1];rfl) h0
     refine za (ze [] h0 ?_)
     refine zm (by simp [h0]) ?_
     refine za (zb ?_)
     exact zg (zk hd (by simp;rfl) (by rw [hres,hf];simp [h0,zp]))
   ·simp at hc
    obtain rfl:k=p.length:=by omega
    rw [List.take_length] at ho
    exact zu (zD () [] ho (by simp) rfl (by simp))
  intro _ hall
  have hsv:=Zly hp hx hm hpd hall
  have hf0:jk (p.map (yh x))=0:=XH fun e he=>by obtain ⟨u,hu,rfl⟩:=List.mem_map.1 he;exact hall u hu
  rw [hf0] at hres
  simp only [ne_eq,not_true,if_false] at hres
  rw [hres]
  repeat apply za
  refine zb ?_
  refine zi (zB (fun s:Nat=>s<=x.cust.length/\∀i<s,ur x p i=0) (fun k=>[(2,.ptr nx v0 0),(3,.ptr (nx+1) v1 0),(8,I k)]) (fun _=>[.cells v0 25 (zv x),.cells v1 38 [L p]]) (fun s=>x.cust.length-s) 0 [] (by simp) (by simp) (by simp) ?_)
  rintro k ⟨hk,ho⟩
  repeat apply za
  refine zb ?_
  refine zr rfl (fun hc=>?_) (fun hc=>?_)
  ·simp at hc
   refine zh (za (zi (za (zb ?_))))
   refine zA (Zlx x p k hsv hcs hc) ?_
   by_cases h0:ur x p k=0
   ·refine za (ze [] h0 ?_)
    refine zo (by simp [h0]) ?_
    refine zh (zb ?_)
    exact zq (k+1) [] ⟨hc,fun i hi=>by by_cases q:i=k;rw [q];exact h0;exact ho i (by omega)⟩ (by omega) (by simp [zt k (by omega)]) rfl (by simp)
   ·have hf:jk ((List.range x.cust.length).map (ur x p))=ur x p k:=V9 (k:=k) (fun e he=>by rw [<-List.map_take] at he;obtain ⟨u,hu,rfl⟩:=List.mem_map.1 he;rw [List.take_range] at hu;have:=List.mem_range.1 hu;exact ho u (by omega)) (by rw [List.getElem?_map,List.getElem?_range hc];rfl) h0
    refine za (ze [] h0 ?_)
    refine zm (by simp [h0]) ?_
    refine za (zb ?_)
    exact zg (zk hd (by simp;rfl) (by rw [hf];rfl))
  ·simp at hc
   obtain rfl:k=x.cust.length:=by omega
   refine zu (za (zb ?_))
   exact zg (zk hd (by simp;rfl) (by rw [XH fun e he=>by obtain ⟨u,hu,rfl⟩:=List.mem_map.1 he;exact ho u (List.mem_range.1 hu)];rfl))
open Go Go.Proofs Hp
def Yh (l:List Visit) (day:Int) (i k:Nat):List Stop:=((l.take k).filter (fun w=>w.d=day)).map fun w=>⟨i,w.q⟩
def u6 (v:List (List Visit)) (day:Int) (i:Nat):List Stop:=((v.getD i []).filter (fun w=>w.d=day)).map fun w=>⟨i,w.q⟩
def jd (v:List (List Visit)) (day:Int) (n:Nat):List Stop:=(List.range n).flatMap (u6 v day)
theorem Zd9 (v:List (List Visit)) (day:Int) (n:Nat):jd v day (n+1)=jd v day n++u6 v day n:=by simp [jd,List.range_succ]
theorem ZlB (l:List Visit) (day:Int) (i:Nat):Yh l day i 0=[]:=rfl
theorem ZlC (v:List (List Visit)) (day:Int) (i:Nat) (l:List Visit) (h:v[i]?=some l):Yh l day i l.length=u6 v day i:=by
 unfold Yh u6;rw [List.take_length,List.getD_eq_getElem?_getD,h];rfl
theorem Zea {l:List Visit} {k:Nat} {w:Visit} (h:l[k]?=some w) (day:Int) (i:Nat):Yh l day i (k+1)=Yh l day i k++(if w.d=day then [⟨i,w.q⟩] else []):=by
 unfold Yh
 rw [List.take_add_one,h]
 simp only [Option.toList_some,List.filter_append,List.map_append]
 split
 ·rename_i e;simp [e]
 ·rename_i e;simp [e]
structure VsOk (m n:Nat) (v:List (List Visit)):Prop where
 len:v.length=m
 ok:∀l∈v,∀w∈l,(0<=w.d/\w.d<n)/\1<=w.q/\w.q<=2147483648
 nd:∀l∈v,(l.map (·.d)).Nodup
 few:∀l∈v,l.length<=1000
theorem VsOk.at {m n:Nat} {v:List (List Visit)} (h:VsOk m n v) (i:Nat):(∀w∈v.getD i [],(0<=w.d/\w.d<n)/\1<=w.q/\w.q<=2147483648)/\((v.getD i []).map (·.d)).Nodup:=by
 rw [List.getD_eq_getElem?_getD]
 cases e:v[i]? with
 | none=>exact ⟨by simp,by simp⟩
 | some l=>exact ⟨h.ok l (List.mem_of_getElem? e),h.nd l (List.mem_of_getElem? e)⟩
theorem ZlD {l:List Visit} (h:(l.map (·.d)).Nodup) (day:Int):(l.filter (fun w=>w.d=day)).length<=1:=by
 have h1:=(List.filter_sublist (p:=fun w:Visit=>decide (w.d=day)) (l:=l)).map (·.d)
 have h2:=h.sublist h1
 have h3:∀w∈l.filter (fun w=>w.d=day),w.d=day:=fun w hw=>by simpa using (List.mem_filter.1 hw).2
 generalize l.filter (fun w=>decide (w.d=day))=m at h2 h3
 match m,h2,h3 with
 | [],_,_=>simp
 | [_],_,_=>simp
 | a :: b :: m,h2,h3 =>
  exfalso
  have ea:=h3 a (by simp)
  have eb:=h3 b (by simp)
  simp only [List.map_cons,List.nodup_cons,List.mem_cons] at h2
  exact h2.1 (.inl (by rw [ea,eb]))
theorem ZlE {m n:Nat} {v:List (List Visit)} (h:VsOk m n v) (day:Int) (i:Nat):(u6 v day i).length<=1:=by
 unfold u6;rw [List.length_map];exact ZlD (h.at i).2 day
theorem ZlF {m n:Nat} {v:List (List Visit)} (h:VsOk m n v) {day:Int} {i:Nat} {s:Stop} (hs:s∈u6 v day i):s.c=i/\1<=s.q/\s.q<=2147483648:=by
 obtain ⟨w,hw,rfl⟩:=List.mem_map.1 hs
 exact ⟨rfl,((h.at i).1 w (List.mem_filter.1 hw).1).2⟩
theorem Zac {m n:Nat} {v:List (List Visit)} (h:VsOk m n v) (day:Int):∀k:Nat,(jd v day k).length<=k/\(∀s∈jd v day k,(0<=s.c/\s.c<k)/\1<=s.q/\s.q<=2147483648)/\((jd v day k).map (·.c)).Nodup
 | 0=>⟨by simp [jd],by simp [jd],by simp [jd]⟩
 | k+1=>by
  obtain ⟨h1,h2,h3⟩:=Zac h day k
  have h4:=ZlE h day k
  have h5:∀s∈u6 v day k,s.c=k/\1<=s.q/\s.q<=2147483648:=fun s hs=>ZlF h hs
  rw [Zd9]
  refine ⟨by rw [List.length_append];omega,fun s hs=>?_,?_⟩
  ·rcases List.mem_append.1 hs with hs | hs
   ·have:=h2 s hs;omega
   ·have:=h5 s hs;omega
  ·rw [List.map_append]
   generalize u6 v day k=e at h4 h5
   match e,h4,h5 with
   | [],_,_=>simpa using h3
   | [s],_,h5 =>
    refine QL _ _ h3 fun hm=>?_
    obtain ⟨u,hu,e⟩:=List.mem_map.1 hm
    have q1:=h2 u hu
    have q2:=h5 s (by simp)
    have q3:u.c=s.c:=e
    omega
   | _ :: _ :: _,h4,_=>simp at h4
structure InstH (x:Inst):Prop where
 cust:x.cust.length<=1000
 diag:arc x 0 0=0
 arc:jh x
 veh:0<=x.veh
theorem Zeb {x:Inst} (hx:InstH x) {n:Nat} {v:List (List Visit)} (h:VsOk x.cust.length n v) (day:Int):SOk x (jd v day x.cust.length):=by
 obtain ⟨h1,h2,h3⟩:=Zac h day x.cust.length
 have:=hx.cust
 exact ⟨by omega,hx.arc,hx.veh,by omega,fun s hs=>by have:=h2 s hs;unfold small;omega,h3⟩
def Yi (x:Inst) (v:List (List Visit)) (b:Int) (n:Nat):List (zj × Int):=(List.range n).map fun d:Nat=>xn x b (jd v d x.cust.length)
def jY (x:Inst) (v:List (List Visit)) (b:Int) (n:Nat):zJ:=(Yi x v b n).map (·.1)
def qQ (x:Inst) (v:List (List Visit)) (b:Int) (n:Nat):List Int:=(Yi x v b n).map (·.2)
theorem Zec (x:Inst) (v:List (List Visit)) (b:Int) (n:Nat):(jY x v b n).length=n:=by simp [jY,Yi]
theorem Zed (x:Inst) (v:List (List Visit)) (b:Int) (n:Nat):(qQ x v b n).length=n:=by simp [qQ,Yi]
theorem ZlG (x:Inst) (v:List (List Visit)) (b:Int) (n:Nat):jY x v b (n+1)=jY x v b n++[(xn x b (jd v n x.cust.length)).1]:=by simp [jY,Yi,List.range_succ]
theorem ZlH (x:Inst) (v:List (List Visit)) (b:Int) (n:Nat):qQ x v b (n+1)=qQ x v b n++[(xn x b (jd v n x.cust.length)).2]:=by simp [qQ,Yi,List.range_succ]
open Go Go.Proofs Hp
theorem ZlI (x:Inst) (v:List (List Visit)) (day:Int) (n:Nat) (hx:x.cust.length<=1000) (hv:VsOk x.cust.length n v):Pure Tryz.prog 15 [.agg (zv x),L v,I day] (L (jd v day x.cust.length)):=by
 have hvl:=hv.len
 have hso:=fun k=>(Zac hv day k).1
 have hmi:vk (x.cust.length:Int) (x.cust.length:Int)=x.cust.length:=by unfold vk;simp
 refine zz Tryz.func15 Tryz.ntmps15 Tryz.results15 fun S nx hd=>?_
 refine za (zb ?_)
 intro v0
 refine za (zb ?_)
 refine za (yT 7 35 2 rfl fun v1=>?_)
 refine za (zb ?_)
 refine zi (zB (fun s:Nat × List Stop × Nat=>s.1<=x.cust.length/\s.2.1=jd v day s.1) (fun (i,out,w)=>[(1,L v),(2,I day),(7,.sl (nx+1) w 2 0 out.length),(16,I x.cust.length),(17,I i)]) (fun (i,out,w)=>[.cells v0 25 (zv x),.cells w 35 (out.flatMap Enc.enc)]) (fun s=>x.cust.length-s.1) (0,[],v1) [] (by simp [jd]) (by simp [hvl,hmi]) (by simp) ?_)
 rintro ⟨i,out,w⟩ ⟨hi,ho⟩
 simp only at hi ho ⊢
 refine za (zb ?_)
 refine za (zr rfl (fun hc=>?_) (fun hc=>?_))
 ·simp at hc
  have hiv:i<v.length:=by omega
  obtain ⟨l,tl,a1,a2,a3,e0⟩:=zC rfl v i hiv
  have hll:=hv.few l (List.mem_of_getElem? a1)
  have hoi:=hso i
  refine zh (za (zi (za (zb ?_))))
  refine za (ze [] (zn e0 hiv) ?_)
  refine zi (zB (fun s:Nat × List Stop × Nat=>s.1<=l.length/\s.2.1=jd v day i++Yh l day i s.1/\s.2.1.length<=i+s.1) (fun (k,out,w)=>[(1,L v),(2,I day),(7,.sl (nx+1) w 2 0 out.length),(8,I i),(16,I x.cust.length),(17,I i),(23,L l),(24,I l.length),(25,I k)]) (fun (k,out,w)=>[.cells v0 25 (zv x),.cells w 35 (out.flatMap Enc.enc)]) (fun s=>l.length-s.1) (0,out,w) [] ⟨by simp,by simp [ZlB,ho],by simp [ho];omega⟩ (by simp) (by simp) ?_)
  clear ho
  rintro ⟨k,out,w⟩ ⟨hk,ho,hol⟩
  simp only at hk ho hol ⊢
  refine za (zb ?_)
  refine za (zr rfl (fun hc2=>?_) (fun hc2=>?_))
  ·simp at hc2
   obtain ⟨s,tl2,b1,b2,b3,e1,e2⟩:=el 2 rfl l k hc2
   refine zh (za (zi (za (ze [] (zE e1 e2 hc2) ?_))))
   intro v2
   refine za (zb ?_)
   by_cases hd:s.d=day
   ·repeat apply za
    refine zm (by simp [hd]) ?_
    refine zb ?_
    refine ⟨by omega,?_⟩
    refine zb ?_
    exact zq (k+1,out++[⟨i,s.q⟩],w+1) [_] ⟨hc2,by rw [Zea b1,if_pos hd,ho];simp,by simp;omega⟩ (by simp;omega) (by simp [zt k (by omega)]) rfl (by simp;rfl)
   ·repeat apply za
    refine zo (by simp [hd]) ?_
    refine zh (zb ?_)
    exact zq (k+1,out,w) [_] ⟨hc2,by rw [Zea b1,if_neg hd,ho];simp,by dsimp only;omega⟩ (by simp;omega) (by simp [zt k (by omega)]) rfl (by simp;rfl)
  ·simp at hc2
   obtain rfl:k=l.length:=by omega
   rw [ZlC v day i l a1,<-Zd9] at ho
   refine zu (zb ?_)
   exact zq (i+1,out,w) [] ⟨hc,ho⟩ (by simp;omega) (by simp [zt i (by omega)]) rfl (by simp)
 ·simp at hc
  obtain rfl:i=x.cust.length:=by omega
  refine zu (zX 1 rfl ?_)
  refine za (zb ?_)
  exact zg (zk hd (by simp;rfl) (by simp [zp,ho]))
theorem ZlJ (a b:zJ) (ha:a.length<=1048576) (hat:∀t∈a,t.length<=1048576) (hau:∀t∈a,∀u∈t,u.length<=1048576):Pure Tryz.prog 19 [.agg [L a],.agg [L b]] (B (decide (a=b))):=by
 refine zz Tryz.func19 Tryz.ntmps19 Tryz.results19 fun S nx hd=>?_
 refine za (zb ?_)
 intro v0 v1
 by_cases hab:a.length=b.length
 case neg =>
  have:a≠b:=fun e=>hab (by rw [e])
  repeat apply za
  refine zb ?_
  refine zm (by simp;omega) ?_
  refine za (zb ?_)
  exact zg (zk hd rfl (by simp [this]))
 repeat apply za
 refine zb ?_
 refine zo (by simp;omega) ?_
 refine zh ?_
 repeat apply za
 refine zb ?_
 refine zi (zB (fun k:Nat=>k<=a.length/\a.take k=b.take k) (fun k=>[(2,.ptr nx v0 0),(3,.ptr (nx+1) v1 0),(5,I k)]) (fun _=>[.cells v0 38 [L a],.cells v1 38 [L b]]) (fun k=>a.length-k) 0 [] (by simp) (by simp) (by simp) ?_)
 rintro k ⟨hk,hkt⟩
 repeat apply za
 refine zb ?_
 refine zr rfl (fun hc=>?_) (fun hc=>?_)
 ·simp at hc
  obtain ⟨s,ts,a1,-,a3,e1⟩:=zC rfl a k hc
  obtain ⟨t,tt,b1,-,b3,e2⟩:=zC rfl b k (by omega)
  have hcb:k<b.length:=by omega
  have h1:1<=a.length-k:=by omega
  have h2:1<=b.length-k:=by omega
  have hsl:=hat s (List.mem_of_getElem? a1)
  have hsu:=hau s (List.mem_of_getElem? a1)
  refine zh (za (zi ?_))
  repeat apply za
  refine zF (some [nx,nx+1]) (Row.pures [0,1,2,3,4,5,6,7,8,9,10,11,12,13,14] .done) mixed (zL e1 e2 hc hcb h1 h2) ?_
  by_cases hst:s.length=t.length
  case neg =>
   have:a≠b:=YU a1 b1 fun e=>hst (by rw [e])
   refine zm (by simp;omega) ?_
   refine za (zb ?_)
   exact zg (zk hd rfl (by simp [this]))
  refine zo (by simp;omega) ?_
  refine zh (za (zb ?_))
  refine zi (zB (fun j:Nat=>j<=s.length/\s.take j=t.take j) (fun j=>[(2,.ptr nx v0 0),(3,.ptr (nx+1) v1 0),(5,I k),(6,I j)]) (fun _=>[.cells v0 38 [L a],.cells v1 38 [L b]]) (fun j=>s.length-j) 0 [] (by simp) (by simp) (by simp) ?_)
  rintro j ⟨hj,hjt⟩
  repeat apply za
  refine ze [] (zE e1 hc h1) ?_
  refine zr rfl (fun hcj=>?_) (fun hcj=>?_)
  ·simp at hcj
   obtain ⟨p,tp,p1,-,p3,q1⟩:=zC rfl s j hcj
   obtain ⟨q,tq,c1,-,c3,q2⟩:=zC rfl t j (by omega)
   have hjb:j<t.length:=by omega
   have g1:1<=s.length-j:=by omega
   have g2:1<=t.length-j:=by omega
   have hpl:=hsu p (List.mem_of_getElem? p1)
   refine zh (za (zi (za (ze [] (zL e1 hc h1 q1 hcj g1) ?_))))
   refine za (ze [] (zL e2 hcb h2 q2 hjb g2) ?_)
   repeat apply za
   refine zb ?_
   by_cases hpq:p.length=q.length
   case neg =>
    have:a≠b:=YU a1 b1 (YU p1 c1 fun e=>hpq (by rw [e]))
    refine zm (by simp;omega) ?_
    refine za (zb ?_)
    exact zg (zk hd rfl (by simp [this]))
   refine zo (by simp;omega) ?_
   refine zh (za (zb ?_))
   refine zi (zB (fun i:Nat=>i<=p.length/\p.take i=q.take i) (fun i=>[(2,.ptr nx v0 0),(3,.ptr (nx+1) v1 0),(5,I k),(6,I j),(7,L p),(8,L q),(9,I i)]) (fun _=>[.cells v0 38 [L a],.cells v1 38 [L b]]) (fun i=>p.length-i) 0 [] (by simp) (by simp) (by simp) ?_)
   rintro i ⟨hi,hit⟩
   repeat apply za
   refine zb ?_
   refine zr rfl (fun hci=>?_) (fun hci=>?_)
   ·simp at hci
    obtain ⟨y,ty,y1,-,y3,-,r1⟩:=el 2 rfl p i hci
    obtain ⟨z,tz,z1,-,z3,-,r2⟩:=el 2 rfl q i (by omega)
    have hib:i<q.length:=by omega
    refine zh (za (zi (za (zF none (Row.pures [0,1,2,3,4,5,6,7,8] .done) mixed (zP r1 r2 hci hib) ?_))))
    by_cases hyz:y=z
    ·subst hyz
     refine zo (by simp) ?_
     refine zh (zb ?_)
     exact zq (i+1) [] ⟨by omega,by rw [y3,z3,hit]⟩ (by omega) (by simp [zt i (by omega)]) rfl (by simp)
    ·have hne:¬y.c=z.c\/¬y.q=z.q:=by
      by_cases h1:y.c=z.c
      ·right
       intro h2
       apply hyz
       cases y;cases z
       cases h1;cases h2;rfl
      ·exact .inl h1
     have:a≠b:=YU a1 b1 (YU p1 c1 (YU y1 z1 hyz))
     refine zm (by simp;exact hne) ?_
     refine za (zb ?_)
     exact zg (zk hd rfl (by simp [this]))
   ·simp at hci
    obtain rfl:i=p.length:=by omega
    rw [List.take_length,hpq,List.take_length] at hit
    refine zu (zb ?_)
    exact zq (j+1) [] ⟨by omega,by rw [p3,c3,hjt,hit]⟩ (by omega) (by simp [zt j (by omega)]) rfl (by simp)
  ·simp at hcj
   obtain rfl:j=s.length:=by omega
   rw [List.take_length,hst,List.take_length] at hjt
   refine zu (zb ?_)
   exact zq (k+1) [] ⟨by omega,by rw [a3,b3,hkt,hjt]⟩ (by omega) (by simp [zt k (by omega)]) rfl (by simp)
 ·simp at hc
  obtain rfl:k=a.length:=by omega
  rw [List.take_length,hab,List.take_length] at hkt
  refine zu (za (zb ?_))
  exact zg (zk hd rfl (by simp [hkt]))
open Go
section
variable {P:Program} {r:Rd} {n N:Nat} {Q:Exit->(Nat->PV)->Store->Prop} {F:Nat->PV} {c:Code}
theorem ZlK {S1 T:Store} {G:Nat->PV} {id ver e:Nat} {cs:List PV} (hid:S1 id=.cells ver e cs) (hT:T id=.dead) (hat:∀o,T o=.dead\/T o=S1 o\/T o=jI id ver cs (S1 o))
  (hG:∀i,G i=F i\/G i=yU id ver cs (F i)) (h:PW P r n N c Q G T):PW P r n N c Q F S1:=by
 refine vq (F':=G) (S':=T) (fun C w a st=>?_) h
 have hver:∀o v,(T o).ver=some v->(S1 o).ver=some v:=by
  intro o v hv
  rcases hat o with q | q | q
  ·rw [q] at hv;cases hv
  ·rw [q] at hv;exact hv
  ·rw [q,Zbu] at hv;exact hv
 have hne:∀o,T o≠.dead->S1 o≠.dead:=by
  intro o ho hd
  rcases hat o with q | q | q
  ·exact ho q
  ·exact ho (q.trans hd)
  ·rw [hd] at q;exact ho q
 have hM:∀b,C.M T b->C.M S1 b:=fun b ⟨o,k,ho,hl⟩=>⟨o,k,hne o ho,hl⟩
 have hstep:Step C S1 w C T w:=⟨rfl,⟨rfl,Nat.le_refl _⟩,rfl,Nat.le_refl _,Nat.le_refl _,Nat.le_refl _,fun b _ hb=>⟨rfl,fun h=>hb (hM b h)⟩,fun o v1 hv=>.inr ⟨v1,hver o v1 hv,Nat.le_refl _,fun _=>rfl⟩⟩
 have hrel:∀{p u},Rel C S1 w p u->Rel C T w (yU id ver cs p) u:=fun h=>J2 st.sim hid hT hne hstep h
 refine ⟨C,⟨⟨fun o ho=>st.sim.lt o (hne o ho),fun o v hv=>st.sim.clk o v (hver o v hv),fun o o' b k k' ho ho'=>st.sim.dist o o' b k k' (hne o ho) (hne o' ho'),?_,?_⟩,st.size,fun i=>?_,r.keep hstep st.v⟩,hstep⟩
 ·intro o v e' ds ho
  rcases hat o with q | q | q
  ·rw [q] at ho;cases ho
  ·rw [q] at ho
   rcases st.sim.cells o v e' ds ho with hn | ⟨b,k,c,h1,h2,h3,h4,h5,h6⟩
   ·exact .inl hn
   ·exact .inr ⟨b,k,c,h1,h2,h3,h4,h5,fun i p u hp hu=>(h6 i p u hp hu).mono hstep⟩
  ·rw [q] at ho
   cases hs:S1 o with
   | dead=>rw [hs] at ho;cases ho
   | map v es=>rw [hs] at ho;cases ho
   | cells v2 e2 ds2 =>
    rw [hs] at ho
    cases ho
    rcases st.sim.cells o _ _ ds2 hs with ⟨h1,h2⟩ | ⟨b,k,c,h1,h2,h3,h4,h5,h6⟩
    ·exact .inl ⟨h1,by rw [h2];rfl⟩
    ·refine .inr ⟨b,k,c,h1,h2,h3,by simpa using h4,fun i v hi hv=>h5 i v (by simpa using hi) hv,fun i p u hp hu=>?_⟩
     rw [List.getElem?_map] at hp
     obtain ⟨p0,hp0,rfl⟩:=Option.map_eq_some_iff.1 hp
     exact hrel (h6 i p0 u hp0 hu)
 ·intro o v es ho
  have hs:S1 o=.map v es:=by
   rcases hat o with q | q | q
   ·rw [q] at ho;cases ho
   ·rw [q] at ho;exact ho
   ·rw [q] at ho
    cases hs:S1 o with
    | dead=>rw [hs] at ho;cases ho
    | map v es=>rw [hs] at ho;exact ho
    | cells v2 e2 ds2=>rw [hs] at ho;cases ho
  obtain ⟨b,k,ms,cl,h1,h2,h3,h4⟩:=st.sim.maps o v es hs
  exact ⟨b,k,ms,cl,h1,h2,h3,fun i x m hx hm=>⟨(h4 i x m hx hm).1,(h4 i x m hx hm).2.mono hstep⟩⟩
 ·rcases hG i with q | q
  ·rw [q];exact (st.fr i).mono hstep
  ·rw [q];exact hrel (st.fr i)
def xX {α:Type} (base sz:Nat) (ws:Nat->Nat) (rows:List (List α)):List PV:=(List.range rows.length).map fun i=>.sl (base+i) (ws i) sz 0 (rows.getD i []).length
theorem Y6 {α:Type} (base sz:Nat) (ws:Nat->Nat) (rows:List (List α)):(xX base sz ws rows).length=rows.length:=by simp [xX]
theorem Jf {α:Type} (base sz:Nat) (ws:Nat->Nat) (rows:List (List α)) (i:Nat) (h:i<rows.length):(xX base sz ws rows)[i]?=some (.sl (base+i) (ws i) sz 0 (rows.getD i []).length):=by
 simp [xX,h]
theorem Zad {α:Type} (base sz:Nat) (ws:Nat->Nat) (rows:List (List α)) (i:Nat) (h:i<rows.length):∃tl,(xX base sz ws rows).drop i=.sl (base+i) (ws i) sz 0 (rows.getD i []).length :: tl:=by
 refine ⟨(xX base sz ws rows).drop (i+1),?_⟩
 have hl:i<(xX base sz ws rows).length:=by rw [Y6];exact h
 rw [List.drop_eq_getElem_cons hl]
 have:=Jf base sz ws rows i h
 rw [List.getElem?_eq_getElem hl] at this
 rw [Option.some.inj this]
structure RowsAt {α:Type} [Enc α] (T:Store) (A va tA base e sz:Nat) (ws:Nat->Nat) (rows:List (List α)):Prop where
 arr:T A=.cells va tA (xX base sz ws rows)
 row:∀i,i<rows.length->T (base+i)=.cells (ws i) e ((rows.getD i []).flatMap Enc.enc)
 out:A<base
theorem RowsAt.other {α:Type} [Enc α] {T T':Store} {A va tA base e sz:Nat} {ws:Nat->Nat} {rows:List (List α)} (h:RowsAt T A va tA base e sz ws rows) (hT:∀o,o=A\/(base<=o/\o<base+rows.length)->T' o=T o):RowsAt T' A va tA base e sz ws rows :=
 ⟨(hT A (.inl rfl)).trans h.arr,fun i hi=>(hT _ (.inr ⟨by omega,by omega⟩)).trans (h.row i hi),h.out⟩
theorem RowsAt.turn {α:Type} [Enc α] {T T':Store} {A va tA base e sz:Nat} {ws:Nat->Nat} {rows:List (List α)} (h:RowsAt T A va tA base e sz ws rows) {i:Nat} (hi:i<rows.length) (w:Nat) (l:List α)
  (hA:T' A=.cells va tA ((xX base sz ws rows).set i (.sl (base+i) w sz 0 l.length))) (hB:T' (base+i)=.cells w e (l.flatMap Enc.enc)) (hT:∀o,o≠A->o≠base+i->T' o=T o):RowsAt T' A va tA base e sz (fun k=>if k=i then w else ws k) (rows.set i l):=by
 have hout:=h.out
 refine ⟨?_,fun k hk=>?_,h.out⟩
 ·rw [hA]
  congr 1
  apply List.ext_getElem?
  intro k
  rw [List.getElem?_set,Y6]
  by_cases hki:i=k
  ·subst hki
   rw [if_pos rfl,if_pos hi,Jf _ _ _ _ _ (by simpa using hi)]
   simp [hi]
  ·rw [if_neg hki]
   by_cases hk:k<rows.length
   ·rw [Jf _ _ _ _ _ hk,Jf _ _ _ _ _ (by simpa using hk)]
    simp only [List.getD_eq_getElem?_getD,List.getElem?_set_ne hki,if_neg (fun e:k=i=>hki e.symm)]
   ·rw [List.getElem?_eq_none (by rw [Y6];omega),List.getElem?_eq_none (by rw [Y6];simp;omega)]
 ·rw [List.length_set] at hk
  by_cases hki:k=i
  ·subst hki
   rw [hB,if_pos rfl]
   simp [hi]
  ·rw [hT _ (by omega) (by omega),h.row k hk,if_neg hki]
   simp only [List.getD_eq_getElem?_getD,List.getElem?_set_ne (fun e:i=k=>hki e.symm)]
theorem ZlL {α:Type} (base sz:Nat) (ws:Nat->Nat) (m:Nat):xX (α:=α) base sz ws (List.replicate m [])=(List.range m).map fun i=>.sl (base+i) (ws i) sz 0 0:=by
 unfold xX
 rw [List.length_replicate]
 refine List.map_congr_left fun i hi=>?_
 have:=List.mem_range.1 hi
 simp [this]
theorem Zee {α:Type} [Enc α] (A va tA base e sz m:Nat) (hAb:A<base):∀(j k:Nat) (T:Store) (ws:Nat->Nat),k+j=m->T A=.cells va tA ((List.range k).map (fun i=>.sl (base+i) (ws i) sz 0 0)++List.replicate j (.sc (.slice none 0 0))) ->
  (∀i,i<k->T (base+i)=.cells (ws i) e [])->zQ (base+k) T ->
  (∀(T':Store) (ws':Nat->Nat),RowsAt T' A va tA base e sz ws' (List.replicate m ([]:List α))->(∀o,o≠A->o<base->T' o=T o)->zQ (base+m) T'->PW P r n N c Q F T')->PW P r n N c Q F T
 | 0,k,T,ws,hk,hA,hrow,hd,h=>by
  obtain rfl:k=m:=by omega
  refine h T ws ⟨by rw [hA,ZlL];simp,fun i hi=>?_,hAb⟩ (fun _ _ _=>rfl) hd
  rw [List.length_replicate] at hi
  rw [hrow i hi];simp [hi]
 | j+1,k,T,ws,hk,hA,hrow,hd,h=>by
  have hget:((List.range k).map (fun i=>PV.sl (base+i) (ws i) sz 0 0)++List.replicate (j+1) (.sc (.slice none 0 0)))[k]?=some (.sc (.slice none 0 0)):=by
   rw [List.getElem?_append_right (by simp)];simp
  refine Wq (o:=A) k e sz hA hget (vU (X:=fun id v=>PW P r n N c Q F ((T.set id (.cells v e [])).set A (.cells va tA (((List.range k).map (fun i=>PV.sl (base+i) (ws i) sz 0 0)++List.replicate (j+1) (PV.sc (.slice none 0 0))).set k (.sl id v sz 0 0))))) (base+k) (hd _ (Nat.le_refl _)) fun v=>?_)
  refine Zee A va tA base e sz m hAb j (k+1) _ (fun i=>if i=k then v else ws i) (by omega) ?_ ?_ ?_ fun T' ws' hR hT' hd'=>h T' ws' hR (fun o ho hob=>?_) hd'
  ·rw [Store.set_same]
   congr 1
   rw [List.set_append_right _ _ (by simp),List.range_succ,List.map_append]
   simp only [List.length_map,List.length_range,Nat.sub_self,List.replicate_succ,List.set_cons_zero,List.map_cons,List.map_nil,if_true]
   rw [List.append_assoc]
   congr 1
   refine List.map_congr_left fun i hi=>?_
   have:=List.mem_range.1 hi
   rw [if_neg (by omega)]
  ·intro i hi
   rw [Store.set_other _ _ _ _ (by omega)]
   by_cases hik:i=k
   ·subst hik;rw [Store.set_same,if_pos rfl]
   ·rw [Store.set_other _ _ _ _ (by omega),if_neg hik]
    exact hrow i (by omega)
  ·intro i hi
   rw [Store.set_other _ _ _ _ (by omega),Store.set_other _ _ _ _ (by omega)]
   exact hd i (by omega)
  ·rw [hT' o ho hob,Store.set_other _ _ _ _ ho,Store.set_other _ _ _ _ (by omega)]
theorem ZlM {α:Type} [Enc α] (A va tA base e sz m:Nat) {T:Store} (hA:T A=.cells va tA (List.replicate m (.sc (.slice none 0 0)))) (hd:zQ base T)
  (h:∀(T':Store) (ws:Nat->Nat),RowsAt T' A va tA base e sz ws (List.replicate m ([]:List α))->(∀o,o≠A->o<base->T' o=T o)->zQ (base+m) T'->PW P r n N c Q F T'):PW P r n N c Q F T:=by
 have hAb:A<base:=by
  rcases Nat.lt_or_ge A base with q | q
  ·exact q
  ·rw [hd A q] at hA;cases hA
 exact Zee A va tA base e sz m hAb m 0 T (fun _=>0) (by omega) (by simpa using hA) (fun i hi=>by omega) (by simpa using hd) h
theorem Zef {nx:Nat} {S:Store} {obs:List Ob} {id ver e0:Nat} {cs:List PV} (i e sz:Nat) (hlt:id<nx) (hs:S id=.cells ver e0 cs) (hi:cs[i]?=some (.sc (.slice none 0 0)))
  (h:∀v,PW P r n N c Q F (ext (S.set id (.cells ver e0 (cs.set i (.sl (nx+obs.length) v sz 0 0)))) nx (obs++[.cells v e []]))):PW P r n N c Q F (ext S nx obs) :=
 Wq (o:=id) i e sz (by rw [zH hlt];exact hs) hi (vU (X:=fun id' v=>PW P r n N c Q F (((ext S nx obs).set id' (.cells v e [])).set id (.cells ver e0 (cs.set i (.sl id' v sz 0 0))))) _ vX fun v=>by
  rw [jl,vr _ hlt];exact h v)
end
open Go Go.Proofs
instance:Enc Mv:=⟨fun m=>xV m,5,fun _=>rfl,fun _=>rfl⟩
@[simp] theorem ZqW (m:Mv):Enc.enc m=xV m:=rfl
@[simp high] theorem ZqX (l:List Mv):(l.flatMap Enc.enc).length=l.length*5:=j8 l
@[simp high] theorem ZqY (l:List Mv):(l.flatMap Enc.enc).take (l.length*5)=l.flatMap Enc.enc:=uM l
open Go Go.Proofs Hp
abbrev jE (x:Inst) (v:PV) (b:Int) (p f pr:PV):List PV:=[I x.days,I x.veh,I x.cap,I x.len,L x.cust,L x.dist,v,I b,p,f,pr]
theorem ZlN {S:Store} {id ver idF vF:Nat} (x:Inst) (v p pr:PV) (b:Int) (fs:List Int) (hS:S id=.cells ver 89 (jE x v b p (.sl idF vF 1 0 fs.length) pr)) (hF:S idF=.cells vF 39 (fs.flatMap Enc.enc)) (hl:fs.length<=1000) :
  Spec Tryz.prog 88 [.ptr id ver 0] S (fun q S'=>q=I (jk fs)/\S'=S):=by
 refine qO Tryz.func88 Tryz.ntmps88 Tryz.results88 fun nx hd=>?_
 have hlt:id<nx:=qB hd hS (by simp)
 have hltF:idF<nx:=qB hd hF (by simp)
 have xw:=fun obs=>zH (S:=S) (obs:=obs) hlt
 have xf:=fun obs=>zH (S:=S) (obs:=obs) hltF
 refine za (zb ?_)
 repeat apply za
 refine ze [] (zn xw hS) ?_
 refine zi (zB (fun k:Nat=>k<=fs.length/\∀e∈fs.take k,e=0) (fun k=>[(8,.sl idF vF 1 0 fs.length),(9,I fs.length),(10,I k)]) (fun _=>[]) (fun k=>fs.length-k) 0 [] (by simp) (by simp) (by simp) ?_)
 rintro k ⟨hk,h0⟩
 refine za (zb ?_)
 refine za (zr rfl (fun hc=>?_) (fun hc=>?_))
 ·simp at hc
  obtain ⟨e,tl,a1,a2,a3,e0⟩:=zC rfl fs k hc
  refine zh (za (zi (za (ze [] (zP xf hF e0 hc) ?_))))
  refine za (zb ?_)
  by_cases he:e=0
  ·repeat apply za
   refine zo (by simp [he]) ?_
   refine zh (zb ?_)
   exact zq (k+1) [] ⟨hc,fun y hy=>by rw [a3] at hy;rcases List.mem_append.1 hy with h | h;exact h0 y h;rw [List.mem_singleton.1 h];exact he⟩ (by omega) (by simp [zt k (by omega)]) rfl (by simp)
  ·repeat apply za
   refine zm (by simp [he]) ?_
   refine za (zb ?_)
   exact zg ⟨_,S,rfl,⟨by simp [zp,V9 h0 a1 he],rfl⟩,zU hd⟩
 ·simp at hc
  obtain rfl:k=fs.length:=by omega
  rw [List.take_length] at h0
  refine zu (za (zb ?_))
  exact zg ⟨_,S,rfl,⟨by simp [zp,XH h0],rfl⟩,zU hd⟩
theorem ZlO {S:Store} {id ver idD vD idF vF:Nat} {x:Inst} {v:List (List Visit)} {b:Int} {pr:PV} {ds:zJ} {fs:List Int} {n:Nat} (k:Nat) (hS:S id=.cells ver 89 (jE x (L v) b (.sl idD vD 1 0 ds.length) (.sl idF vF 1 0 fs.length) pr))
  (hD:S idD=.cells vD 58 (ds.flatMap Enc.enc)) (hF:S idF=.cells vF 39 (fs.flatMap Enc.enc)) (d1:id≠idD) (d2:id≠idF) (d3:idD≠idF) (hx:InstH x) (hv:VsOk x.cust.length n v) (hb:b<=9223372036854775807) (hdl:ds.length<=1000) (hfl:fs.length<=1000) :
  Spec Tryz.prog 87 [.ptr id ver 0,I k] S (fun _ S'=>S'=((S.set id (.cells ver 89 (jE x (L v) b (.sl idD (vD+1) 1 0 (ds.length+1)) (.sl idF (vF+1) 1 0 (fs.length+1)) pr))).set idD (.cells (vD+1) 58 ((ds++[(xn x b (jd v k x.cust.length)).1]).flatMap Enc.enc))).set idF
   (.cells (vF+1) 39 ((fs++[(xn x b (jd v k x.cust.length)).2]).flatMap Enc.enc))):=by
 have hst:=ZlI x v k n hx.cust hv
 have hso:=ZkP (Zeb hx hv k) hx.diag hb
 generalize jd v k x.cust.length=st at hst hso ⊢
 generalize xn x b st=r at hso ⊢
 obtain ⟨d,e⟩:=r
 simp only at hso ⊢
 refine qO Tryz.func87 Tryz.ntmps87 Tryz.results87 fun nx hd=>?_
 have hlt:id<nx:=qB hd hS (by simp)
 have hltD:idD<nx:=qB hd hD (by simp)
 have hltF:idF<nx:=qB hd hF (by simp)
 have xw:=fun obs=>(zH (S:=S) (obs:=obs) hlt).trans hS
 have xd:=fun obs=>(zH (S:=S) (obs:=obs) hltD).trans hD
 have xf:=fun obs=>(zH (S:=S) (obs:=obs) hltF).trans hF
 have g1:¬nx<=id:=by omega
 have g2:¬nx<=idD:=by omega
 have g3:¬nx<=idF:=by omega
 have yw:=fun (o:Ob) obs=>(zH (S:=S.set idD o) (obs:=obs) hlt).trans ((Store.set_other _ _ _ _ d1).trans hS)
 have zw:=fun (o o':Ob) obs=>(zH (S:=(S.set idD o).set id o') (obs:=obs) hlt).trans (Store.set_same _ _ _)
 have zf:=fun (o o':Ob) obs=>(zH (S:=(S.set idD o).set id o') (obs:=obs) hltF).trans ((Store.set_other _ _ _ _ d2.symm).trans ((Store.set_other _ _ _ _ d3.symm).trans hF))
 have uw:=fun (o o' o'':Ob) obs=>(zH (S:=((S.set idD o).set id o').set idF o'') (obs:=obs) hlt).trans ((Store.set_other _ _ _ _ d2).trans (Store.set_same _ _ _))
 refine za (zF (some [id]) (Row.pures [0,1,2,3,4,5,6,7,8,9,10,11,12,13,14,15,16,17,18,19,20,21] (.alt 22 (.alt 23 (Row.pures [24] .done) .stop) .stop)) mixed xw ?_)
 refine zN (hst) xw ?_
 refine zN (hso) xw ?_
 intro v2
 refine za (zF (some [nx]) (Row.pures [0,1,2,3,4,6,7] (.alt 5 (.alt 8 (Row.pures [9,10,11] (.alt 12 (.done) .stop)) .stop) .stop)) mixed (yD xw xd yw g1 g2) ?_)
 refine ⟨by omega,?_⟩
 refine ze [] (yD zw zf uw g1 g3) ?_
 refine ⟨by omega,?_⟩
 have e1:∀(a b c d:Ob),(((S.set idD a).set id b).set idF c).set id d=((S.set id d).set idD a).set idF c:=by
  intro a b c d
  funext i
  simp only [Store.set]
  by_cases h1:i=id
  ·subst h1;simp [d1,d2]
  ·simp only [h1,if_false]
 have hdd:∀(a b c:Ob),zQ nx (((S.set id a).set idD b).set idF c):=by
  intro a b c i hi
  rw [Store.set_other _ _ _ _ (by omega),Store.set_other _ _ _ _ (by omega),Store.set_other _ _ _ _ (by omega)]
  exact hd i hi
 rw [e1]
 exact ⟨_,_,rfl,by simp,zU (hdd _ _ _)⟩
theorem ZlP {S:Store} {id ver:Nat} (x:Inst) (v p f pr:PV) (b:Int) (fn:FuncId) (fs:List PV) (n:Nat) (hn:x.days=n) (hn2:n<=1000) (hS:S id=.cells ver 89 (jE x v b p f pr)) (St:Nat->Store) (h0:St 0=S)
  (hSt:∀nx,zQ nx S->∀k,k<=n->zQ nx (St k)) (hstep:∀k,k<n->Spec Tryz.prog fn (fs++[I k]) (St k) (fun _ S'=>S'=St (k+1))) :
  Spec Tryz.prog 64 [.ptr id ver 0,.fn (.func fn) fs []] S (fun _ S'=>S'=St n):=by
 refine qO Tryz.func64 Tryz.ntmps64 Tryz.results64 fun nx hd=>?_
 have hlt:id<nx:=qB hd hS (by simp)
 have xw:=fun obs=>(zH (S:=S) (obs:=obs) hlt).trans hS
 have hSt:=hSt nx hd
 refine za (ze [] (zn xw hn) ?_)
 refine zi (yP (σ:=Nat) (fun k=>k<=n) (fun k=>[(1,.fn (.func fn) fs []),(9,I n),(10,I k)]) (fun k=>St k) (fun _=>[]) (fun k=>n-k) (zD 0 [] (by simp) (by simp) h0 (by simp)) ?_)
 rintro k hk
 refine za (zb ?_)
 refine za (zr rfl (fun hc=>?_) (fun hc=>?_))
 ·simp at hc
  refine zh (za (zi (za (zb ?_))))
  refine z8 [] (by rfl) (by rfl) fun K Gc Gh hK hGc hGh X hX0 hX=>?_
  simp -implicitDefEqProofs [hX0,hX]
  try clear hX0 hX X
  refine hGc _ _ _ _ _ _ _ fun hsuf=>(Spec.mono (by rw [yX (hSt k hk)];simpa using hstep k hc) ?_).v
  rintro _ _ rfl
  refine ⟨St (k+1),[],(yX (hSt (k+1) hc)).symm,?_⟩
  clear hGc hGh
  clear Gc Gh
  refine zW hsuf (D:=[]) (by rfl) fun Gc Gh hGc hGh X hX0 hX=>?_
  simp -implicitDefEqProofs [hX0,hX]
  clear hX0 hX X
  refine hK _ _ _ ?_
  clear hK hGc hGh
  clear K Gc Gh
  refine zb ?_
  exact zq (k+1) [] hc (by omega) (by simp [zt k (by omega)]) rfl (by simp)
 ·simp at hc
  obtain rfl:k=n:=by omega
  refine zu ?_
  exact ⟨_,_,rfl,rfl,zU (hSt k (Nat.le_refl _))⟩
theorem ZlQ {S:Store} {nx id ver:Nat} (hd:zQ nx S) {x:Inst} {v:List (List Visit)} {v0 p0 f0 pr:PV} {b:Int} {n:Nat} (hS:S id=.cells ver 89 (jE x v0 b p0 f0 pr)) (hx:InstH x) (hn:x.days=n) (hn2:n<=1000) (hv:VsOk x.cust.length n v) (hb:b<=9223372036854775807) :
  Spec Tryz.prog 47 [.ptr id ver 0,L v] S (fun q S'=>q=I (jk (qQ x v b n))/\∃vD vF,S'=ext (S.set id (.cells ver 89 (jE x (L v) b (.sl nx vD 1 0 (jY x v b n).length) (.sl (nx+1) vF 1 0 (qQ x v b n).length) pr))) nx
   [.cells vD 58 ((jY x v b n).flatMap Enc.enc),.cells vF 39 ((qQ x v b n).flatMap Enc.enc)]):=by
 have hpl:=Zec x v b
 have hfl:=Zed x v b
 refine uc hd Tryz.func47 Tryz.ntmps47 Tryz.results47 ?_
 have hlt:id<nx:=qB hd hS (by simp)
 have g1:¬nx<=id:=by omega
 have xw:=fun obs=>(zH (S:=S) (obs:=obs) hlt).trans hS
 have yw:=fun (o:Ob) obs=>(zH (S:=S.set id o) (obs:=obs) hlt).trans (Store.set_same _ _ _)
 refine za (zb ?_)
 refine za (ze [] (zP xw yw g1 Store.set_set) ?_)
 refine Zef (id:=id) 8 58 1 hlt (Store.set_same _ _ _) rfl fun vD=>?_
 rw [Store.set_set]
 refine Zef (id:=id) 9 39 1 hlt (Store.set_same _ _ _) rfl fun vF=>?_
 rw [Store.set_set]
 simp only [List.set_cons_succ,List.set_cons_zero,List.length_cons,List.length_nil,List.cons_append,List.nil_append,Nat.add_zero,Nat.zero_add]
 generalize hSt:(fun k:Nat=>ext (S.set id (.cells ver 89 (jE x (L v) b (.sl nx (vD+k) 1 0 (jY x v b k).length) (.sl (nx+1) (vF+k) 1 0 (qQ x v b k).length) pr))) nx
   [.cells (vD+k) 58 ((jY x v b k).flatMap Enc.enc),.cells (vF+k) 39 ((qQ x v b k).flatMap Enc.enc)])=St
 have hSk:∀k,St k=ext (S.set id (.cells ver 89 (jE x (L v) b (.sl nx (vD+k) 1 0 (jY x v b k).length) (.sl (nx+1) (vF+k) 1 0 (qQ x v b k).length) pr))) nx
   [.cells (vD+k) 58 ((jY x v b k).flatMap Enc.enc),.cells (vF+k) 39 ((qQ x v b k).flatMap Enc.enc)]:=fun k=>by rw [<-hSt]
 have h0:St 0=ext (S.set id (.cells ver 89 (jE x (L v) b (.sl nx vD 1 0 0) (.sl (nx+1) vF 1 0 0) pr))) nx [.cells vD 58 [],.cells vF 39 []]:=hSk 0
 have hid:∀k,St k id=.cells ver 89 (jE x (L v) b (.sl nx (vD+k) 1 0 (jY x v b k).length) (.sl (nx+1) (vF+k) 1 0 (qQ x v b k).length) pr):=fun k=>by rw [hSk k,zH hlt,Store.set_same]
 have hstep:∀k,k<n->Spec Tryz.prog 87 ([.ptr id ver 0]++[I k]) (St k) (fun _ S'=>S'=St (k+1)):=by
  intro k hk
  have h1:=hpl k
  have h2:=hfl k
  refine (ZlO (idD:=nx) (idF:=nx+1) (n:=n) k (hid k) (by rw [hSk k];simp) (by rw [hSk k];simp) (by omega) (by omega) (by omega) hx hv hb (by omega) (by omega)).mono ?_
  rintro _ _ rfl
  rw [hSk k,hSk (k+1),vr _ hlt,Store.set_set,qA _ (by omega) (by simp),qA _ (by omega) (by simp),ZlG,ZlH]
  simp [Nat.add_assoc]
 have hdead:∀m,zQ m (St 0)->∀k,k<=n->zQ m (St k):=by
  intro m hm k _ i hi
  have hge:nx+1<m:=by
   rcases Nat.lt_or_ge (nx+1) m with q | q
   ·exact q
   ·have:=hm (nx+1) q;rw [hSk 0] at this;simp at this
  rw [hSk k]
  simp only [ext]
  rw [if_neg (by omega),List.getD_eq_getElem?_getD,List.getElem?_eq_none (by simp;omega)];rfl
 rw [<-h0]
 have hn0:=hid 0
 have hnx2:nx+2=nx+[Ob.cells (vD+0) 58 ((jY x v b 0).flatMap Enc.enc),.cells (vF+0) 39 ((qQ x v b 0).flatMap Enc.enc)].length:=rfl
 have hb0:∀k,St k=ext (St k) (nx+2) []:=fun k=>by
  refine (yX ?_).symm
  rw [hSk k];exact qN (obs:=[_,_])
 rw [hb0 0]
 refine za (z8 [] (by rfl) (by rfl) fun K Gc Gh hK hGc hGh X hX0 hX=>?_)
 simp -implicitDefEqProofs [hX0,hX]
 try clear hX0 hX X
 refine hGc _ _ _ _ _ _ _ fun hsuf=>((ZlP x (L v) _ _ pr b _ _ n hn hn2 (by rw [<-hb0 0];exact hn0) St (hb0 0) (fun m hm k hk=>hdead m (by rw [hb0 0];exact hm) k hk) hstep).mono ?_).v
 rintro _ _ rfl
 refine ⟨_,_,hb0 n,?_⟩
 clear hGc hGh
 clear Gc Gh
 refine zW hsuf (D:=[]) (by rfl) fun Gc Gh hGc hGh X hX0 hX=>?_
 simp -implicitDefEqProofs [hX0,hX]
 clear hX0 hX X
 refine hK _ _ _ ?_
 clear hK hGc hGh
 clear K Gc Gh
 refine za (z8 [] (by rfl) (by rfl) fun K Gc Gh hK hGc hGh X hX0 hX=>?_)
 simp -implicitDefEqProofs [hX0,hX]
 try clear hX0 hX X
 refine hGc _ _ _ _ _ _ _ fun hsuf=>((ZlN (idF:=nx+1) x _ _ _ _ (qQ x v b n) (by rw [<-hb0 n];exact hid n) (by rw [<-hb0 n,hSk n];simp) (by rw [hfl];exact hn2)).mono ?_).v
 rintro _ _ ⟨rfl,rfl⟩
 refine ⟨_,_,rfl,?_⟩
 clear hGc hGh
 clear Gc Gh
 refine zW hsuf (D:=[]) (by rfl) fun Gc Gh hGc hGh X hX0 hX=>?_
 simp -implicitDefEqProofs [hX0,hX]
 clear hX0 hX X
 refine hK _ _ _ ?_
 clear hK hGc hGh
 clear K Gc Gh
 refine zg ⟨_,St n,rfl,⟨by simp [zp],vD+n,vF+n,hSk n⟩,fun o=>.inl ?_⟩
 rw [<-hb0 n]
open Go Go.Proofs Hp
theorem ZlR (n:Nat):qW n (.slice none 0 0)=List.replicate n (.sc (.slice none 0 0)):=by
 induction n with
 | zero=>simp
 | succ n ih=>rw [uJ,ih];rfl
structure RowsV (m n i:Nat) (v:List (List Visit)):Prop where
 len:v.length=m
 ok:∀l∈v,∀w∈l,(0<=w.d/\w.d<n)/\1<=w.q/\w.q<=12
 nd:∀l∈v,(l.map (·.d)).Nodup
 few:∀l∈v,l.length<=i
theorem RowsV.vs {m n i:Nat} {v:List (List Visit)} (h:RowsV m n i v) (hi:i<=12):VsOk m n v :=
 ⟨h.len,fun l hl w hw=>by have:=h.ok l hl w hw;omega,h.nd,fun l hl=>by have:=h.few l hl;omega⟩
theorem RowsV.more {m n i:Nat} {v:List (List Visit)} (h:RowsV m n i v):RowsV m n (i+1) v:=⟨h.len,h.ok,h.nd,fun l hl=>Nat.le_succ_of_le (h.few l hl)⟩
theorem RowsV.put {m n i:Nat} {v:List (List Visit)} (h:RowsV m n i v) {c:Nat} {l:List Visit} (hc:v[c]?=some l) (w:Visit) (hw:(0<=w.d/\w.d<n)/\1<=w.q/\w.q<=12) (hno:w.d ∉ l.map (·.d)):RowsV m n (i+1) (v.set c (l++[w])):=by
 have hlm:=List.mem_of_getElem? hc
 refine ⟨by simp [h.len],fun k hk u hu=>?_,fun k hk=>?_,fun k hk=>?_⟩
 ·rcases List.mem_or_eq_of_mem_set hk with hk | rfl
  ·exact h.ok k hk u hu
  ·rcases List.mem_append.1 hu with hu | hu
   ·exact h.ok l hlm u hu
   ·rw [List.mem_singleton.1 hu];exact hw
 ·rcases List.mem_or_eq_of_mem_set hk with hk | rfl
  ·exact h.nd k hk
  ·rw [List.map_append];exact QL _ _ (h.nd l hlm) hno
 ·rcases List.mem_or_eq_of_mem_set hk with hk | rfl
  ·exact Nat.le_succ_of_le (h.few k hk)
  ·have:=h.few l hlm;simp;omega
open Go Go.Proofs
def Y7 (low:Nat):Ctx->Store->World->Prop:=fun _ _ w=>low<=w.heap.size
def xY (low:Nat) (S0:Store):Rd:=⟨none,fun C S w=>∃C0 w0,low<=w0.heap.size/\Sim C0 S0 w0/\Step C0 S0 w0 C S w,fun st ⟨C0,w0,a,b,c⟩=>⟨C0,w0,a,b,c.trans st⟩⟩
section
variable {P:Program} {n N nx low:Nat} {Q:Exit->(Nat->PV)->Store->Prop} {F:Nat->PV} {S:Store} {obs:List Ob}
theorem Zae {S0:Store} {C:Ctx} {w:World} (h:(xY low S0).V C S w):Y7 low C S w:=by
 obtain ⟨C0,w0,a,_,c⟩:=h
 exact Nat.le_trans a c.size
theorem SpecV.weak {V V':Ctx->Store->World->Prop} {f:FuncId} {args:List PV} {R:PV->Store->Prop} (hV:∀C w,V' C S w->V C S w) (h:SpecV P V f args S R):SpecV P V' f args S R :=
 ⟨h.1,fun C w vs hS hv=>h.2 C w vs hS (hV C w hv)⟩
def NewC (P:Program) (low:Nat) (f:FuncId) (args:List PV) (p:PV):Prop:=∀S,SpecV P (Y7 low) f args S (fun q S'=>q=p/\S'=S)
theorem Pure.new {f:FuncId} {args:List PV} {p:PV} (h:Pure P f args p):NewC P low f args p:=fun S=>(h S).v
theorem u7 {fn:Func} {c:Code} {f:FuncId} {rs:Array ResultVar} {args:List PV} {p:PV} (hf:P.funcs[f]?=some fn) (hN:fn.ntmps=N) (hrs:fn.results=rs)
  (h:∀S nx,zQ nx S->PW P (xY low S) 0 N c (xM P rs.toList (fun q S'=>q=p/\S'=S)) (j5 args) (ext S nx []))
  (hname : (fn.name == "runtime.NumGoroutine") = false := by rfl) (hb : fn.body = some c := by exact rfl) (hargs : args.length ≤ N := by simp) : NewC P low f args p := by
 refine fun S=>⟨qn hf hname hb,?_⟩
 intro C w vs hS hv
 have hd:zQ C.next S:=fun i hi=>by
  cases hs:S i with
  | dead=>rfl
  | cells v e cs=>have:=hS.lt i (by rw [hs];simp);omega
  | map v es=>have:=hS.lt i (by rw [hs];simp);omega
 have:=h S C.next hd
 rw [yX hd] at this
 exact Qw (keep:=(xY low S).keep) hf hb hN (congrArg Array.toList hrs) hargs this C w vs hS ⟨C,w,hv,hS,.refl _ _ _⟩
section
variable {A:Prop} {R:KT->CT->HT->Prop}
theorem vJ {S0:Store} {ops:Array Oper} {os:List Oper} {K:KT} {d:Option Nat} {f:FuncId} {args:List PV} {v:PV} (D:List (Nat × Nat)) (hp:NewC P low f args v) (a:A)
  (h:R K (CQ P (xY low S0) n nx ops K) (HQ P (xY low S0) n nx ops K)) (hD:wW ops D=true:=by rfl)
  (hR:A->XQ P nx D os (zT F d v) S obs R:=by intro a K Gc Gh X hX0 hX h;simp -implicitDefEqProofs [hX0,hX,a];exact h):CQ P (xY low S0) n nx ops K os F S obs d f args :=
 fun hs=>((hp _).weak fun _ _=>Zae).mono (by rintro _ _ ⟨rfl,rfl⟩;exact ⟨_,_,rfl,YG hs hD (hR a) h⟩)
end
section
variable {A:Prop} {R:KT->PT->PT->QG->Prop}
theorem Zaf {S1:Store} {ops:Array Oper} {ids:Option (List Nat)} {S0:Store} {K:KT} {is:Row} {d:Option Nat} {f:FuncId} {args:List PV} {v:PV} (hp:NewC P low f args v) (a:A)
  (h:R K (GP P (xY low S1) n nx ops ids S0 K) (GC P (xY low S1) n nx ops ids S0 K) (GH P (xY low S1) n nx ops ids S0 K)) (hA:yB ids S0 (ext S nx obs):=by first | (simp;done) | exact fun _ _=>rfl)
  (hR:A->YQ P nx ops ids S0 is (zT F d v) S obs R:=by intro a K Gp Gc Gh X hX0 hX1 hX2 hX h;simp -implicitDefEqProofs [hX0,hX1,hX2,hX,a];exact h):GC P (xY low S1) n nx ops ids S0 K is F S obs d f args :=
 ((hp _).weak fun _ _=>Zae).mono (by rintro _ _ ⟨rfl,rfl⟩;exact ⟨hA,WD (hR a) h⟩)
end
def xq (low id ver:Nat) (cs:List PV) (p:PV):PV :=
 match p with
 | .sl o v sz 0 k=>if o=id/\v=ver/\k*sz=cs.length then .nl low sz k cs else .sl o v sz 0 k
 | p=>p
def wQ (low id ver:Nat) (cs:List PV) (x:Ob):Ob :=
 match x with
 | .cells v e ds=>.cells v e (ds.map (xq low id ver cs))
 | x=>x
theorem ZlS (id ver:Nat) (cs:List PV) (x:Ob):(wQ low id ver cs x).ver=x.ver:=by cases x<;>rfl
theorem Zeg {C:Ctx} {S T:Store} {w:World} {id ver e:Nat} {cs:List PV} (hS:Sim C S w) (hid:S id=.cells ver e cs) (hT:T id=.dead) (hTS:∀o,T o≠.dead->S o≠.dead) (st:Step C S w C T w)
  (hlow:∀b k,C.loc id=some (b,k)->low<=b) {p:PV} {u:Value} (h:Rel C S w p u):Rel C T w (xq low id ver cs p) u:=by
 unfold xq
 split
 ·rename_i o v sz k
  split
  ·rename_i hc
   obtain ⟨rfl,rfl,hk⟩:=hc
   cases h with
   | sl h1 h2 h3 =>
    obtain ⟨ad,cap,rfl,q1,q2,q3,q4⟩:=h1
    have hnM:∀b k',C.loc o=some (b,k')->¬C.M T b:=by
     rintro b k' hl ⟨i,k2,hi,hl2⟩
     by_cases hoi:i=o
     ·subst hoi;exact hi hT
     ·exact hoi (hS.dist i o b k2 k' (hTS i hi) (by rw [hid];simp) hl2 hl)
    by_cases hk0:k=0
    ·subst hk0
     have:cs=[]:=List.eq_nil_of_length_eq_zero (by omega)
     subst this
     exact .nl0
    rcases (h3 v (by rw [hid];rfl)).2 rfl with ⟨z1,z2,_,z4⟩ | ⟨b,k',ad',cap',z1,z2,z3,z4⟩
    ·exact absurd z2 hk0
    ·cases z2
     rcases hS.cells o v e cs hid with ⟨hn,_⟩ | ⟨b2,kk,c,g1,g2,g3,g4,g5,g6⟩
     ·rw [hn] at z1;cases z1
     ·rw [g1] at z1;cases z1
      obtain ⟨rfl,hcap⟩:=z3 rfl
      exact .nl ⟨by omega,q1,q2,q3⟩ g2 (hnM _ _ g1) ⟨hlow _ _ g1,hk.symm,by rw [hcap,g3]⟩ g5 (fun j p v hp hv=>(g6 j p v hp hv).mono st)
  ·exact h.mono st
 ·exact h.mono st
theorem wR {c:Code} (hd:zQ nx S) (j:Nat) {ver e:Nat} {cs:List PV} (hj:obs[j]?=some (.cells ver e cs))
  (h:PW P (xY low S) n N c Q (fun i=>xq low (nx+j) ver cs (F i)) (ext S nx ((obs.map (wQ low (nx+j) ver cs)).set j .dead))):PW P (xY low S) n N c Q F (ext S nx obs):=by
 have hjl:j<obs.length:=(List.getElem?_eq_some_iff.1 hj).1
 refine vq (F':=fun i=>xq low (nx+j) ver cs (F i)) (S':=ext S nx ((obs.map (wQ low (nx+j) ver cs)).set j .dead)) (fun C w a st=>?_) h
 have hid:ext S nx obs (nx+j)=.cells ver e cs:=by rw [yS,List.getD_eq_getElem?_getD,hj];rfl
 have hT:ext S nx ((obs.map (wQ low (nx+j) ver cs)).set j .dead) (nx+j)=.dead:=by rw [yS,List.getD_eq_getElem?_getD,List.getElem?_set_self (by simpa using hjl)];rfl
 have hold:∀o,S o≠.dead->o<nx/\ext S nx obs o=S o:=fun o ho=>by
  have:o<nx:=by
   rcases Nat.lt_or_ge o nx with q | q
   ·exact q
   ·exact absurd (hd o q) ho
  exact ⟨this,zH this⟩
 have hat:∀o,ext S nx ((obs.map (wQ low (nx+j) ver cs)).set j .dead) o=.dead\/(o<nx/\ext S nx ((obs.map (wQ low (nx+j) ver cs)).set j .dead) o=ext S nx obs o)\/(nx<=o/\ext S nx ((obs.map (wQ low (nx+j) ver cs)).set j .dead) o=wQ low (nx+j) ver cs (ext S nx obs o)):=by
  intro o
  by_cases ho:o<nx
  ·exact .inr (.inl ⟨ho,by rw [zH ho,zH ho]⟩)
  ·by_cases hoj:o=nx+j
   ·subst hoj;exact .inl hT
   ·refine .inr (.inr ⟨by omega,?_⟩)
    simp only [ext]
    rw [if_neg ho,if_neg ho,List.getD_eq_getElem?_getD,List.getD_eq_getElem?_getD,List.getElem?_set_ne (by omega),List.getElem?_map]
    cases obs[o-nx]?<;>rfl
 have hlow:∀b k,C.loc (nx+j)=some (b,k)->low<=b:=by
  intro b k hl
  obtain ⟨C0,w0,l0,s0,st0⟩:=st.v
  refine Nat.le_trans l0 (Nat.le_of_not_lt fun hb=>?_)
  have hMb:C.M (ext S nx obs) b:=⟨nx+j,k,by rw [hid];simp,hl⟩
  by_cases hM0:C0.M S b
  ·obtain ⟨o1,k1,ho1,hl1⟩:=hM0
   obtain ⟨hlt,hst⟩:=hold o1 ho1
   obtain ⟨v1,hv1⟩:∃v1,(S o1).ver=some v1:=by
    cases hs:S o1 with
    | dead=>exact absurd hs ho1
    | cells v e cs=>exact ⟨_,rfl⟩
    | map v es=>exact ⟨_,rfl⟩
   have hc0:=s0.lt o1 ho1
   have hk0:=s0.clk o1 v1 hv1
   rcases st0.vers o1 v1 (by rw [hst];exact hv1) with q | ⟨v0,q1,q2,q3⟩
   ·omega
   ·rw [hv1] at q1;cases q1
    have hl2:=(q3 rfl).trans hl1
    have:=st.sim.dist o1 (nx+j) b k1 k (by rw [hst];exact ho1) (by rw [hid];simp) hl2 hl
    omega
  ·exact (st0.blocks b hb hM0).2 hMb
 generalize hTT:ext S nx ((obs.map (wQ low (nx+j) ver cs)).set j .dead)=T at *
 generalize hSS:ext S nx obs=S1 at *
 have hver:∀o v,(T o).ver=some v->(S1 o).ver=some v:=by
  intro o v hv
  rcases hat o with q | ⟨_,q⟩ | ⟨_,q⟩
  ·rw [q] at hv;cases hv
  ·rw [q] at hv;exact hv
  ·rw [q,ZlS] at hv;exact hv
 have hne:∀o,T o≠.dead->S1 o≠.dead:=by
  intro o ho hd
  rcases hat o with q | ⟨_,q⟩ | ⟨_,q⟩
  ·exact ho q
  ·exact ho (q.trans hd)
  ·rw [hd] at q;exact ho q
 have hM:∀b,C.M T b->C.M S1 b:=fun b ⟨o,k,ho,hl⟩=>⟨o,k,hne o ho,hl⟩
 have hstep:Step C S1 w C T w:=⟨rfl,⟨rfl,Nat.le_refl _⟩,rfl,Nat.le_refl _,Nat.le_refl _,Nat.le_refl _,fun b _ hb=>⟨rfl,fun h=>hb (hM b h)⟩,fun o v1 hv=>.inr ⟨v1,hver o v1 hv,Nat.le_refl _,fun _=>rfl⟩⟩
 have hrel:∀{p u},Rel C S1 w p u->Rel C T w (xq low (nx+j) ver cs p) u:=fun h=>Zeg st.sim hid hT hne hstep hlow h
 refine ⟨C,⟨⟨fun o ho=>st.sim.lt o (hne o ho),fun o v hv=>st.sim.clk o v (hver o v hv),fun o o' b k k' ho ho'=>st.sim.dist o o' b k k' (hne o ho) (hne o' ho'),?_,?_⟩,st.size,fun i=>hrel (st.fr i),(xY low S).keep hstep st.v⟩,hstep⟩
 ·intro o v e' ds ho
  rcases hat o with q | ⟨_,q⟩ | ⟨_,q⟩
  ·rw [q] at ho;cases ho
  ·rw [q] at ho
   rcases st.sim.cells o v e' ds ho with hn | ⟨b,k,c,h1,h2,h3,h4,h5,h6⟩
   ·exact .inl hn
   ·exact .inr ⟨b,k,c,h1,h2,h3,h4,h5,fun i p u hp hu=>(h6 i p u hp hu).mono hstep⟩
  ·rw [q] at ho
   cases hs:S1 o with
   | dead=>rw [hs] at ho;cases ho
   | map v es=>rw [hs] at ho;cases ho
   | cells v2 e2 ds2 =>
    rw [hs] at ho
    cases ho
    rcases st.sim.cells o _ _ ds2 hs with ⟨h1,h2⟩ | ⟨b,k,c,h1,h2,h3,h4,h5,h6⟩
    ·exact .inl ⟨h1,by rw [h2];rfl⟩
    ·refine .inr ⟨b,k,c,h1,h2,h3,by simpa using h4,fun i v hi hv=>h5 i v (by simpa using hi) hv,fun i p u hp hu=>?_⟩
     rw [List.getElem?_map] at hp
     obtain ⟨p0,hp0,rfl⟩:=Option.map_eq_some_iff.1 hp
     exact hrel (h6 i p0 u hp0 hu)
 ·intro o v es ho
  have hs:S1 o=.map v es:=by
   rcases hat o with q | ⟨_,q⟩ | ⟨_,q⟩
   ·rw [q] at ho;cases ho
   ·rw [q] at ho;exact ho
   ·rw [q] at ho
    cases hs:S1 o with
    | dead=>rw [hs] at ho;cases ho
    | map v es=>rw [hs] at ho;exact ho
    | cells v2 e2 ds2=>rw [hs] at ho;cases ho
  obtain ⟨b,k,ms,cl,h1,h2,h3,h4⟩:=st.sim.maps o v es hs
  exact ⟨b,k,ms,cl,h1,h2,h3,fun i x m hx hm=>⟨(h4 i x m hx hm).1,(h4 i x m hx hm).2.mono hstep⟩⟩
end
def PV.Le (p q:PV):Prop:=∀(C:Ctx) (S:Store) (w:World) (v:Value),Rel C S w p v->Rel C S w q v
theorem PV.Le.rfl' (p:PV):PV.Le p p:=fun _ _ _ _ h=>h
theorem Zag {low sz n:Nat} {cs cs':List PV} (hl:cs'.length=cs.length) (hc:∀(i:Nat) (p q:PV),cs[i]?=some p->cs'[i]?=some q->PV.Le p q):PV.Le (.nl low sz n cs) (.lst n cs'):=by
 intro C S w v h
 cases h with
 | nl0=>rw [List.eq_nil_of_length_eq_zero (l:=cs') (by simpa using hl)];exact .lst0
 | nl hn hb hM hl2 h1 hr =>
  refine .lst1 hn.2.1 hn.2.2.1 hb hM (fun _=>?_) (fun i v hi hv=>h1 i v (by omega) (by simpa using hv)) fun i q v hq hv=>?_
  ·have:=Nat.mul_le_mul_right sz hn.2.1
   omega
  ·have hi:i<cs.length:=by rw [<-hl];exact (List.getElem?_eq_some_iff.1 hq).1
   exact hc i _ q (List.getElem?_eq_getElem hi) hq C S w v (hr i _ v (List.getElem?_eq_getElem hi) (by simpa using hv))
theorem ZF {p q:PV} (h:PV.Le p q):PV.Le (.agg [p]) (.agg [q]):=by
 intro C S w v hr
 cases hr with
 | agg hl h1 h2 =>
  refine .agg hl h1 fun i c v hc hv=>?_
  match i,hc with
  | 0,hc=>cases hc;exact h C S w v (h2 0 p v rfl hv)
theorem Pure.arg {P:Program} {f:FuncId} {args args':List PV} {v:PV} (hl:args'.length=args.length) (ha:∀(i:Nat) (p q:PV),args'[i]?=some p->args[i]?=some q->PV.Le p q) (h:Pure P f args v):Pure P f args' v:=by
 intro S
 refine ⟨(h S).1,fun C w vs hS hn hr=>(h S).2 C w vs hS (by rw [<-hl];exact hn) fun i q v hq hv=>?_⟩
 have hi:i<args'.length:=by rw [hl];exact (List.getElem?_eq_some_iff.1 hq).1
 exact ha i _ q (List.getElem?_eq_getElem hi) hq C S w v (hr i _ v (List.getElem?_eq_getElem hi) hv)
theorem NewC.arg {P:Program} {low:Nat} {f:FuncId} {args args':List PV} {v:PV} (hl:args'.length=args.length) (ha:∀(i:Nat) (p q:PV),args'[i]?=some p->args[i]?=some q->PV.Le p q) (h:NewC P low f args v):NewC P low f args' v:=by
 intro S
 refine ⟨(h S).1,fun C w vs hS hV hn hr=>(h S).2 C w vs hS hV (by rw [<-hl];exact hn) fun i q v hq hv=>?_⟩
 have hi:i<args'.length:=by rw [hl];exact (List.getElem?_eq_some_iff.1 hq).1
 exact ha i _ q (List.getElem?_eq_getElem hi) hq C S w v (hr i _ v (List.getElem?_eq_getElem hi) hv)
abbrev nT (low:Nat) (t:List Stop):PV:=.nl low 2 t.length (t.flatMap Enc.enc)
abbrev nD (low:Nat) (d:List (List Stop)):PV:=.nl low 1 d.length (d.map (nT low))
abbrev nP (low:Nat) (p:List (List (List Stop))):PV:=.nl low 1 p.length (p.map (nD low))
abbrev nQ (low:Nat) (p:List (List (List Stop))):PV:=.nl low 1 p.length (p.flatMap Enc.enc)
theorem ZlT {α:Type} [Enc α] (l:List (List α)):(l.flatMap Enc.enc:List PV)=l.map L:=by
 induction l with
 | nil=>rfl
 | cons a l ih=>rw [List.flatMap_cons,ih,ZbB];rfl
theorem ZlU {α:Type} {f g:α->PV} (h:∀a,PV.Le (f a) (g a)) (l:List α):∀(i:Nat) (p q:PV),(l.map f)[i]?=some p->(l.map g)[i]?=some q->PV.Le p q:=by
 intro i p q hp hq
 rw [List.getElem?_map] at hp hq
 obtain ⟨a,ha,rfl⟩:=Option.map_eq_some_iff.1 hp
 rw [ha] at hq
 cases hq
 exact h a
theorem ZlV (low:Nat) (t:List Stop):PV.Le (nT low t) (L t):=Zag rfl fun i p q hp hq=>by rw [hp] at hq;cases hq;exact .rfl' _
theorem Jg (low:Nat) (d:List (List Stop)):PV.Le (nD low d) (L d):=by
 have e:(L d:PV)=.lst d.length (d.map L):=by rw [<-ZlT]
 rw [e]
 exact Zag (by simp) (ZlU (ZlV low) d)
theorem Zah (low:Nat) (p:List (List (List Stop))):PV.Le (nQ low p) (L p):=Zag rfl fun i p q hp hq=>by rw [hp] at hq;cases hq;exact .rfl' _
theorem Zeh {C C':Ctx} {S:Store} {w w':World} {low j v e:Nat} {cs:List PV} (hd:zQ C.next S) (hS:Sim C S w) (hV:Y7 low C S w) (hsim:Sim C' (S.set (C.next+j) (.cells v e cs)) w') (hstep:Step C S w C' (S.set (C.next+j) (.cells v e cs)) w') :
  Sim C' S w'/\Step C' (S.set (C.next+j) (.cells v e cs)) w' C' S w'/\∀p u,Rel C' (S.set (C.next+j) (.cells v e cs)) w' p u->Rel C' S w' (xq low (C.next+j) v cs p) u:=by
 have hdj:=hd (C.next+j) (by omega)
 have hkk:∀o,S o=S.set (C.next+j) (.cells v e cs) o\/S o=.dead:=by
  intro o
  by_cases ho:o=C.next+j
  ·subst ho;exact .inr hdj
  ·exact .inl (Store.set_other _ _ _ _ ho).symm
 obtain ⟨k1,k2⟩:=hsim.kill hkk
 have hlow:∀b k,C'.loc (C.next+j)=some (b,k)->low<=b:=by
  intro b k hl
  refine Nat.le_trans hV (Nat.le_of_not_lt fun hb=>?_)
  have hMb:C'.M (S.set (C.next+j) (.cells v e cs)) b:=⟨C.next+j,k,by rw [Store.set_same];simp,hl⟩
  by_cases hM0:C.M S b
  ·obtain ⟨o1,k1,ho1,hl1⟩:=hM0
   have hlt:=hS.lt o1 ho1
   have hst:S.set (C.next+j) (.cells v e cs) o1=S o1:=Store.set_other _ _ _ _ (by omega)
   obtain ⟨v1,hv1⟩:∃v1,(S o1).ver=some v1:=by
    cases hs:S o1 with
    | dead=>exact absurd hs ho1
    | cells v e cs=>exact ⟨_,rfl⟩
    | map v es=>exact ⟨_,rfl⟩
   have hk0:=hS.clk o1 v1 hv1
   rcases hstep.vers o1 v1 (by rw [hst];exact hv1) with q | ⟨v0,q1,q2,q3⟩
   ·omega
   ·rw [hv1] at q1;cases q1
    have hl2:=(q3 rfl).trans hl1
    have:=hsim.dist o1 (C.next+j) b k1 k (by rw [hst];exact ho1) (by rw [Store.set_same];simp) hl2 hl
    omega
  ·exact (hstep.blocks b hb hM0).2 hMb
 exact ⟨k1,k2,fun p u hrel=>Zeg hsim (Store.set_same _ _ _) hdj (fun o ho=>by
  rcases hkk o with q | q
  ·rw [<-q];exact ho
  ·exact absurd q ho) k2 hlow hrel⟩
theorem ZlW {P:Program} {low:Nat} {f:FuncId} {args:List PV} {sz k e:Nat} {cs:List PV} (j:Nat)
  (h:∀S nx,zQ nx S->Spec P f args S (fun p S'=>∃v,p=.sl (nx+j) v sz 0 k/\S'=S.set (nx+j) (.cells v e cs))) (hk:k*sz=cs.length):NewC P low f args (.nl low sz k cs):=by
 intro S
 refine ⟨(h (fun _=>.dead) 0 (fun _ _=>rfl)).1,?_⟩
 intro C w vs hS hV hl hr
 have hd:zQ C.next S:=fun i hi=>by
  cases hs:S i with
  | dead=>rfl
  | cells v e cs=>have:=hS.lt i (by rw [hs];simp);omega
  | map v es=>have:=hS.lt i (by rw [hs];simp);omega
 refine ((h S C.next hd).2 C w vs hS hl hr).mono ?_
 rintro e' w' ⟨p,u,S',C',rfl,⟨v,rfl,rfl⟩,hrel,hsim,hstep⟩
 obtain ⟨g1,g2,g3⟩:=Zeh hd hS hV hsim hstep
 refine ⟨.nl low sz k cs,u,S,C',rfl,⟨rfl,rfl⟩,?_,g1,hstep.trans g2⟩
 have:=g3 _ _ hrel
 simpa [xq,hk] using this
theorem ZlX {C:Ctx} {S:Store} {w:World} {low sz:Nat} {v:Value} (h:Rel C S w (.lst 0 []) v):Rel C S w (.nl low sz 0 []) v:=by
 cases h with
 | lst0=>exact .nl0
 | lst1=>exact .nl0
attribute [simp] xq wQ
open Go Go.Proofs
def Y8 (C:Ctx) (w:World) (o:Nat) (x:Ob):Ob :=
 match x with
 | .dead=>.dead
 | .cells v e cs=>.cells v e (match C.loc o with
  | none=>[]
  | some (b,_)=>match w.heap[b]? with
   | some (.cells c _ _)=>(c.toList.take cs.length).map .sc
   | _=>[])
 | .map v _=>.map v (match C.loc o with
  | none=>[]
  | some (b,_)=>match w.heap[b]? with
   | some (.map ms _)=>ms.toList.map fun m=>(m.key,.sc m.val)
   | _=>[])
def jF (C:Ctx) (w:World) (S:Store):Store:=fun o=>Y8 C w o (S o)
section
variable {C:Ctx} {S:Store} {w:World}
theorem Jh (o:Nat):(jF C w S o).ver=(S o).ver:=by unfold jF Y8;cases S o<;>rfl
theorem vK (o:Nat):jF C w S o=.dead<->S o=.dead:=by
 unfold jF Y8
 cases S o<;>simp
theorem Zai (C':Ctx) (b:Nat):C'.M (jF C w S) b<->C'.M S b :=
 ⟨fun ⟨o,k,h1,h2⟩=>⟨o,k,fun h=>h1 ((vK o).2 h),h2⟩,fun ⟨o,k,h1,h2⟩=>⟨o,k,fun h=>h1 ((vK o).1 h),h2⟩⟩
theorem Zei:Step C S w C (jF C w S) w :=
 ⟨rfl,⟨rfl,Nat.le_refl _⟩,rfl,Nat.le_refl _,Nat.le_refl _,Nat.le_refl _,fun b _ hb=>⟨rfl,fun h=>hb ((Zai C b).1 h)⟩,fun o v1 hv=>.inr ⟨v1,by rw [<-Jh (C:=C) (w:=w)];exact hv,Nat.le_refl _,fun _=>rfl⟩⟩
theorem Zaj (hS:Sim C S w) {o v e:Nat} {cs:List PV} (h:S o=.cells v e cs):(C.loc o=none/\cs=[]/\jF C w S o=.cells v e [])\/∃(b k:Nat) (c:Array Value),C.loc o=some (b,k)/\w.heap[b]?=some (.cells c e (0,0))/\jF C w S o=.cells v e ((c.toList.take cs.length).map .sc)/\c.size=k/\cs.length<=k /\
  (∀(i:Nat) (v:Value),i<cs.length->c[i]?=some v->v.oneCell'=true)/\∀(i:Nat) (p:PV) (u:Value),cs[i]?=some p->c[i]?=some u->Rel C S w p u:=by
 rcases hS.cells o v e cs h with ⟨h1,h2⟩ | ⟨b,k,c,h1,h2,h3,h4,h5,h6⟩
 ·exact .inl ⟨h1,h2,by unfold jF Y8;rw [h];simp only [h1]⟩
 ·exact .inr ⟨b,k,c,h1,h2,by unfold jF Y8;rw [h];simp only [h1,h2],h3,h4,h5,h6⟩
theorem Zak (hS:Sim C S w) {o v:Nat} {es:List (Value × PV)} (h:S o=.map v es):∃(b k:Nat) (ms:Array MapEntry) (cl:Nat),C.loc o=some (b,k)/\w.heap[b]?=some (.map ms cl)/\jF C w S o=.map v (ms.toList.map fun m=>(m.key,.sc m.val))/\es.length=ms.size /\
  (∀(i:Nat) (e:Value × PV) (m:MapEntry),es[i]?=some e->ms[i]?=some m->m.key=e.1/\Rel C S w e.2 m.val):=by
 obtain ⟨b,k,ms,cl,h1,h2,h3,h4⟩:=hS.maps o v es h
 exact ⟨b,k,ms,cl,h1,h2,by unfold jF Y8;rw [h];simp only [h1,h2],h3,h4⟩
theorem Zej (hS:Sim C S w):Sim C (jF C w S) w:=by
 refine ⟨fun o ho=>hS.lt o fun h=>ho ((vK o).2 h),fun o v hv=>hS.clk o v (by rw [<-Jh (C:=C) (w:=w)];exact hv),fun o o' b k k' h1 h2=>hS.dist o o' b k k' (fun h=>h1 ((vK o).2 h)) (fun h=>h2 ((vK o').2 h)),?_,?_⟩
 ·intro o v e cs h
  cases hs:S o with
  | dead=>rw [(vK o).2 hs] at h;cases h
  | map v es=>obtain ⟨b,k,ms,cl,h1,h2,h3,h4,h5⟩:=Zak hS hs;rw [h3] at h;cases h
  | cells v2 e2 ds =>
   rcases Zaj hS hs with ⟨h1,h2,h3⟩ | ⟨b,k,c,h1,h2,h3,h4,h5,h6,h7⟩
   ·rw [h3] at h;cases h;exact .inl ⟨h1,rfl⟩
   ·rw [h3] at h;cases h
    have hl:((c.toList.take ds.length).map PV.sc).length=ds.length:=by simp;omega
    refine .inr ⟨b,k,c,h1,h2,h4,by rw [hl];exact h5,fun i v hi hv=>h6 i v (by rw [hl] at hi;exact hi) hv,fun i p u hp hu=>?_⟩
    rw [List.getElem?_map] at hp
    obtain ⟨x,hx,rfl⟩:=Option.map_eq_some_iff.1 hp
    rw [List.getElem?_take] at hx
    split at hx
    ·rw [Array.getElem?_toList,hu] at hx;cases hx;exact .sc _
    ·cases hx
 ·intro o v es h
  cases hs:S o with
  | dead=>rw [(vK o).2 hs] at h;cases h
  | cells v2 e2 ds =>
   rcases Zaj hS hs with ⟨h1,h2,h3⟩ | ⟨b,k,c,h1,h2,h3,_⟩<;>(rw [h3] at h;cases h)
  | map v2 es2 =>
   obtain ⟨b,k,ms,cl,h1,h2,h3,h4,h5⟩:=Zak hS hs
   rw [h3] at h;cases h
   refine ⟨b,k,ms,cl,h1,h2,by simp,fun i e m he hm=>?_⟩
   rw [List.getElem?_map,Array.getElem?_toList,hm] at he
   cases he
   exact ⟨rfl,.sc _⟩
end
theorem Zek {α:Type} {p:α->Bool}:∀{l:List α} {m:Nat},m<=l.length->(∀(i:Nat) (v:α),i<m->l[i]?=some v->p v=true)->∀i,i<m->(l.takeWhile p)[i]?=l[i]?
 | [],m,hm,_,i,hi=>by simp at hm;omega
 | a :: l,m,hm,h,i,hi=>by
  rw [List.takeWhile_cons,if_pos (h 0 a (by omega) rfl)]
  cases i with
  | zero=>rfl
  | succ i=>simpa using Zek (l:=l) (m:=m-1) (by simp at hm;omega) (fun j v hj hv=>h (j+1) v (by omega) (by simpa using hv)) i (by omega)
theorem Zal {α:Type} {p:α->Bool}:∀{l:List α} (i:Nat) (v:α),(l.takeWhile p)[i]?=some v->p v=true/\l[i]?=some v
 | [],i,v,h=>by simp at h
 | a :: l,i,v,h=>by
  rw [List.takeWhile_cons] at h
  split at h
  ·rename_i ha
   cases i with
   | zero=>simp at h;subst h;exact ⟨ha,rfl⟩
   | succ i=>simpa using Zal (l:=l) i v (by simpa using h)
  ·simp at h
open Classical in
noncomputable def Y9 (W:Nat->Prop) (sz:Nat->Nat) (N V:Nat) (u:Value):PV :=
 match u with
 | .slice (some ⟨b,0,none⟩) n cap=>if W b/\0<n/\n<=cap/\n<=qV/\cap<=maxLen/\sz b % cap=0 then .sl (N+b) V (sz b / cap) 0 n else .sc u
 | u=>.sc u
theorem ZlY (W:Nat->Prop) (sz:Nat->Nat) (N V:Nat) (a:Option Addr) (cap:Nat):Y9 W sz N V (.slice a 0 cap)=.sc (.slice a 0 cap):=by
 unfold Y9
 split
 ·rename_i h;cases h;rw [if_neg (by omega)]
 ·rfl
theorem ZlZ {W:Nat->Prop} {sz:Nat->Nat} {N V b n cap:Nat} (h:W b/\0<n/\n<=cap/\n<=qV/\cap<=maxLen/\sz b % cap=0):Y9 W sz N V (.slice (some ⟨b,0,none⟩) n cap)=.sl (N+b) V (sz b / cap) 0 n:=by
 unfold Y9
 exact if_pos h
def Tl (T:Store) (lo hi sz:Nat) (A:PV->Prop) (p:PV):Prop :=
 (∃a cap,p=.sc (.slice a 0 cap))\/∃o v e n cs,p=.sl o v sz 0 n/\lo<=o/\o<hi/\T o=.cells v e cs/\n*sz<=cs.length/\n<=9223372036854775807/\∀i,i<n*sz->∃r,cs[i]?=some r/\A r
open Classical in
theorem Zel {C C':Ctx} {S:Store} {w w':World} {nx:Nat} (hd:zQ nx S) (hS:Sim C S w) (hS':Sim C' (jF C w S) w') (st:Step C (jF C w S) w C' (jF C w S) w') :
  ∃(C2:Ctx) (S2:Store) (N hi:Nat) (pv:Value->PV),Step C S w C2 S2 w'/\Sim C2 S2 w'/\nx<=N/\(∀o,o<N->S2 o=S o)/\zQ hi S2/\N<=hi/\(∀u,Rel C2 S2 w' (pv u) u)/\(∀k n,pv (.int k n)=.sc (.int k n)) /\
   ∀(sz n:Nat) (cs:List PV) (u:Value) (A:PV->Prop),Rel C' (jF C w S) w' (.nl w.heap.size sz n cs) u->(∀(i:Nat) (p:PV) (u':Value),cs[i]?=some p->Rel C' (jF C w S) w' p u'->A (pv u'))->Tl S2 N hi sz A (pv u):=by
 obtain ⟨W,hW⟩:∃W:Nat->Prop,W=fun b=>w.heap.size<=b/\(∃c e,w'.heap[b]?=some (.cells c e (0,0)))/\¬C'.M S b:=⟨_,rfl⟩
 obtain ⟨N,hN⟩:∃N,N=C'.next+nx:=⟨_,rfl⟩
 obtain ⟨V,hV⟩:∃V,V=C'.clock:=⟨_,rfl⟩
 obtain ⟨sz,hsz⟩:∃sz:Nat->Nat,sz=fun b=>match w'.heap[b]? with | some (.cells c _ _)=>c.size | _=>0:=⟨_,rfl⟩
 obtain ⟨pv,hpv⟩:∃pv,pv=Y9 W sz N V:=⟨_,rfl⟩
 obtain ⟨ob,hob⟩:∃ob:Nat->Ob,ob=fun b=>match w'.heap[b]? with | some (.cells c e _)=>.cells V e ((c.toList.takeWhile (·.oneCell')).map pv) | _=>.dead:=⟨_,rfl⟩
 obtain ⟨S2,hS2⟩:∃S2:Store,S2=fun o=>if o<N then S o else if W (o-N) then ob (o-N) else .dead:=⟨_,rfl⟩
 obtain ⟨C2,hC2⟩:∃C2:Ctx,C2=⟨fun o=>if o<N then C'.loc o else some (o-N,sz (o-N)),N+w'.heap.size,C'.clock+1⟩:=⟨_,rfl⟩
 have hold:∀o,o<N->S2 o=S o:=fun o h=>by rw [hS2];exact if_pos h
 have hnew:∀o,N<=o->S2 o=if W (o-N) then ob (o-N) else .dead:=fun o h=>by rw [hS2];exact if_neg (by omega)
 have hlo:∀o,o<N->C2.loc o=C'.loc o:=fun o h=>by rw [hC2];exact if_pos h
 have hln:∀o,N<=o->C2.loc o=some (o-N,sz (o-N)):=fun o h=>by rw [hC2];exact if_neg (by omega)
 have hWb:∀b,W b->∃c e,w'.heap[b]?=some (.cells c e (0,0))/\sz b=c.size/\ob b=.cells V e ((c.toList.takeWhile (·.oneCell')).map pv):=by
  intro b hb
  rw [hW] at hb
  obtain ⟨_,⟨c,e,h⟩,_⟩:=hb
  exact ⟨c,e,h,by rw [hsz];simp only [h],by rw [hob];simp only [h]⟩
 have hWl:∀b,W b->w.heap.size<=b/\¬C'.M S b:=fun b hb=>by rw [hW] at hb;exact ⟨hb.1,hb.2.2⟩
 have halive:∀o,N<=o->S2 o≠.dead->W (o-N):=fun o h1 h2=>by
  rw [hnew o h1] at h2
  by_cases h:W (o-N)
  ·exact h
  ·rw [if_neg h] at h2;exact absurd rfl h2
 have hnewW:∀b,W b->S2 (N+b)=ob b:=fun b hb=>by
  rw [hnew _ (by omega),show N+b-N=b by omega,if_pos hb]
 have hSN:∀o,S o≠.dead->o<N/\o<C'.next:=fun o ho=>by
  have:=hS'.lt o (fun h=>ho ((vK o).1 h))
  omega
 have hstep:Step C S w C2 S2 w':=by
  refine ⟨st.os,st.tape,st.output,st.size,?_,?_,?_,?_⟩
  ·have:=st.next;rw [hC2];show _<=N+_;omega
  ·have:=st.clock;rw [hC2];show _<=_+1;omega
  ·intro b hb hM
   obtain ⟨h1,h2⟩:=st.blocks b hb (fun h=>hM ((Zai C b).1 h))
   refine ⟨h1,?_⟩
   rintro ⟨o,k,ho,hl⟩
   by_cases hoN:o<N
   ·rw [hold o hoN] at ho
    rw [hlo o hoN] at hl
    exact h2 ⟨o,k,fun h=>ho ((vK o).1 h),hl⟩
   ·have hw:=(hWl _ (halive o (by omega) ho)).1
    rw [hln o (by omega)] at hl
    cases hl
    omega
  ·intro o v1 hv
   by_cases hoN:o<N
   ·rw [hold o hoN] at hv
    have:=st.vers o v1 (by rw [Jh];exact hv)
    rw [Jh] at this
    rw [hlo o hoN]
    exact this
   ·have:=st.next
    exact .inl (.inl (by omega))
 have hrelp:∀u,Rel C2 S2 w' (pv u) u:=by
  intro u
  rw [hpv]
  unfold Y9
  split
  ·rename_i b n cap
   split
   ·rename_i h
    obtain ⟨h1,h2,h3,h4,h5,h6⟩:=h
    obtain ⟨c,e,q1,q2,q3⟩:=hWb b h1
    have hlt:=yW q1
    refine .sl ⟨_,cap,rfl,h3,h4,h5,fun _=>⟨_,_,rfl⟩⟩ ⟨by rw [hC2];show N+b<N+_;omega,by rw [hC2,hV];show _<_+1;omega⟩ fun v0 hv0=>?_
    rw [hnewW b h1,q3] at hv0
    cases hv0
    refine ⟨Nat.le_refl _,fun _=>.inr ⟨b,sz b,_,cap,by rw [hln _ (by omega),show N+b-N=b by omega],rfl,fun _=>⟨rfl,Nat.mul_div_cancel' (Nat.dvd_of_mod_eq_zero h6)⟩,fun _=>rfl⟩⟩
   ·exact .sc _
  ·exact .sc _
 have hsim:Sim C2 S2 w':=by
  refine ⟨?_,?_,?_,?_,?_⟩
  ·intro o ho
   rw [hC2]
   show o<N+_
   by_cases hoN:o<N
   ·omega
   ·obtain ⟨c,e,q1,_,_⟩:=hWb _ (halive o (by omega) ho)
    have:=yW q1
    omega
  ·intro o v hv
   rw [hC2]
   show v<_+1
   by_cases hoN:o<N
   ·rw [hold o hoN] at hv
    have:=hS'.clk o v (by rw [Jh];exact hv)
    omega
   ·have hw:=halive o (by omega) (fun h=>by rw [h] at hv;cases hv)
    obtain ⟨c,e,_,_,q3⟩:=hWb _ hw
    rw [hnew o (by omega),if_pos hw,q3] at hv
    cases hv
    omega
  ·intro o o' b k k' ho ho' hl hl'
   by_cases h1:o<N
   ·rw [hlo o h1] at hl
    rw [hold o h1] at ho
    by_cases h2:o'<N
    ·rw [hlo o' h2] at hl'
     rw [hold o' h2] at ho'
     exact hS'.dist o o' b k k' (fun h=>ho ((vK o).1 h)) (fun h=>ho' ((vK o').1 h)) hl hl'
    ·rw [hln o' (by omega)] at hl'
     cases hl'
     exact absurd ⟨o,k,ho,hl⟩ (hWl _ (halive o' (by omega) ho')).2
   ·rw [hln o (by omega)] at hl
    by_cases h2:o'<N
    ·rw [hlo o' h2] at hl'
     rw [hold o' h2] at ho'
     cases hl
     exact absurd ⟨o',k',ho',hl'⟩ (hWl _ (halive o (by omega) ho)).2
    ·rw [hln o' (by omega)] at hl'
     cases hl
     injection hl' with hl'
     injection hl' with q1 q2
     omega
  ·intro o ver e cs hs
   by_cases hoN:o<N
   ·rw [hold o hoN] at hs
    rcases Zaj hS hs with ⟨h1,h2,h3⟩ | ⟨b,k,c,h1,h2,h3,h4,h5,h6,h7⟩
    ·subst h2
     rcases hS'.cells o ver e [] h3 with ⟨g1,_⟩ | ⟨b,k,c,g1,g2,g3,g4,g5,g6⟩
     ·exact .inl ⟨by rw [hlo o hoN];exact g1,rfl⟩
     ·exact .inr ⟨b,k,c,by rw [hlo o hoN];exact g1,g2,g3,g4,g5,fun i p u hp=>by simp at hp⟩
    ·have hl:((c.toList.take cs.length).map PV.sc).length=cs.length:=by simp;omega
     rcases hS'.cells o ver e _ h3 with ⟨g1,g2⟩ | ⟨b',k',c',g1,g2,g3,g4,g5,g6⟩
     ·have:cs=[]:=List.eq_nil_of_length_eq_zero (by rw [<-hl,g2];rfl)
      exact .inl ⟨by rw [hlo o hoN];exact g1,this⟩
     ·refine .inr ⟨b',k',c',by rw [hlo o hoN];exact g1,g2,g3,by rw [<-hl];exact g4,fun i v hi hv=>g5 i v (by rw [hl];exact hi) hv,fun i p u hp hu=>?_⟩
      have hi:i<cs.length:=(List.getElem?_eq_some_iff.1 hp).1
      obtain ⟨x,hx⟩:∃x,c[i]?=some x:=⟨c[i]'(by omega),Array.getElem?_eq_getElem (by omega)⟩
      have:=g6 i (.sc x) u (by rw [List.getElem?_map,List.getElem?_take,if_pos hi,Array.getElem?_toList,hx];rfl) hu
      cases this
      exact (h7 i p _ hp hx).mono hstep
   ·have hw:=halive o (by omega) (fun h=>by rw [h] at hs;cases hs)
    obtain ⟨c,e',q1,q2,q3⟩:=hWb _ hw
    rw [hnew o (by omega),if_pos hw,q3] at hs
    cases hs
    refine .inr ⟨o-N,sz (o-N),c,hln o (by omega),q1,q2.symm,?_,fun i v hi hv=>?_,fun i p u hp hu=>?_⟩
    ·rw [List.length_map,q2]
     exact Nat.le_trans (List.Sublist.length_le (List.takeWhile_sublist _)) (by simp)
    ·rw [List.length_map] at hi
     obtain ⟨x,hx⟩:∃x,(c.toList.takeWhile (·.oneCell'))[i]?=some x:=⟨_,List.getElem?_eq_getElem hi⟩
     obtain ⟨h1,h2⟩:=Zal i x hx
     rw [Array.getElem?_toList,hv] at h2
     cases h2
     exact h1
    ·rw [List.getElem?_map] at hp
     obtain ⟨x,hx,rfl⟩:=Option.map_eq_some_iff.1 hp
     obtain ⟨_,h2⟩:=Zal i x hx
     rw [Array.getElem?_toList,hu] at h2
     cases h2
     exact hrelp _
  ·intro o ver es hs
   by_cases hoN:o<N
   ·rw [hold o hoN] at hs
    obtain ⟨b,k,ms,cl,h1,h2,h3,h4,h5⟩:=Zak hS hs
    obtain ⟨b',k',ms',cl',g1,g2,g3,g4⟩:=hS'.maps o ver _ h3
    refine ⟨b',k',ms',cl',by rw [hlo o hoN];exact g1,g2,by rw [h4,<-g3];simp,fun i e m he hm=>?_⟩
    have hi:i<es.length:=(List.getElem?_eq_some_iff.1 he).1
    obtain ⟨m0,hm0⟩:∃m0,ms[i]?=some m0:=⟨ms[i]'(by omega),Array.getElem?_eq_getElem (by omega)⟩
    obtain ⟨r1,r2⟩:=g4 i (m0.key,.sc m0.val) m (by rw [List.getElem?_map,Array.getElem?_toList,hm0];rfl) hm
    obtain ⟨s1,s2⟩:=h5 i e m0 he hm0
    simp only at r1 r2
    generalize hmv:m.val=mv at r2
    cases r2
    exact ⟨r1.trans s1,s2.mono hstep⟩
   ·have hw:=halive o (by omega) (fun h=>by rw [h] at hs;cases hs)
    obtain ⟨c,e',_,_,q3⟩:=hWb _ hw
    rw [hnew o (by omega),if_pos hw,q3] at hs
    cases hs
 refine ⟨C2,S2,N,N+w'.heap.size,pv,hstep,hsim,by omega,hold,fun i hi=>?_,by omega,hrelp,fun k n=>by rw [hpv];rfl,?_⟩
 ·cases hs:S2 i with
  | dead=>rfl
  | _ =>
   have:=hsim.lt i (by rw [hs];simp)
   rw [hC2] at this
   have:i<N+w'.heap.size:=this
   omega
 ·intro s n cs u A hr hA
  cases hr with
  | nl0=>rw [hpv,ZlY];exact .inl ⟨_,_,rfl⟩
  | nl hn hb hM hl h1 h =>
   rename_i cap b c e
   have hw:W b:=by rw [hW];exact ⟨hl.1,⟨_,_,hb⟩,fun h=>hM ((Zai C' b).2 h)⟩
   obtain ⟨c',e',q1,q2,q3⟩:=hWb b hw
   rw [hb] at q1
   cases q1
   have hcp:0<cap:=by omega
   have hdiv:sz b / cap=s:=by rw [q2,<-hl.2.2];exact Nat.mul_div_cancel_left _ hcp
   have hmod:sz b % cap=0:=by rw [q2,<-hl.2.2];exact Nat.mul_mod_right _ _
   rw [hpv,ZlZ ⟨hw,hn.1,hn.2.1,hn.2.2.1,hn.2.2.2,hmod⟩,hdiv]
   have hlt:=yW hb
   have hmul:n*s<=cap*s:=Nat.mul_le_mul_right s hn.2.1
   have hget:∀i,i<n*s->(c.toList.takeWhile (·.oneCell'))[i]?=c.toList[i]?:=Zek (by simp;omega) (fun i v hi hv=>h1 i v (by omega) (by rw [<-Array.getElem?_toList];exact hv))
   refine .inr ⟨N+b,V,e,n,_,rfl,by omega,by omega,by rw [hnewW b hw,q3],?_,hn.2.2.1,fun i hi=>?_⟩
   ·rw [List.length_map]
    by_cases h0:n*s=0
    ·omega
    ·have:=hget (n*s-1) (by omega)
     rw [List.getElem?_eq_getElem (l:=c.toList) (by simp;omega)] at this
     have:=(List.getElem?_eq_some_iff.1 this).1
     omega
   ·have hci:i<c.size:=by omega
    obtain ⟨p,hp⟩:∃p,cs[i]?=some p:=⟨_,List.getElem?_eq_getElem (by omega)⟩
    exact ⟨pv c[i],by rw [List.getElem?_map,hget i hi,Array.getElem?_toList,Array.getElem?_eq_getElem hci];rfl,hA i p _ hp (h i p _ hp (Array.getElem?_eq_getElem hci))⟩
end Go.Proofs.YtcnbiofjmioaiaaGreat.Pv
