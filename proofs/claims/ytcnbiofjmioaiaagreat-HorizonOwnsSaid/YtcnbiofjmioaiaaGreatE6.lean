/- Part of a proof, packed. -/
import Derived.Test.YtcnbiofjmioaiaaGreatE5
set_option maxRecDepth 100000
set_option maxHeartbeats 3200000
namespace Go.Proofs.YtcnbiofjmioaiaaGreat.Pv
open Go Go.Lib Go.Proofs
theorem Zem {low:Nat} (l:List Stop) (hn:l.length<=1048576):NewC Tryz.prog low 105 [L l] (nT low l):=by
 by_cases h0:0<l.length
 ·exact ZlW 0 (fun S nx hd=>Xm l h0 hn S nx (hd nx (Nat.le_refl _))) (by simp)
 ·obtain rfl:l=[]:=List.eq_nil_of_length_eq_zero (by omega)
  intro S
  have h:=QX ([]:List Stop) (by simp) S
  refine ⟨h.1,fun C w vs hS _ hl hr=>(h.2 C w vs hS hl hr).mono ?_⟩
  rintro e w' ⟨p,v,S',C',rfl,⟨rfl,rfl⟩,h1,h2,h3⟩
  exact ⟨_,v,_,C',rfl,⟨rfl,rfl⟩,ZlX h1,h2,h3⟩
theorem Zen {low:Nat} (d:zj) (r:Rw5) (hdn:d.length<=1048576) (hdt:∀t∈d,t.length<=1000) (hr:wx d r):NewC Tryz.prog low 149 [.agg [L d],.agg (ye r)] (nT low (yu d r)):=by
 have hat:=fun k (h:k<5)=>Q6 r h
 have hz:yu d r=(r.l.take 5).flatMap (yv d):=by unfold yu;rw [List.take_of_length_le (by simp [Rw5.l])]
 rw [hz]
 clear hz
 have hcl:(ye r).length=20:=rfl
 have hct:(ye r).take 20=ye r:=rfl
 have hpl:=fun p=>Vz (d:=d) (p:=p) hdt
 have hgl:∀k,((r.l.take k).flatMap (yv d)).length<=1000*k:=by
  intro k
  induction k with
  | zero=>simp
  | succ k ih =>
   by_cases hk:k<5
   ·obtain ⟨p,-,-,e⟩:=hat k hk
    rw [e,List.flatMap_append,List.length_append]
    have:=hpl p
    simp only [List.flatMap_cons,List.flatMap_nil,List.append_nil];omega
   ·rw [List.take_of_length_le (by simp [Rw5.l];omega)] at ih ⊢;omega
 have hrl:r.l.length=5:=rfl
 generalize hrc:ye r=rc at *
 refine u7 Tryz.func149 Tryz.ntmps149 Tryz.results149 fun S nx hd=>?_
 refine za (zb ?_)
 intro v0 v1
 refine za (zb ?_)
 refine za (yT 5 35 2 rfl fun v2=>?_)
 refine za (ze [] (zn hcl hct) ?_)
 refine zi (zB (fun s':Nat × Nat=>s'.1<=5) (fun (k,v2)=>[(2,.ptr nx v0 0),(3,.ptr (nx+1) v1 0),(5,.sl (nx+2) v2 2 0 ((r.l.take k).flatMap (yv d)).length),(9,.agg rc),(10,I k)]) (fun (k,v2)=>[.cells v0 58 [L d],.cells v1 195 rc,.cells v2 35 (((r.l.take k).flatMap (yv d)).flatMap Enc.enc)]) (fun s'=>5-s'.1) (0,v2) [] (by simp) (by simp) (by simp) ?_)
 rintro ⟨k,v2⟩ hk
 simp only at hk ⊢
 by_cases hk5:k<5
 ·obtain ⟨p,hp1,hp2,hp3⟩:=hat k hk5
  have hk5':(k:Int)<5:=by omega
  have hk6:4<=20-k*4:=by omega
  have hok:=hr p (List.mem_of_getElem? hp1)
  have hol:=hgl k
  have hnx:(r.l.take (k+1)).flatMap (yv d)=(r.l.take k).flatMap (yv d)++yv d p:=by rw [hp3,List.flatMap_append];simp
  have hol2:=hpl p
  generalize (r.l.take k).flatMap (yv d)=out at *
  have wk:=zt k (by omega)
  refine za (ze [] hk5' ?_)
  refine za (zm rfl (zh (za (zi (za (ze [] (yD hp2 hk5 hk5' hcl hk6) ?_))))))
  intro v3
  by_cases hfo:p.f<p.o
  case neg =>
   have hpz:yv d p=[]:=by unfold yv;rw [if_neg hfo]
   have hfo':p.o<=p.f:=by omega
   repeat apply za
   refine ze [] hfo' ?_
   refine zm (by simp [hfo']) ?_
   refine zu (zb ?_)
   exact zq (k+1,v2) [_] (by simp;omega) (by simp;omega) (by simp [wk,hnx,hpz]) rfl (by simp [hnx,hpz];rfl)
  obtain ⟨ht,ho⟩:=hok hfo
  obtain ⟨t,tt,t1,-,-,t0⟩:=zC rfl d p.t ht
  have ht1:1<=d.length-p.t:=by omega
  have htg:d.getD p.t []=t:=by rw [List.getD_eq_getElem?_getD,t1];rfl
  unfold tlen at ho
  rw [htg] at ho
  have hpz:yv d p=bif p.b then ((t.drop p.f).take (p.o-p.f)).reverse else (t.drop p.f).take (p.o-p.f):=by unfold yv;rw [if_pos hfo,htg]
  have hfo':¬p.o<=p.f:=by omega
  have hsl:((t.flatMap Enc.enc:List PV).drop (p.f*2)).take ((p.o-p.f)*2)=((t.drop p.f).take (p.o-p.f)).flatMap Enc.enc:=by rw [ZX Enc.enc 2 (fun _=>rfl) t p.f,uK Enc.enc 2 (fun _=>rfl) (t.drop p.f) (p.o-p.f)]
  have hsl2:((t.drop p.f).take (p.o-p.f)).length=p.o-p.f:=by simp;omega
  have hsl3:(((t.drop p.f).take (p.o-p.f)).flatMap Enc.enc:List PV).length=(p.o-p.f)*2:=by rw [wd,hsl2]
  generalize (t.drop p.f).take (p.o-p.f)=sg at *
  have hof:(out.flatMap Enc.enc:List PV).length=out.length*2:=wd out
  have hot:(out.flatMap Enc.enc:List PV).take (out.length*2)=out.flatMap Enc.enc:=List.take_of_length_le (by omega)
  have q1:p.f<=p.o:=by omega
  have htl:=hdt t (List.mem_of_getElem? t1)
  repeat apply za
  refine ze [] hfo' ?_
  refine zo (by simp [hfo']) ?_
  refine zh (za (zb ?_))
  refine za (zF (some [nx,nx+3]) (Row.pures [0,1,2,3,4,5,6,7,8,9,10,11,12] (.alt 13 (Row.pures [14] .done) .stop)) mixed (zL t0 ht ht1 hof hot (zP hsl hsl2 q1 ho)) ?_)
  refine ⟨by omega,?_⟩
  have hsgl:sg.length<=1000:=by
   have h1:=hdt t (List.mem_of_getElem? t1)
   omega
  cases hpb:p.b with
  | false =>
   rw [hpb] at hpz
   simp only [cond_false] at hpz
   refine za (ze [] hpb ?_)
   refine zo rfl (zh (zb ?_))
   exact zq (k+1,v2+1) [_] (by simp;omega) (by simp;omega) (by simp [wk,hnx,hpz,hsl2]) rfl (by simp [hnx,hpz];rfl)
  | true =>
   rw [hpb] at hpz
   simp only [cond_true] at hpz
   have hrev:=fun (S:Store) (id ver:Nat) h=>Zdr (S:=S) (id:=id) (ver:=ver) out sg (by simp;omega) h
   rw [hsl2] at hrev
   refine za (ze [] hpb ?_)
   refine zm rfl (z8 [] (by rfl) (by rfl) fun K Gc Gh hK hGc hGh X hX0 hX=>?_)
   simp -implicitDefEqProofs [hX0,hX]
   try clear hX0 hX X
   refine hGc _ _ _ _ _ _ _ fun hsuf=>((hrev _ _ _ (by rw [yS,List.flatMap_append];rfl)).mono ?_).v
   rintro _ _ rfl
   refine ⟨_,_,qA _ (by omega) (by simp),?_⟩
   clear hGc hGh
   clear Gc Gh
   refine zW hsuf (D:=[]) (by rfl) fun Gc Gh hGc hGh X hX0 hX=>?_
   simp -implicitDefEqProofs [hX0,hX,(show nx+2-nx=2 by omega)]
   clear hX0 hX X
   refine hK _ _ _ ?_
   clear hK hGc hGh
   clear K Gc Gh
   refine zb ?_
   exact zq (k+1,v2+1) [_] (by simp;omega) (by simp;omega) (by simp [wk,hnx,hpz,hsl2]) rfl (by simp [hnx,hpz];rfl)
 ·obtain rfl:k=5:=by omega
  generalize (r.l.take 5).flatMap (yv d)=out at *
  refine za (zb ?_)
  refine za (zo rfl (zu (wR hd 2 rfl ?_)))
  refine za (zb ?_)
  exact zg (zk hd (by simp;rfl) (by simp [zp]))
theorem Zl0 {low:Nat} (x:Inst) (d:zj) (m:Mv) (hdn:d.length<=1000) (hdt:∀t∈d,t.length<=1000) (hm:jK d m=true) (hi:m.i<=1048576) (hj:m.j<=1048576):NewC Tryz.prog low 107 [.agg (zv x),.agg [L d],.agg (xV m)] (.tup [.agg [nD low (xl d m)],I 0]):=by
 obtain ⟨hk,ha,hb,r1,r2⟩:=Zu hm
 have hlk:=Xt d m (by omega) (fun t ht=>Nat.le_trans (hdt t ht) (by decide)) hk ha hb hi hj
 unfold vC at hlk
 rw [if_pos hm] at hlk
 have g1:=Zen (low:=low) d _ (by omega) hdt r1
 have g2:=Zen (low:=low) d _ (by omega) hdt r2
 have n1:=Xz (r:=(zZ d m).1) hdt
 have n2:=Xz (r:=(zZ d m).2) hdt
 have hmk:∀i,qD d m i=if i=m.a then yu d (zZ d m).1 else if i=m.b then yu d (zZ d m).2 else d.getD i []:=fun _=>rfl
 generalize yu d (zZ d m).1=t1 at *
 generalize yu d (zZ d m).2=t2 at *
 generalize (zZ d m).1=c1 at *
 generalize (zZ d m).2=c2 at *
 have hme:xl d m=(List.range d.length).filterMap (yI d m):=rfl
 rw [hme]
 clear hme
 refine u7 Tryz.func107 Tryz.ntmps107 Tryz.results107 fun S nx hd=>?_
 refine za (zb ?_)
 intro v0 v1 v2 v3
 refine za (zb ?_)
 refine zA hlk ?_
 intro v4 v5
 repeat apply za
 refine zb ?_
 refine zo rfl (zh (za (zb ?_)))
 intro v6
 refine y8 6 0 72 1 rfl rfl fun v7=>?_
 repeat apply za
 refine zb ?_
 refine zi (zB (fun s':Nat × Nat=>s'.1<=d.length) (fun (k,v7)=>[(4,.ptr (nx+1) v1 0),(5,.ptr (nx+2) v2 0),(6,.ptr (nx+3) v3 0),(8,.ptr (nx+4) v4 0),(9,.ptr (nx+5) v5 0),(11,.ptr (nx+6) v6 0),(26,L d),(27,I d.length),(28,I k)])
  (fun (k,v7)=>[.cells v0 25 (zv x),.cells v1 58 [L d],.cells v2 151 (xV m),.cells v3 58 [yy],.cells v4 195 (ye c1),.cells v5 195 (ye c2),.cells v6 58 [.sl (nx+7) v7 1 0 ((List.range k).filterMap (yI d m)).length],.cells v7 72 (((List.range k).filterMap (yI d m)).map (nT low))]) (fun s'=>d.length-s'.1) (0,v7) [] (by simp) (by simp) (by simp) ?_)
 rintro ⟨k,v7⟩ hk0
 simp only at hk0 ⊢
 refine za (zb ?_)
 refine za (zr rfl (fun hc=>?_) (fun hc=>?_))
 ·simp at hc
  obtain ⟨t,tl,a1,a2,a3,e0⟩:=zC rfl d k hc
  have hk1:1<=d.length-k:=by omega
  have htl:=hdt t (List.mem_of_getElem? a1)
  have hcl:=Zem (low:=low) t (by omega)
  have hgk:d.getD k []=t:=by rw [List.getD_eq_getElem?_getD,a1];rfl
  have hmkk:=hmk k
  have hlen:((List.range k).filterMap (yI d m)).length<=k:=by have:=List.length_filterMap_le (yI d m) (List.range k);simpa using this
  have hnext:(List.range (k+1)).filterMap (yI d m)=(List.range k).filterMap (yI d m)++(yI d m k).toList:=by
   rw [List.range_succ,List.filterMap_append]
   simp only [List.filterMap_cons,List.filterMap_nil]
   cases yI d m k<;>rfl
  have hT1:yI d m k=if (qD d m k).length=0 then none else some (qD d m k):=rfl
  rw [hgk] at hmkk
  have hTl:(qD d m k).length<=5000:=by rw [hmkk];(repeat' split)<;>omega
  have hof:(((List.range k).filterMap (yI d m)).map (nT low)).length=((List.range k).filterMap (yI d m)).length:=List.length_map _
  generalize (List.range k).filterMap (yI d m)=out at *
  have hot:(out.map (nT low)).take out.length=out.map (nT low):=List.take_of_length_le (by omega)
  have wk:=zt k (by omega)
  refine zh (za (zi (za (ze [] (zE e0 hc hk1) ?_))))
  intro v8
  refine za (zb ?_)
  refine vJ [] (hcl) trivial ?_
  repeat apply za
  refine zb ?_
  refine yk (nx:=nx) (fun _:Unit=>True) (fun _=>[(4,.ptr (nx+1) v1 0),(5,.ptr (nx+2) v2 0),(6,.ptr (nx+3) v3 0),(8,.ptr (nx+4) v4 0),(9,.ptr (nx+5) v5 0),(11,.ptr (nx+6) v6 0),(14,nT low (qD d m k)),(26,L d),(27,I d.length),(28,I k)]) (fun _=>S)
   (fun _=>[.cells v0 25 (zv x),.cells v1 58 [L d],.cells v2 151 (xV m),.cells v3 58 [yy],.cells v4 195 (ye c1),.cells v5 195 (ye c2),.cells v6 58 [.sl (nx+7) v7 1 0 out.length],.cells v7 72 (out.map (nT low)),.cells v8 72 [L t]]) ?_ ?_
  ·refine zi ?_
   by_cases h1:k=m.a
   ·rw [if_pos h1] at hmkk
    have h1':(k:Int)=m.a:=by omega
    rw [hmkk]
    refine za (zb ?_)
    refine zm (by simp;omega) ?_
    refine zb ?_
    refine vJ [] (g1) trivial ?_
    simp only [qz]
    exact zD () [] trivial (by simp) rfl (by simp)
   ·rw [if_neg h1] at hmkk
    have h1':¬(k:Int)=m.a:=by omega
    refine za (zb ?_)
    refine zo (by simp;omega) ?_
    by_cases h2:k=m.b
    ·rw [if_pos h2] at hmkk
     have h2':(k:Int)=m.b:=by omega
     rw [hmkk]
     refine za (zb ?_)
     refine zm (by simp;omega) ?_
     refine zb ?_
     refine vJ [] (g2) trivial ?_
     simp only [qz]
     exact zD () [] trivial (by simp) rfl (by simp)
    ·rw [if_neg h2] at hmkk
     have h2':¬(k:Int)=m.b:=by omega
     rw [hmkk]
     refine za (zb ?_)
     refine zo (by simp;omega) ?_
     refine zh ?_
     simp only [qz]
     exact zD () [] trivial (by simp) rfl (by simp)
  ·rintro ⟨⟩ -
   generalize qD d m k=tt at *
   clear hmkk hcl e0
   by_cases h0:tt.length=0
   ·have e:(yI d m k).toList=[]:=by rw [hT1,if_pos h0];rfl
    have h0':¬0<tt.length:=by omega
    refine za (ze [] h0' ?_)
    refine zo (by simp [h0']) ?_
    refine zh (zb ?_)
    exact zq (k+1,v7) [_] (by simp;omega) (by simp;omega) (by simp [wk,hnext,e]) rfl (by simp [hnext,e];rfl)
   ·have e:(yI d m k).toList=[tt]:=by rw [hT1,if_neg h0];rfl
    have h0':0<tt.length:=by omega
    refine za (ze [] h0' ?_)
    refine zm (by simp [h0']) ?_
    refine ze [] (zn hof hot) ?_
    refine ⟨by omega,?_⟩
    refine zb ?_
    exact zq (k+1,v7+1) [_] (by simp;omega) (by simp;omega) (by simp [wk,hnext,e]) rfl (by simp [hnext,e];rfl)
 ·simp at hc
  obtain rfl:k=d.length:=by omega
  refine zu (wR hd 7 rfl ?_)
  refine za (zb ?_)
  exact zg (zk hd (by simp;rfl) (by simp [zp]))
open Go Go.Proofs Hp
def vM (c:Int) (p:zJ):zJ:=p.map (qj c)
theorem Zeo (p:zJ) (c:Int) (hp:p.length<=1000) (hd0:∀d∈p,d.length<=1048576) (ht:∀d∈p,∀t∈d,t.length<=1048576):Pure Tryz.prog 23 [.agg [L p],I c] (.agg [L (vM c p)]):=by
 unfold vM
 refine zz Tryz.func23 Tryz.ntmps23 Tryz.results23 fun S nx hd=>?_
 refine za (zb ?_)
 intro v0 v1
 refine za (zb ?_)
 intro v2
 refine y8 2 0 58 1 rfl rfl fun v3=>?_
 repeat apply za
 refine zb ?_
 refine zi (zB (fun s:Nat × zJ × Nat=>s.1<=p.length/\s.2.1=(p.take s.1).map (qj c)) (fun (k,q,w)=>[(1,I c),(4,.ptr (nx+1) v1 0),(5,.ptr (nx+2) v2 0),(11,L p),(12,I p.length),(13,I k)]) (fun (k,q,w)=>[.cells v0 38 [L p],.cells v1 38 [yy],.cells v2 38 [.sl (nx+3) w 1 0 q.length],.cells w 58 (q.flatMap Enc.enc)]) (fun s=>p.length-s.1) (0,[],v3) [] (by simp) (by simp) (by simp) ?_)
 rintro ⟨k,q,w⟩ ⟨hk,hq⟩
 simp only at hk hq ⊢
 have hql:q.length=k:=by rw [hq];simp;omega
 refine za (zb ?_)
 refine za (zr rfl (fun hc=>?_) (fun hc=>?_))
 ·simp at hc
  obtain ⟨d,tl,a1,a2,a3,e0⟩:=zC rfl p k hc
  have hdm:=List.mem_of_getElem? a1
  have hr:=ZjR d c (hd0 d hdm) (ht d hdm)
  generalize hrd:qj c d=rd at hr
  have hk1:1<=p.length-k:=by omega
  have hqf:(q.flatMap Enc.enc:List PV).length=q.length:=jg q
  have hqt:(q.flatMap Enc.enc:List PV).take q.length=q.flatMap Enc.enc:=List.take_of_length_le (by omega)
  refine zh (za (zi (za (ze [] (zE hc e0 hk1) ?_))))
  intro v4
  refine za (zb ?_)
  refine zA hr ?_
  intro v5
  refine ze [] (zn hqf hqt) ?_
  refine ⟨by omega,?_⟩
  refine zb ?_
  exact zq (k+1,q++[rd],w+1) [_,_] ⟨hc,by rw [a3,List.map_append,hq,<-hrd];rfl⟩ (by simp;omega) (by simp [zt k (by omega)]) rfl (by simp;exact ⟨rfl,rfl⟩)
 ·simp at hc
  obtain rfl:k=p.length:=by omega
  rw [List.take_length] at hq
  refine zu (zX 3 rfl ?_)
  refine za (zb ?_)
  exact zg (zk hd (by simp;rfl) (by simp [zp,hq]))
open Go
def Qa (x:Inst) (p:zJ) (i:Nat):Int :=
 match x.cust[i]? with
 | none=>0
 | some c=>if c.kind=2 then uY c (yF c (yx (yC i (told 0 p)) x.days)).1 else 0
def wS (x:Inst) (p:zJ) (k:Nat):Int:=((List.range k).map (Qa x p)).sum
theorem Zl1 (x:Inst) (p:zJ) (k:Nat):wS x p (k+1)=wS x p k+Qa x p k:=by simp [wS,List.range_succ]
theorem Zep (c:Cust) (q:List Int) (hq:q.length<=1048576):(yF c q).1.length<=1048576:=by
 unfold yF
 split
 ·simp
 ·cases h:qk c.size c.rate c.start q with
  | none=>simp
  | some l=>simp [V2 h];exact hq
theorem XI (v:List Visit) (n:Int):(yx v n).length<=1048576:=by rw [XB];omega
theorem Zl2 (x:Inst) (p:zJ) (h:Serves x p) (hx:x.cust.length<=1048576) (hf:∀c∈x.cust,CustFits c):Pure Tryz.prog 122 [.agg (zv x),.agg [L p]] (I (W (wS x p x.cust.length))):=by
 refine zz Tryz.func122 Tryz.ntmps122 Tryz.results122 fun S nx hd=>?_
 refine za (zb ?_)
 intro v0 v1
 refine za (zb ?_)
 repeat apply za
 refine zb ?_
 refine zi (zB (fun s:Nat=>s<=x.cust.length) (fun k=>[(2,.ptr nx v0 0),(3,.ptr (nx+1) v1 0),(5,I (W (wS x p k))),(11,L x.cust),(12,I x.cust.length),(13,I k)]) (fun _=>[.cells v0 25 (zv x),.cells v1 38 [L p]]) (fun s=>x.cust.length-s) 0 [] (by simp) (by simp [wS]) (by simp) ?_)
 rintro k hk
 refine za (zb ?_)
 refine za (zr rfl (fun hc=>?_) (fun hc=>?_))
 ·simp at hc
  obtain ⟨c,tl,a1,a2,a3,_,e0⟩:=el 8 rfl x.cust k hc
  have hfc:=hf c (List.mem_of_getElem? a1)
  have hs:=Zl1 x p k
  refine zh (za (zi (za (ze [] (zn hc e0) ?_))))
  intro v2
  refine za (zb ?_)
  by_cases hk2:c.kind=2
  ·have hb:=Zlw x p k h
   have hn:=VW c (yx (yC k (told 0 p)) x.days) hfc (XI _ _)
   have hh:=VX c (yF c (yx (yC k (told 0 p)) x.days)).1 (Zep _ _ (XI _ _))
   have hC:Qa x p k=uY c (yF c (yx (yC k (told 0 p)) x.days)).1:=by simp only [Qa,a1,if_pos hk2]
   rw [hC] at hs
   generalize uY c (yF c (yx (yC k (told 0 p)) x.days)).1=z at *
   generalize yF c (yx (yC k (told 0 p)) x.days)=ne at *
   generalize yx (yC k (told 0 p)) x.days=q at *
   obtain ⟨ns,er⟩:=ne
   simp only at hn hh
   refine zm (by simp [hk2]) ?_
   refine za (zF (some [nx,nx+1,nx+2]) (Row.pures [0,1,2,3,4,5,6,7,8,9,10,11] .done) mixed trivial ?_)
   refine zN (hb) trivial ?_
   refine zN (hn) trivial ?_
   refine zb ?_
   refine zA hh ?_
   have hw:W (W (wS x p k)+z)=W (wS x p (k+1)):=by rw [hs,xO]
   refine zb ?_
   exact zq (k+1) [_] hc (by omega) (by simp [zt k (by omega)];exact hw) rfl rfl
  ·have hC:Qa x p k=0:=by simp only [Qa,a1,if_neg hk2]
   rw [hC,Int.add_zero] at hs
   refine zo (by simp [hk2]) ?_
   refine zh (zb ?_)
   exact zq (k+1) [_] hc (by omega) (by simp [zt k (by omega),hs]) rfl rfl
 ·simp at hc
  obtain rfl:k=x.cust.length:=by omega
  refine zu (za (zb ?_))
  exact zg (zk hd (by simp;rfl) rfl)
def wz (x:Inst) (p:zJ):List Int:=p.map fun d=>W (yi x d)
theorem Zl3 (x:Inst) (p:zJ) (hp:p.length<=1048576) (hd':∀d∈p,DayOk d) (S:Store) (nx:Nat) (hd:zQ nx S) :
  Spec Tryz.prog 123 [.agg (zv x),.agg [L p]] S (fun q S'=>∃v,q=.sl (nx+2) v 1 0 p.length/\S'=S.set (nx+2) (.cells v 3 ((wz x p).flatMap Enc.enc))):=by
 refine uc hd Tryz.func123 Tryz.ntmps123 Tryz.results123 ?_
 refine za (zb ?_)
 intro v0 v1
 refine za (zb ?_)
 refine za (yT 5 3 1 rfl fun v2=>?_)
 refine za (zb ?_)
 refine zi (zB (fun s:Nat × List Int × Nat=>s.1<=p.length/\s.2.1=wz x (p.take s.1)) (fun (k,out,v2)=>[(2,.ptr nx v0 0),(3,.ptr (nx+1) v1 0),(5,.sl (nx+2) v2 1 0 out.length),(9,L p),(10,I p.length),(11,I k)]) (fun (k,out,v2)=>[.cells v0 25 (zv x),.cells v1 38 [L p],.cells v2 3 (out.flatMap Enc.enc)]) (fun s=>p.length-s.1) (0,[],v2) [] (by simp [wz]) (by simp) (by simp) ?_)
 rintro ⟨k,out,v2⟩ ⟨hk,ho⟩
 simp only at hk ho ⊢
 have hol:out.length=k:=by rw [ho];simp [wz];omega
 refine za (zb ?_)
 refine za (zr rfl (fun hc=>?_) (fun hc=>?_))
 ·simp at hc
  obtain ⟨d,tl,a1,a2,a3,e0⟩:=zC rfl p k hc
  refine zh (za (zi (za (ze [] (zn hc e0) ?_))))
  intro v3
  refine zb ?_
  refine zA (YM x d (hd' d (List.mem_of_getElem? a1))) ?_
  refine ⟨by omega,?_⟩
  refine zb ?_
  exact zq (k+1,out++[W (yi x d)],v2+1) [_] ⟨hc,by rw [a3,ho];simp [wz]⟩ (by simp;omega) (by simp [zt k (by omega)]) rfl (by simp;rfl)
 ·simp at hc
  obtain rfl:k=p.length:=by omega
  rw [List.take_length] at ho
  refine zu (za (zb ?_))
  refine zg ⟨_,_,rfl,⟨v2,by simp [zp,hol],rfl⟩,ZY (j:=2) hd (by simp [ho])⟩
theorem Zl4 (x:Inst) (p:zJ) (hp:p.length<=1048576) (hd':∀d∈p,DayOk d):Pure Tryz.prog 123 [.agg (zv x),.agg [L p]] (L (wz x p)):=by
 have hl:(wz x p).length=p.length:=by simp [wz]
 have:=J3 2 (fun S nx hd=>Zl3 x p hp hd' S nx hd) (by rw [qY,hl];omega)
 rw [<-hl] at this
 exact this
def ut (x:Inst) (p:zJ):Int:=W (wS x p x.cust.length+(p.map (yi x)).sum)
theorem Zl5 (a:Int) (l:List Int):W (a+(l.map W).sum)=W (a+l.sum):=by
 induction l generalizing a with
 | nil=>rfl
 | cons b l ih =>
  simp only [List.map_cons,List.sum_cons]
  have e1:a+(W b+(l.map W).sum)=(a+W b)+(l.map W).sum:=by omega
  rw [e1,ih,show a+W b+l.sum=(a+l.sum)+W b by omega,Wy,show a+l.sum+b=a+(b+l.sum) by omega]
theorem Zl6 (x:Inst) (p:zJ):W (W (wS x p x.cust.length)+(wz x p).sum)=ut x p:=by
 have:wz x p=(p.map (yi x)).map W:=by simp [wz]
 rw [this,xO,Zl5,ut]
theorem Zl7 (x:Inst) (p:zJ) (h:Serves x p) (hx:x.cust.length<=1048576) (hf:∀c∈x.cust,CustFits c) (hd':∀d∈p,DayOk d):Pure Tryz.prog 84 [.agg (zv x),.agg [L p]] (I (ut x p)):=by
 have hres:=Zl6 x p
 have hl:(wz x p).length=p.length:=by simp [wz]
 have hpn:=h.sz.n
 have hdy:=Zl4 x p hpn hd'
 rw [<-hres]
 generalize wz x p=ds at hl hdy
 refine zz Tryz.func84 Tryz.ntmps84 Tryz.results84 fun S nx hd=>?_
 refine za (zb ?_)
 intro v0 v1
 refine za (zb ?_)
 refine zA (Zl2 x p h hx hf) ?_
 repeat apply za
 refine zb ?_
 refine zA hdy ?_
 refine zi (zB (fun s:Nat=>s<=ds.length) (fun k=>[(5,I (W (W (wS x p x.cust.length)+(ds.take k).sum))),(13,L ds),(14,I ds.length),(15,I k)]) (fun _=>[]) (fun s=>ds.length-s) 0 [_,_] (by simp) (by simp [W_W]) rfl ?_)
 rintro k hk
 refine za (zb ?_)
 refine za (zr rfl (fun hc=>?_) (fun hc=>?_))
 ·simp at hc
  obtain ⟨z,tl,a1,a2,a3,e0⟩:=zC rfl ds k hc
  have hw:W (W (W (wS x p x.cust.length)+(ds.take k).sum)+z)=W (W (wS x p x.cust.length)+(ds.take (k+1)).sum):=by rw [a3,Y5,xO];congr 1;omega
  refine zh (za (zi (za (ze [] (zn hc e0) ?_))))
  refine zb ?_
  refine zb ?_
  exact zq (k+1) [] hc (by omega) (by simp [zt k (by omega)];exact hw) rfl (by simp)
 ·simp at hc
  obtain rfl:k=ds.length:=by omega
  rw [List.take_length]
  refine zu (za (zb ?_))
  exact zg (zk hd (by simp;rfl) rfl)
open Go
def Qs (q:List Int):Prop:=∀z∈q,0<=z/\z<=2147483648
structure GoodV (n:Nat) (v:List Visit):Prop where
 len:v.length<=64
 ok:∀s∈v,(0<=s.d/\s.d<n)/\1<=s.q/\s.q<=2147483648
 nd:(v.map (·.d)).Nodup
theorem Zeq (c:Cust) (there cap:Int) (hs:0<=c.size/\c.size<=2147483648) (ht:0<=there/\there<=4611686018427387904) (hc:cap<=2147483648) :
  RSpec Tryz.prog 157 [.agg (zM c),I there,I cap] (fun p=>∃q,p=I q/\0<=q/\q<=2147483648):=by
 have w1:IntKind.i64.wrap (c.size-there)=c.size-there:=wr _ (by omega) (by omega)
 refine uO Tryz.func157 Tryz.ntmps157 Tryz.results157 fun S nx hd=>?_
 refine za (zb ?_)
 intro v0
 refine za (ze [] w1 ?_)
 repeat apply za
 refine zb ?_
 refine yk (nx:=nx) (σ:=Int) (fun r=>0<=r/\r<=2147483648) (fun r=>[(2,I cap),(3,.ptr nx v0 0),(7,I r)]) (fun _=>S) (fun _=>[.cells v0 65 (zM c)]) ?_ ?_
 ·by_cases h:c.size-there<0
  ·repeat apply za
   refine zm (by simp;omega) ?_
   refine zb ?_
   exact zD 0 [] (by omega) (by simp) rfl (by simp)
  ·repeat apply za
   refine zo (by simp;omega) ?_
   exact zh (zD (c.size-there) [] (by omega) (by simp) rfl (by simp))
 intro r hr
 repeat apply za
 refine zb ?_
 refine yk (nx:=nx) (σ:=Int) (fun k=>0<=k/\k<=2147483648) (fun k=>[(2,I k),(3,.ptr nx v0 0),(7,I r)]) (fun _=>S) (fun _=>[.cells v0 65 (zM c)]) ?_ ?_
 ·by_cases h:cap<0
  ·repeat apply za
   refine zm (by simp [h]) ?_
   refine zb ?_
   exact zD 0 [] (by omega) (by simp) rfl (by simp)
  ·repeat apply za
   refine zo (by simp;omega) ?_
   exact zh (zD cap [] (by omega) (by simp) rfl (by simp))
 intro k hk
 repeat apply za
 refine zb ?_
 refine zr rfl (fun h1=>?_) (fun h1=>?_)
 ·refine za (zb ?_)
  exact zg ⟨_,S,(by simp;rfl),⟨⟨r,by simp [zp],hr⟩,rfl⟩,zU hd⟩
 ·refine zh ?_
  repeat apply za
  refine zb ?_
  refine zr rfl (fun h2=>?_) (fun h2=>?_)
  ·refine za (zb ?_)
   exact zg ⟨_,S,(by simp;rfl),⟨⟨0,by simp [zp],by omega⟩,rfl⟩,zU hd⟩
  ·refine zh (za (zb ?_))
   exact zg ⟨_,S,(by simp;rfl),⟨⟨k,by simp [zp],hk⟩,rfl⟩,zU hd⟩
theorem Zer (c:Cust) (n:Nat) (cap:Int) (late:Bool) (hc:CustFits c) (hn:n<=64) (hcap:cap<=2147483648) :
  RSpec Tryz.prog 115 [.agg (zM c),I n,I cap,B late] (fun p=>∃q b,p=.tup [L q,B b]/\q.length=n/\Qs q):=by
 have hr:=hc.rate
 have hst:=hc.start
 refine uO Tryz.func115 Tryz.ntmps115 Tryz.results115 fun S nx hd=>?_
 refine za (zb ?_)
 intro v0
 refine za (zb ?_)
 refine za (yT 10 3 1 rfl fun v1=>?_)
 refine zb ?_
 repeat apply za
 refine zb ?_
 refine zi (zB (fun s:Nat × Int × List Int × Nat=>s.1<=n/\(-4294967296*(s.1+1:Int)<=s.2.1/\s.2.1<=4294967296*(s.1+1:Int))/\s.2.2.1.length=s.1/\Qs s.2.2.1) (fun (k,there,out,v1)=>[(1,I n),(2,I cap),(3,B late),(4,.ptr nx v0 0),(10,.sl (nx+1) v1 1 0 out.length),(11,I there),(12,I k)]) (fun (k,there,out,v1)=>[.cells v0 65 (zM c),.cells v1 3 (out.flatMap Enc.enc)]) (fun s=>n-s.1) (0,c.start,[],v1) [] ⟨by simp,by dsimp only;omega,rfl,by intro z hz;cases hz⟩ (by simp) (by simp) ?_)
 rintro ⟨k,there,out,v1⟩ ⟨hk,hth,hol,hq⟩
 simp only at hk hth hol hq ⊢
 repeat apply za
 refine zb ?_
 refine zr rfl (fun hc1=>?_) (fun hc1=>?_)
 ·simp at hc1
  refine zh (za (zi (za (zb ?_))))
  repeat apply za
  refine yk (nx:=nx) (σ:=Bool × Nat) (fun _=>True) (fun (t,v1)=>[(1,I n),(2,I cap),(3,B late),(4,.ptr nx v0 0),(10,.sl (nx+1) v1 1 0 out.length),(11,I there),(12,I k),(13,I 0),(29,B t)]) (fun _=>S) (fun (t,v1)=>[.cells v0 65 (zM c),.cells v1 3 (out.flatMap Enc.enc)]) ?_ ?_
  ·cases late with
   | true =>
    by_cases h:there<c.rate
    ·repeat apply za
     refine ze [(2,24)] h ?_
     exact zD (true,v1) [] trivial (by simp) rfl (by simp)
    ·repeat apply za
     refine ze [(2,24)] h ?_
     exact zD (false,v1) [] trivial (by simp) rfl (by simp)
   | false =>
    refine ze [(2,24)] zx ?_
    exact zD (true,v1) [] trivial (by simp) rfl (by simp)
  rintro ⟨t,v1⟩ -
  simp only
  refine yk (nx:=nx) (σ:=Int × Nat) (fun z=>0<=z.1/\z.1<=2147483648) (fun (z,v1)=>[(1,I n),(2,I cap),(3,B late),(4,.ptr nx v0 0),(10,.sl (nx+1) v1 1 0 out.length),(11,I there),(12,I k),(13,I z)]) (fun _=>S) (fun (z,v1)=>[.cells v0 65 (zM c),.cells v1 3 (out.flatMap Enc.enc)]) ?_ ?_
  ·cases t with
   | true =>
    refine zm rfl (za (zb ?_))
    repeat apply za
    refine zb ?_
    by_cases h0:there<0
    ·repeat apply za
     refine zm (by simp [h0]) ?_
     refine zb ?_
     refine z8 [] (by rfl) (by rfl) fun K Gc Gh hK hGc hGh X hX0 hX=>?_
     simp -implicitDefEqProofs [hX0,hX]
     try clear hX0 hX X
     refine hGc _ _ _ _ _ _ _ fun hsuf=>((Zeq c 0 cap hc.size (by omega) hcap _).mono ?_).v
     rintro _ _ ⟨⟨q,rfl,h1,h2⟩,rfl⟩
     refine ⟨_,_,rfl,?_⟩
     clear hGc hGh
     clear Gc Gh
     refine zW hsuf (D:=[]) (by rfl) fun Gc Gh hGc hGh X hX0 hX=>?_
     simp -implicitDefEqProofs [hX0,hX]
     try clear hX0 hX X
     refine hK _ _ _ ?_
     clear hK hGc hGh
     clear K Gc Gh
     exact zD (q,v1) [] ⟨h1,h2⟩ (by simp) rfl (by simp)
    ·repeat apply za
     refine zo (by simp;omega) ?_
     refine zh (z8 [] (by rfl) (by rfl) fun K Gc Gh hK hGc hGh X hX0 hX=>?_)
     simp -implicitDefEqProofs [hX0,hX]
     try clear hX0 hX X
     refine hGc _ _ _ _ _ _ _ fun hsuf=>((Zeq c there cap hc.size (by omega) hcap _).mono ?_).v
     rintro _ _ ⟨⟨q,rfl,h1,h2⟩,rfl⟩
     refine ⟨_,_,rfl,?_⟩
     clear hGc hGh
     clear Gc Gh
     refine zW hsuf (D:=[]) (by rfl) fun Gc Gh hGc hGh X hX0 hX=>?_
     simp -implicitDefEqProofs [hX0,hX]
     try clear hX0 hX X
     refine hK _ _ _ ?_
     clear hK hGc hGh
     clear K Gc Gh
     exact zD (q,v1) [] ⟨h1,h2⟩ (by simp) rfl (by simp)
   | false =>
    exact zo rfl (zh (zD (0,v1) [] (by simp) (by simp) rfl (by simp)))
  ·rintro ⟨z,v1⟩ hz
   simp only at hz ⊢
   have w1:IntKind.i64.wrap (there+z)=there+z:=wr _ (by omega) (by omega)
   have w2:IntKind.i64.wrap (there+z-c.rate)=there+z-c.rate:=wr _ (by omega) (by omega)
   refine za (zb ?_)
   refine ⟨by omega,?_⟩
   refine ze [] (zn w1 w2) ?_
   refine zb ?_
   exact zq (k+1,there+z-c.rate,out++[z],v1+1) [] ⟨by omega,by dsimp only;omega,by simp [hol],fun y hy=>by rcases List.mem_append.1 hy with h | h;exact hq y h;rw [List.mem_singleton.1 h];exact hz⟩ (by simp;omega) (by simp [zt k (by omega)]) rfl (by simp)
 ·simp at hc1
  obtain rfl:k=n:=by omega
  refine zu (zX 1 rfl ?_)
  refine za (zb ?_)
  refine zA (V3 c out hc (by omega)) ?_
  exact zg ⟨_,S,(by simp;rfl),⟨⟨out,_,by simp [zp];rfl,hol,hq⟩,rfl⟩,zU hd⟩
theorem Zl8 (c:Cust) (n:Nat) (cap:Int) (set:Nat) (hc:CustFits c) (hn:n<=64) (hcap:cap<=2147483648) (hset:set<2 ^ 64) :
  RSpec Tryz.prog 117 [.agg (zM c),I n,I cap,U set] (fun p=>∃q b,p=.tup [L q,B b]/\q.length<=n/\Qs q):=by
 have hr:=hc.rate
 have hst:=hc.start
 have hsz:=hc.size
 refine uO Tryz.func117 Tryz.ntmps117 Tryz.results117 fun S nx hd=>?_
 refine za (zb ?_)
 intro v0
 refine za (zb ?_)
 refine za (yT 10 3 1 rfl fun v1=>?_)
 refine zb ?_
 repeat apply za
 refine zb ?_
 refine zi (zB (fun s:Nat × Int × List Int × Nat=>s.1<=n/\(-4294967296*(s.1+1:Int)<=s.2.1/\s.2.1<=4294967296*(s.1+1:Int))/\s.2.2.1.length=s.1/\Qs s.2.2.1) (fun (k,there,out,v1)=>[(1,I n),(2,I cap),(3,U set),(4,.ptr nx v0 0),(10,.sl (nx+1) v1 1 0 out.length),(11,I there),(12,I k)]) (fun (k,there,out,v1)=>[.cells v0 65 (zM c),.cells v1 3 (out.flatMap Enc.enc)]) (fun s=>n-s.1) (0,c.start,[],v1) [] ⟨by simp,by dsimp only;omega,rfl,by intro z hz;cases hz⟩ (by simp) (by simp) ?_)
 rintro ⟨k,there,out,v1⟩ ⟨hk,hth,hol,hq⟩
 simp only at hk hth hol hq ⊢
 repeat apply za
 refine zb ?_
 refine zr rfl (fun hc1=>?_) (fun hc1=>?_)
 ·simp at hc1
  refine zh (za (zi (za (zb ?_))))
  repeat apply za
  refine zb ?_
  refine zA (ZbM set k hset (by omega) (by omega)) ?_
  refine yk (nx:=nx) (σ:=Int × Nat) (fun z=>0<=z.1/\z.1<=2147483648) (fun (z,v1)=>[(1,I n),(2,I cap),(3,U set),(4,.ptr nx v0 0),(10,.sl (nx+1) v1 1 0 out.length),(11,I there),(12,I k),(13,I z)]) (fun _=>S) (fun (z,v1)=>[.cells v0 65 (zM c),.cells v1 3 (out.flatMap Enc.enc)]) ?_ ?_
  ·repeat apply za
   refine zr rfl (fun hb=>?_) (fun hb=>?_)
   ·have w1:IntKind.i64.wrap (c.size-there)=c.size-there:=wr _ (by omega) (by omega)
    refine za (ze [] w1 ?_)
    by_cases h1:c.size-there<1
    ·refine za (ze [(2,30)] (zn h1 zx) ?_)
     refine zm rfl (za (zb ?_))
     refine xz 8 rfl ?_
     exact zg ⟨_,S,(by simp;rfl),⟨⟨[],false,by simp [zp],by simp,by intro z hz;cases hz⟩,rfl⟩,zU hd⟩
    by_cases h2:cap<c.size-there
    ·refine za (ze [(2,30)] (zn h1 h2) ?_)
     refine zm rfl (za (zb ?_))
     refine xz 8 rfl ?_
     exact zg ⟨_,S,(by simp;rfl),⟨⟨[],false,by simp [zp],by simp,by intro z hz;cases hz⟩,rfl⟩,zU hd⟩
    refine za (ze [(2,30)] (zn h1 h2) ?_)
    exact zo rfl (zh (zD (c.size-there,v1) [] (by dsimp only;omega) (by simp) rfl (by simp)))
   ·exact zh (zD (0,v1) [] (by simp) (by simp) rfl (by simp))
  ·rintro ⟨z,v1⟩ hz
   simp only at hz ⊢
   have w1:IntKind.i64.wrap (there+z)=there+z:=wr _ (by omega) (by omega)
   have w2:IntKind.i64.wrap (there+z-c.rate)=there+z-c.rate:=wr _ (by omega) (by omega)
   refine za (zb ?_)
   refine ⟨by omega,?_⟩
   refine ze [] (zn w1 w2) ?_
   refine zb ?_
   exact zq (k+1,there+z-c.rate,out++[z],v1+1) [] ⟨by omega,by dsimp only;omega,by simp [hol],fun y hy=>by rcases List.mem_append.1 hy with h | h;exact hq y h;rw [List.mem_singleton.1 h];exact hz⟩ (by simp;omega) (by simp [zt k (by omega)]) rfl (by simp)
 ·simp at hc1
  obtain rfl:k=n:=by omega
  refine zu (zX 1 rfl ?_)
  refine za (zb ?_)
  refine zA (V3 c out hc (by omega)) ?_
  exact zg ⟨_,S,(by simp;rfl),⟨⟨out,_,by simp [zp];rfl,by omega,hq⟩,rfl⟩,zU hd⟩
def yt:Nat->List Int->List Visit
 | _,[]=>[]
 | i,z :: l=>if 0<z then ⟨i,z⟩ :: yt (i+1) l else yt (i+1) l
theorem XJ:∀(l:List Int) (i:Nat),(yt i l).length<=l.length
 | [],_=>by simp [yt]
 | z :: l,i=>by
  have:=XJ l (i+1)
  simp only [yt];split<;>simp<;>omega
theorem XK:∀(l:List Int) (i:Nat),Qs l->∀s∈yt i l,((i:Int)<=s.d/\s.d<(i+l.length:Nat))/\1<=s.q/\s.q<=2147483648
 | [],_,_=>by intro s hs;cases hs
 | z :: l,i,h=>by
  have ih:=XK l (i+1) fun x hx=>h x (by simp [hx])
  have hz:=h z (by simp)
  intro s hs
  simp only [yt] at hs
  split at hs
  ·rcases List.mem_cons.1 hs with rfl | hs
   ·simp only [List.length_cons];omega
   ·have:=ih s hs;simp only [List.length_cons];omega
  ·have:=ih s hs;simp only [List.length_cons];omega
theorem Zes:∀(l:List Int) (i:Nat),∀s∈yt i l,(i:Int)<=s.d
 | [],_=>by intro s hs;cases hs
 | z :: l,i=>by
  have ih:=Zes l (i+1)
  intro s hs
  simp only [yt] at hs
  split at hs
  ·rcases List.mem_cons.1 hs with rfl | hs
   ·exact Int.le_refl _
   ·have:=ih s hs;omega
  ·have:=ih s hs;omega
theorem Zet:∀(l:List Int) (i:Nat),((yt i l).map (·.d)).Nodup
 | [],_=>by simp [yt]
 | z :: l,i=>by
  have ih:=Zet l (i+1)
  simp only [yt]
  split
  ·rw [List.map_cons,List.nodup_cons]
   refine ⟨fun h=>?_,ih⟩
   obtain ⟨s,hs,e⟩:=List.mem_map.1 h
   have:=Zes l (i+1) s hs
   simp only at e;omega
  ·exact ih
theorem Zeu (n a k:Nat):(yq n a k).Nodup:=by
 unfold yq
 refine List.Pairwise.map _ (fun x y (h:x≠y)=>?_) (List.Pairwise.filter _ List.nodup_range)
 intro e;apply h;omega
theorem Ji {q:List Int} {n:Nat} (hq:Qs q) (hl:q.length<=n) (hn:n<=64):GoodV n (yt 0 q):=by
 refine ⟨Nat.le_trans (XJ q 0) (by omega),fun s hs=>?_,Zet q 0⟩
 have:=XK q 0 hq s hs
 omega
theorem Zam (q:List Int) (hq:q.length<=1048576):Pure Tryz.prog 73 [L q] (L (yt 0 q)):=by
 refine zz Tryz.func73 Tryz.ntmps73 Tryz.results73 fun S nx hd=>?_
 refine za (zb ?_)
 refine za (zb ?_)
 refine za (yT 3 85 2 rfl fun v1=>?_)
 refine za (zb ?_)
 refine zi (zB (fun s:Nat × List Visit × Nat=>s.1<=q.length/\s.2.1.length<=s.1/\yt 0 q=s.2.1++yt s.1 (q.drop s.1)) (fun (k,out,v1)=>[(0,L q),(3,.sl nx v1 2 0 out.length),(4,I k)]) (fun (k,out,v1)=>[.cells v1 85 (out.flatMap Enc.enc)]) (fun s=>q.length-s.1) (0,[],v1) [] (by simp) (by simp) (by simp) ?_)
 rintro ⟨k,out,v1⟩ ⟨hk,hol,ho⟩
 simp only at hk hol ho ⊢
 repeat apply za
 refine zb ?_
 refine zr rfl (fun hc=>?_) (fun hc=>?_)
 ·simp at hc
  obtain ⟨z,tl,a1,a2,a3,e0⟩:=zC rfl q k hc
  rw [a2] at ho
  simp only [yt] at ho
  refine zh (za (zi ?_))
  by_cases h:0<z
  ·rw [if_pos h] at ho
   refine za (ze [] (zn e0 hc) ?_)
   refine zm (by simp [h]) ?_
   refine ze [] (zn e0 hc) ?_
   refine ⟨by omega,?_⟩
   refine zb ?_
   exact zq (k+1,out++[⟨k,z⟩],v1+1) [] ⟨hc,by simp;omega,by rw [ho];simp⟩ (by simp;omega) (by simp [zt k (by omega)]) rfl (by simp)
  ·rw [if_neg h] at ho
   refine za (ze [] (zn e0 hc) ?_)
   refine zo (by simp;omega) ?_
   refine zh (zb ?_)
   exact zq (k+1,out,v1) [] ⟨hc,Nat.le_succ_of_le hol,ho⟩ (by simp;omega) (by simp [zt k (by omega)]) rfl (by simp)
 ·simp at hc
  obtain rfl:k=q.length:=by omega
  rw [List.drop_length] at ho
  simp only [yt,List.append_nil] at ho
  refine zu (za (zb ?_))
  refine zX 0 rfl ?_
  exact zg (zk hd (by simp;rfl) (by rw [ho];simp [zp]))
theorem Zl9 (l:List Int) (d:Int):RSpec Tryz.prog 158 [L l,I d] (fun p=>∃z,p=I z):=by
 refine uO Tryz.func158 Tryz.ntmps158 Tryz.results158 fun S nx hd=>?_
 refine za (zb ?_)
 by_cases h1:d<0
 ·repeat apply za
  refine ze [(2,7)] (zn h1 zx) ?_
  refine zm rfl (za (zb ?_))
  exact zg ⟨_,S,(by simp;rfl),⟨⟨0,rfl⟩,rfl⟩,zU hd⟩
 by_cases h2:(l.length:Int)<=d
 ·repeat apply za
  refine ze [(2,7)] (zn h1 h2) ?_
  refine zm rfl (za (zb ?_))
  exact zg ⟨_,S,(by simp;rfl),⟨⟨0,rfl⟩,rfl⟩,zU hd⟩
 obtain ⟨k,rfl⟩:=Int.eq_ofNat_of_zero_le (show 0<=d by omega)
 obtain ⟨z,tl,a1,a2,a3,e0⟩:=zC rfl l k (by omega)
 have hk:k<l.length:=by omega
 repeat apply za
 refine ze [(2,7)] (zn h1 h2) ?_
 refine zo rfl (zh (za (ze [] (zn hk e0) ?_)))
 exact zg ⟨_,S,(by simp;rfl),⟨⟨z,rfl⟩,rfl⟩,zU hd⟩
theorem Zev (c:Cust) (n:Int) (l:List Int) (v:List Visit) (hc:CustFits c) (hv:VisOk v):RSpec Tryz.prog 116 [.agg (zM c),I n,L l,L v] (fun p=>∃z,p=I z):=by
 have hvn:=hv.n
 have hb:=Zd0 v n hv
 have hbn:(yx v n).length<=1048576:=by rw [XB];omega
 generalize yx v n=q at hb hbn
 have hni:=ZdZ c q hc hbn
 have hnl:(yF c q).1.length<=1048576:=by
  unfold yF
  split
  ·simp
  ·cases h:qk c.size c.rate c.start q with
   | none=>simp
   | some l=>simp [V2 h];exact hbn
 have hhe:=Zll c (yF c q).1 hnl
 generalize uY c (yF c q).1=hz at hhe
 generalize yF c q=ne at hni hhe
 obtain ⟨ns,er⟩:=ne
 simp only at hni hhe
 refine uO Tryz.func116 Tryz.ntmps116 Tryz.results116 fun S nx hd=>?_
 refine za (zb ?_)
 intro v0
 refine za (zb ?_)
 repeat apply za
 refine zb ?_
 refine yk (nx:=nx) (σ:=Int) (fun _=>True) (fun z=>[(1,I n),(3,L v),(4,.ptr nx v0 0),(9,I z)]) (fun _=>S) (fun _=>[.cells v0 65 (zM c)]) ?_ ?_
 ·refine zi (zB (fun s:Nat × Int=>s.1<=v.length) (fun (k,z)=>[(1,I n),(2,L l),(3,L v),(4,.ptr nx v0 0),(9,I z),(10,I k)]) (fun _=>[.cells v0 65 (zM c)]) (fun s=>v.length-s.1) (0,0) [] (by simp) (by simp) (by simp) ?_)
  rintro ⟨k,z⟩ hk
  simp only at hk ⊢
  repeat apply za
  refine zb ?_
  refine zr rfl (fun hc1=>?_) (fun hc1=>?_)
  ·simp at hc1
   obtain ⟨s,tl,a1,a2,a3,_,e0⟩:=el 2 rfl v k hc1
   refine zh (za (zi (z8 [] (by rfl) (by rfl) fun K Gc Gh hK hGc hGh X hX0 hX=>?_)))
   simp -implicitDefEqProofs [hX0,hX,hc1,e0]
   try clear hX0 hX X
   refine hGc _ _ _ _ _ _ _ fun hsuf=>((Zl9 l s.d _).mono ?_).v
   rintro _ _ ⟨⟨y,rfl⟩,rfl⟩
   refine ⟨_,_,rfl,?_⟩
   clear hGc hGh
   clear Gc Gh
   refine zW hsuf (D:=[]) (by rfl) fun Gc Gh hGc hGh X hX0 hX=>?_
   simp -implicitDefEqProofs [hX0,hX]
   try clear hX0 hX X
   refine hK _ _ _ ?_
   clear hK hGc hGh
   clear K Gc Gh
   refine zb ?_
   exact zq (k+1,IntKind.i64.wrap (z+y)) [] hc1 (by simp;omega) (by simp [zt k (by omega)]) rfl (by simp)
  ·simp at hc1
   exact zu (zD z [] trivial (by simp) rfl (by simp))
 intro z _
 repeat apply za
 refine zb ?_
 refine yk (nx:=nx) (σ:=Int) (fun _=>True) (fun z=>[(9,I z)]) (fun _=>S) (fun _=>[]) ?_ ?_
 ·repeat apply za
  refine zr rfl (fun hk=>?_) (fun hk=>?_)
  ·refine za (zF (some [nx]) (Row.pures [0,1,2,3,4,5,6,7,8,9] .done) mixed trivial ?_)
   refine zN (hb) trivial ?_
   refine zN (hni) trivial ?_
   refine zb ?_
   refine zA hhe ?_
   exact zD (IntKind.i64.wrap (z+hz)) [_] trivial (by simp) rfl rfl
  ·exact zh (zD z [_] trivial (by simp) rfl rfl)
 intro z _
 refine za (zb ?_)
 exact zg ⟨_,S,(by simp;rfl),⟨⟨z,rfl⟩,rfl⟩,zU hd⟩
def jM (c:Cust) (p:Nat):List Visit:=(yq p 0 64).map fun d=>⟨d,c.demand⟩
theorem Zma (c:Cust) (p:Nat) (hp:p<2 ^ 64):Pure Tryz.prog 71 [.agg (zM c),U p] (L (jM c p)):=by
 have hall:=Zd2 p hp
 have hln:=uZ p 0 64
 unfold jM
 generalize yq p 0 64=l at hall hln
 refine zz Tryz.func71 Tryz.ntmps71 Tryz.results71 fun S nx hd=>?_
 refine za (zb ?_)
 intro v0
 refine za (zb ?_)
 refine za (yT 5 85 2 rfl fun v1=>?_)
 refine zb ?_
 refine zA hall ?_
 repeat apply za
 refine zb ?_
 refine zi (zB (fun s:Nat × List Visit × Nat=>s.1<=l.length/\s.2.1=(l.take s.1).map fun d=>⟨d,c.demand⟩) (fun (k,out,v1)=>[(2,.ptr nx v0 0),(5,.sl (nx+1) v1 2 0 out.length),(6,L l),(7,I k)]) (fun (k,out,v1)=>[.cells v0 65 (zM c),.cells v1 85 (out.flatMap Enc.enc)]) (fun s=>l.length-s.1) (0,[],v1) [] (by simp) (by simp) (by simp) ?_)
 rintro ⟨k,out,v1⟩ ⟨hk,ho⟩
 simp only at hk ho ⊢
 have hol:out.length=k:=by rw [ho];simp;omega
 repeat apply za
 refine zb ?_
 refine zr rfl (fun hc=>?_) (fun hc=>?_)
 ·simp at hc
  obtain ⟨d,tl,a1,a2,a3,e0⟩:=zC rfl l k hc
  refine zh (za (zi (zF (some [nx]) (Row.pures [0,1,2,3,4,5,6,7,8] (.alt 9 (Row.pures [10] .done) .stop)) mixed (zn e0 hc) ?_)))
  refine ⟨by omega,?_⟩
  refine zb ?_
  exact zq (k+1,out++[⟨d,c.demand⟩],v1+1) [] ⟨hc,by rw [a3,ho];simp⟩ (by simp;omega) (by simp [zt k (by omega)]) rfl (by simp)
 ·simp at hc
  obtain rfl:k=l.length:=by omega
  rw [List.take_length] at ho
  refine zu (za (zb ?_))
  refine zX 1 rfl ?_
  exact zg (zk hd (by simp;rfl) (by rw [ho];simp [zp]))
theorem Zmb (c:Cust) (n:Nat) (cap:Int) (l:List Int) (hc:CustFits c) (hn:n<=64) (hcap:cap<=2147483648) :
  RSpec Tryz.prog 75 [.agg (zM c),I n,I cap,L l] (fun p=>∃v b,p=.tup [L v,B b]/\(b=true->GoodV n v)):=by
 have vok:∀v,GoodV n v->VisOk v:=fun v h=>⟨Nat.le_trans h.len (by decide),fun s hs=>by have:=h.ok s hs;omega,fun s hs=>by have:=h.ok s hs;unfold zR;omega⟩
 refine uO Tryz.func75 Tryz.ntmps75 Tryz.results75 fun S nx hd=>?_
 refine za (zb ?_)
 intro v0
 refine za (z8 [] (by rfl) (by rfl) fun K Gc Gh hK hGc hGh X hX0 hX=>?_)
 simp -implicitDefEqProofs [hX0,hX]
 try clear hX0 hX X
 refine hGc _ _ _ _ _ _ _ fun hsuf=>((Zer c n cap false hc hn hcap _).mono ?_).v
 rintro _ _ ⟨⟨q,b,rfl,hq1,hq2⟩,rfl⟩
 refine ⟨_,_,rfl,?_⟩
 clear hGc hGh
 clear Gc Gh
 refine zW hsuf (D:=[]) (by rfl) fun Gc Gh hGc hGh X hX0 hX=>?_
 simp -implicitDefEqProofs [hX0,hX]
 try clear hX0 hX X
 refine hK _ _ _ ?_
 clear hK hGc hGh
 clear K Gc Gh
 have gq:=Ji hq2 (Nat.le_of_eq hq1) hn
 cases b with
 | false =>
  repeat apply za
  refine zb ?_
  refine zm rfl (za (zb ?_))
  refine xz 8 rfl ?_
  exact zg ⟨_,S,(by simp;rfl),⟨⟨[],false,by simp [zp],fun h=>nomatch h⟩,rfl⟩,zU hd⟩
 | true =>
  repeat apply za
  refine zb ?_
  refine zo rfl (zh (za (zb ?_)))
  refine zA (Zam q (by omega)) ?_
  refine za (z8 [] (by rfl) (by rfl) fun K Gc Gh hK hGc hGh X hX0 hX=>?_)
  simp -implicitDefEqProofs [hX0,hX]
  try clear hX0 hX X
  refine hGc _ _ _ _ _ _ _ fun hsuf=>((Zer c n cap true hc hn hcap _).mono ?_).v
  rintro _ _ ⟨⟨q',b',rfl,hq1',hq2'⟩,rfl⟩
  refine ⟨_,_,rfl,?_⟩
  clear hGc hGh
  clear Gc Gh
  refine zW hsuf (D:=[]) (by rfl) fun Gc Gh hGc hGh X hX0 hX=>?_
  simp -implicitDefEqProofs [hX0,hX]
  try clear hX0 hX X
  refine hK _ _ _ ?_
  clear hK hGc hGh
  clear K Gc Gh
  have gq':=Ji hq2' (Nat.le_of_eq hq1') hn
  refine za (zb ?_)
  refine zA (Zam q' (by omega)) ?_
  cases b' with
  | false =>
   repeat apply za
   refine zF (some [nx]) (Row.pures [0,1,2,3,4,5,6,7,8,9,10,11,12,13] .done) mixed zx ?_
   refine zo rfl (zh (za (zb ?_)))
   exact zg ⟨_,S,(by simp;rfl),⟨⟨yt 0 q,true,by simp [zp],fun _=>gq⟩,rfl⟩,zU hd⟩
  | true =>
   have e1:=Zev c n l (yt 0 q') hc (vok _ gq')
   have e2:=Zev c n l (yt 0 q) hc (vok _ gq)
   generalize yt 0 q'=w at *
   generalize yt 0 q=v at *
   repeat apply za
   refine wG (some [nx]) (Row.pures [0,1,2,3,4,5,7,8,9,10] (.alt 6 (.alt 11 (Row.pures [12,13] .done) .stop) .stop)) mixed (by rfl) (by rfl) (by rfl) fun K Gp Gc Gh hK hGp hGc hGh X hX0 hX1 hX2 hX=>?_
   simp -implicitDefEqProofs [hX0,hX1,hX2,hX]
   try clear hX0 hX1 hX2 hX X
   refine hGc _ _ _ _ _ _ _ (((e1 _).mono ?_).v)
   rintro _ _ ⟨⟨y,rfl⟩,rfl⟩
   refine ⟨by simp,?_⟩
   clear hGp hGc hGh
   clear Gp Gc Gh
   refine jm fun Gp Gc Gh hGp hGc hGh X hX0 hX1 hX2 hX=>?_
   simp -implicitDefEqProofs [hX0,hX1,hX2,hX]
   try clear hX0 hX1 hX2 hX X
   refine hGc _ _ _ _ _ _ _ (((e2 _).mono ?_).v)
   rintro _ _ ⟨⟨z,rfl⟩,rfl⟩
   refine ⟨by simp,?_⟩
   clear hGp hGc hGh
   clear Gp Gc Gh
   refine jm fun Gp Gc Gh hGp hGc hGh X hX0 hX1 hX2 hX=>?_
   simp -implicitDefEqProofs [hX0,hX1,hX2,hX]
   try clear hX0 hX1 hX2 hX X
   refine hK _ _ _ ?_
   clear hK hGp hGc hGh
   clear K Gp Gc Gh
   refine zr rfl (fun h=>?_) (fun h=>?_)
   ·refine za (zb ?_)
    exact zg ⟨_,S,(by simp;rfl),⟨⟨w,true,by simp [zp],fun _=>gq'⟩,rfl⟩,zU hd⟩
   ·refine zh (za (zb ?_))
    exact zg ⟨_,S,(by simp;rfl),⟨⟨v,true,by simp [zp],fun _=>gq⟩,rfl⟩,zU hd⟩
open Go
theorem Zmc (c:Cust) (n:Nat) (cap:Int) (hc:CustFits c) (hn:n<=16) (hcap:cap<=2147483648) (hp:∀p∈c.pats,p<2 ^ 64) (hpl:c.pats.length<=1048576) (hpd:c.kind=1->(∀p∈c.pats,∀d∈yq p 0 64,d<n)/\1<=c.demand/\c.demand<=2147483648) :
  RSpec Tryz.prog 76 [.agg (zM c),I n,I cap] (fun p=>∃vs:List (List Visit),p=L vs/\vs.length<=1048576/\∀v∈vs,GoodV n v):=by
 have patg:c.kind=1->∀p∈c.pats,GoodV n (jM c p):=fun hk p hpm=>by
  obtain ⟨h1,h2⟩:=hpd hk
  refine ⟨by simp only [jM,List.length_map];exact uZ _ _ _,fun s hs=>?_,by simp only [jM,List.map_map];exact (by simpa [Function.comp_def] using Zeu p 0 64)⟩
  simp only [jM,List.mem_map] at hs
  obtain ⟨d,hd,rfl⟩:=hs
  have h0:0<=d:=by
   simp only [yq,List.mem_map] at hd
   obtain ⟨i,_,rfl⟩:=hd;omega
  exact ⟨⟨h0,h1 p hpm d hd⟩,h2⟩
 refine uO Tryz.func76 Tryz.ntmps76 Tryz.results76 fun S nx hd=>?_
 refine za (zb ?_)
 intro v0
 refine za (zb ?_)
 refine za (yT 7 26 1 rfl fun v1=>?_)
 refine za (zb ?_)
 refine zr rfl (fun hk=>?_) (fun hk=>?_)
 ·simp at hk
  repeat apply za
  refine zb ?_
  refine zi (zB (fun s:Nat × List (List Visit) × Nat=>s.1<=c.pats.length/\s.2.1.length<=s.1/\∀v∈s.2.1,GoodV n v) (fun (k,out,v1)=>[(1,I n),(2,I cap),(3,.ptr nx v0 0),(7,.sl (nx+1) v1 1 0 out.length),(8,I k)]) (fun (k,out,v1)=>[.cells v0 65 (zM c),.cells v1 26 (out.flatMap Enc.enc)]) (fun s=>c.pats.length-s.1) (0,[],v1) [] (by simp) (by simp) (by simp) ?_)
  rintro ⟨k,out,v1⟩ ⟨hkl,hol,hg⟩
  simp only at hkl hol hg ⊢
  repeat apply za
  refine zb ?_
  refine zr rfl (fun hc1=>?_) (fun hc1=>?_)
  ·simp at hc1
   obtain ⟨p,tl,a1,a2,a3,e0⟩:=zC rfl c.pats k hc1
   have hpm:=List.mem_of_getElem? a1
   have hgp:=patg hk p hpm
   refine zh (za (zi (za (zF (some [nx]) (Row.pures [0,1,2,3,4,5,6,7] .done) mixed (zn hc1 e0) ?_))))
   refine zN (Zma c p (hp p hpm)) trivial ?_
   refine za (yk (nx:=nx) (σ:=Bool × Nat) (fun _=>True) (fun (t,v1)=>[(1,I n),(2,I cap),(3,.ptr nx v0 0),(7,.sl (nx+1) v1 1 0 out.length),(8,I k),(9,L (jM c p)),(40,B t)]) (fun _=>S) (fun (t,v1)=>[.cells v0 65 (zM c),.cells v1 26 (out.flatMap Enc.enc)]) ?_ ?_)
   ·by_cases h0:jM c p=[]
    ·repeat apply za
     refine ze [(3,35)] (zn h0 zx) ?_
     exact zD (true,v1) [] trivial (by simp [h0]) rfl (by simp)
    ·repeat apply za
     refine ze [(3,35)] h0 ?_
     exact zD (_,v1) [] trivial (by simp;rfl) rfl (by simp)
   rintro ⟨t,v1⟩ -
   simp only
   cases t with
   | true =>
    refine zm rfl (zb ?_)
    refine ⟨by omega,?_⟩
    refine zb ?_
    exact zq (k+1,out++[jM c p],v1+1) [] ⟨hc1,by simp;omega,fun v hv=>by rcases List.mem_append.1 hv with h | h;exact hg v h;rw [List.mem_singleton.1 h];exact hgp⟩ (by simp;omega) (by simp [zt k (by omega)]) rfl (by simp)
   | false =>
    refine zo rfl (zh (zb ?_))
    exact zq (k+1,out,v1) [] ⟨hc1,Nat.le_succ_of_le hol,hg⟩ (by simp;omega) (by simp [zt k (by omega)]) rfl (by simp)
  ·simp at hc1
   refine zu (za (zb ?_))
   refine zX 1 rfl ?_
   exact zg ⟨_,S,(by simp;rfl),⟨⟨out,by simp [zp],by omega,hg⟩,rfl⟩,zU hd⟩
 ·simp at hk
  refine zh (za (zb ?_))
  repeat apply za
  refine zb ?_
  have h2n:∀k:Nat,k<=n->2 ^ k<=65536:=fun k hk=>by
   calc 2 ^ k<=2 ^ 16:=Nat.pow_le_pow_right (by decide) (by omega)
    _=65536:=by decide
  refine yk (nx:=nx) (σ:=Nat) (fun _=>True) (fun v1=>[(1,I n),(2,I cap),(3,.ptr nx v0 0),(7,.sl (nx+1) v1 1 0 0),(10,U (2 ^ n))]) (fun _=>S) (fun v1=>[.cells v0 65 (zM c),.cells v1 26 []]) ?_ ?_
  ·refine zi (zB (fun s:Nat=>s<=n) (fun k=>[(1,I n),(2,I cap),(3,.ptr nx v0 0),(7,.sl (nx+1) v1 1 0 0),(10,U (2 ^ k)),(11,I k)]) (fun k=>[.cells v0 65 (zM c),.cells v1 26 []]) (fun s=>n-s) 0 [] (by simp) (by simp) (by simp) ?_)
   rintro k hkn
   repeat apply za
   refine zb ?_
   refine zr rfl (fun hc1=>?_) (fun hc1=>?_)
   ·simp at hc1
    have:=h2n k hkn
    have u1:IntKind.u64.wrap (2*2 ^ k)=2 ^ (k+1):=by
     have e2:(2:Int) ^ k=((2 ^ k:Nat):Int):=by simp
     have e3:(2:Int) ^ (k+1)=2*2 ^ k:=by rw [Int.pow_succ,Int.mul_comm]
     rw [e3,e2]
     generalize 2 ^ k=m at this ⊢
     rw [IntWalk.u64_in _ (by omega)]
    refine zh (za (zi (ze [] u1 ?_)))
    refine zb ?_
    exact zq (k+1) [] hc1 (by omega) (by simp [zt k (by omega)]) rfl (by simp)
   ·simp at hc1
    obtain rfl:k=n:=by omega
    exact zu (zD v1 [] trivial (by simp) rfl (by simp))
  intro v1 _
  have hl16:=h2n n (Nat.le_refl _)
  generalize 2 ^ n=last at hl16 ⊢
  repeat apply za
  refine zb ?_
  refine zi (zB (fun s:Nat × List (List Visit) × Nat=>s.1<=last/\s.2.1.length<=s.1/\∀v∈s.2.1,GoodV n v) (fun (k,out,v1)=>[(1,I n),(2,I cap),(3,.ptr nx v0 0),(7,.sl (nx+1) v1 1 0 out.length),(10,U last),(12,U k)]) (fun (k,out,v1)=>[.cells v0 65 (zM c),.cells v1 26 (out.flatMap Enc.enc)]) (fun s=>last-s.1) (0,[],v1) [] (by simp) (by simp) (by simp) ?_)
  rintro ⟨k,out,v1⟩ ⟨hkl,hol,hg⟩
  simp only at hkl hol hg ⊢
  repeat apply za
  refine zb ?_
  refine zr rfl (fun hc1=>?_) (fun hc1=>?_)
  ·simp at hc1
   have u1:IntKind.u64.wrap ((k:Int)+1)=((k+1:Nat):Int):=by rw [IntWalk.u64_in _ (by omega)];omega
   refine zh (za (zi (za (z8 [] (by rfl) (by rfl) fun K Gc Gh hK hGc hGh X hX0 hX=>?_))))
   simp -implicitDefEqProofs [hX0,hX]
   try clear hX0 hX X
   refine hGc _ _ _ _ _ _ _ fun hsuf=>((Zl8 c n cap k hc (by omega) hcap (by omega) _).mono ?_).v
   rintro _ _ ⟨⟨q,b,rfl,hq1,hq2⟩,rfl⟩
   refine ⟨_,_,rfl,?_⟩
   clear hGc hGh
   clear Gc Gh
   refine zW hsuf (D:=[]) (by rfl) fun Gc Gh hGc hGh X hX0 hX=>?_
   simp -implicitDefEqProofs [hX0,hX]
   try clear hX0 hX X
   refine hK _ _ _ ?_
   clear hK hGc hGh
   clear K Gc Gh
   refine za (zb ?_)
   cases b with
   | true =>
    refine zm rfl (zb ?_)
    refine zA (Zam q (by omega)) ?_
    refine ⟨by omega,?_⟩
    refine ze [] u1 ?_
    exact zq (k+1,out++[yt 0 q],v1+1) [] ⟨hc1,by simp;omega,fun v hv=>by rcases List.mem_append.1 hv with h | h;exact hg v h;rw [List.mem_singleton.1 h];exact Ji hq2 hq1 (by omega)⟩ (by simp;omega) (by simp) rfl (by simp)
   | false =>
    refine zo rfl (zh (ze [] u1 ?_))
    exact zq (k+1,out,v1) [] ⟨hc1,Nat.le_succ_of_le hol,hg⟩ (by simp;omega) (by simp) rfl (by simp)
  ·simp at hc1
   refine zu (za (zb ?_))
   refine zX 1 rfl ?_
   exact zg ⟨_,S,(by simp;rfl),⟨⟨out,by simp [zp],by omega,hg⟩,rfl⟩,zU hd⟩
structure CustMade (c:Cust) (n:Nat):Prop where
 fits:CustFits c
 pats:∀p∈c.pats,p<2 ^ 64
 npats:c.pats.length<=1048576
 per:c.kind=1->(∀p∈c.pats,∀d∈yq p 0 64,d<n)/\1<=c.demand/\c.demand<=2147483648
theorem Zmd (x:Inst) (c:Cust) (n:Nat) (i:Nat) (pick:List Int) (hc:CustMade c n) (hxd:x.days=n) (hn:n<=16) (hcap:x.cap<=2147483648) (hpk:∀z∈pick,zR z) :
  RSpec Tryz.prog 49 [.agg (zv x),.agg (zM c),I i,L pick] (fun p=>∃v b,p=.tup [L v,B b]/\(b=true->GoodV n v)):=by
 have hany:RSpec Tryz.prog 75 [.agg (zM c),I n,I x.cap,.sc (.slice none 0 0)] (fun p=>∃v b,p=.tup [L v,B b]/\(b=true->GoodV n v)) :=
  fun S=>Zf6 (.cons Wk.rfl (.cons Wk.rfl (.cons Wk.rfl (.cons Wk.nil .nil)))) (Zmb c n x.cap [] hc.fits (by omega) hcap S)
 refine uO Tryz.func49 Tryz.ntmps49 Tryz.results49 fun S nx hd=>?_
 refine za (zb ?_)
 intro v0 v1
 repeat apply za
 refine zb ?_
 refine zr rfl (fun hr=>?_) (fun hr=>?_)
 ·refine za (z8 [] (by rfl) (by rfl) fun K Gc Gh hK hGc hGh X hX0 hX=>?_)
  simp -implicitDefEqProofs [hX0,hX,hxd]
  try clear hX0 hX X
  refine hGc _ _ _ _ _ _ _ fun hsuf=>((hany _).mono ?_).v
  rintro _ _ ⟨⟨v,b,rfl,hg⟩,rfl⟩
  refine ⟨_,_,rfl,?_⟩
  clear hGc hGh
  clear Gc Gh
  refine zW hsuf (D:=[]) (by rfl) fun Gc Gh hGc hGh X hX0 hX=>?_
  simp -implicitDefEqProofs [hX0,hX]
  try clear hX0 hX X
  refine hK _ _ _ ?_
  clear hK hGc hGh
  clear K Gc Gh
  exact zg ⟨_,S,(by simp;rfl),⟨⟨v,b,by simp [zp],hg⟩,rfl⟩,zU hd⟩
 ·refine zh (za (z8 [] (by rfl) (by rfl) fun K Gc Gh hK hGc hGh X hX0 hX=>?_))
  simp -implicitDefEqProofs [hX0,hX,hxd]
  try clear hX0 hX X
  refine hGc _ _ _ _ _ _ _ fun hsuf=>((Zmc c n x.cap hc.fits hn hcap hc.pats hc.npats hc.per _).mono ?_).v
  rintro _ _ ⟨⟨vs,rfl,hvl,hg⟩,rfl⟩
  refine ⟨_,_,rfl,?_⟩
  clear hGc hGh
  clear Gc Gh
  refine zW hsuf (D:=[]) (by rfl) fun Gc Gh hGc hGh X hX0 hX=>?_
  simp -implicitDefEqProofs [hX0,hX]
  try clear hX0 hX X
  refine hK _ _ _ ?_
  clear hK hGc hGh
  clear K Gc Gh
  by_cases h0:vs=[]
  ·repeat apply za
   refine ze [] h0 ?_
   refine zm (by simp [h0]) ?_
   refine za (zb ?_)
   refine xz 8 rfl ?_
   exact zg ⟨_,S,(by simp;rfl),⟨⟨[],false,by simp [zp],fun h=>nomatch h⟩,rfl⟩,zU hd⟩
  ·repeat apply za
   refine ze [] h0 ?_
   refine zo (by simp [h0]) ?_
   refine zh ?_
   have hpos:=List.length_pos_iff.2 h0
   refine za (zb ?_)
   repeat apply za
   refine zb ?_
   refine yk (nx:=nx) (σ:=Int × Nat × Nat) (fun s=>zR s.1) (fun (z,v0,v1)=>[(10,L vs),(11,I z)]) (fun _=>S) (fun (z,v0,v1)=>[]) ?_ ?_
   ·by_cases h1:i<pick.length
    ·obtain ⟨z,tl,a1,a2,a3,e0⟩:=zC rfl pick i h1
     refine zm (by simp [h1]) ?_
     refine ze [] (zn h1 e0) ?_
     exact zD (z,v0,v1) [_,_] (hpk z (List.mem_of_getElem? a1)) (by simp) rfl rfl
    ·repeat apply za
     refine zo (by simp;omega) ?_
     exact zh (zD (0,v0,v1) [_,_] (by unfold zR;omega) (by simp) rfl rfl)
   rintro ⟨z,v0,v1⟩ hz
   simp only at hz ⊢
   unfold zR at hz
   repeat apply za
   refine zb ?_
   refine yk (nx:=nx) (σ:=Int) (fun z=>0<=z/\z<=9223372036854775807) (fun z=>[(10,L vs),(11,I z)]) (fun _=>S) (fun z=>[]) ?_ ?_
   ·by_cases h1:z<0
    ·have q1:IntKind.i64.wrap (z+1)=z+1:=wr _ (by omega) (by omega)
     have q2:IntKind.i64.wrap (-(z+1))=-(z+1):=wr _ (by omega) (by omega)
     refine zm (by simp [h1]) ?_
     refine ze [] (zn q1 q2) ?_
     exact zD (-(z+1)) [] (by omega) (by simp) rfl rfl
    ·repeat apply za
     refine zo (by simp;omega) ?_
     exact zh (zD z [] (by omega) (by simp) rfl rfl)
   intro z hz
   have hvl':¬vs.length=0:=by omega
   obtain ⟨k,hk⟩:∃k:Nat,z.tmod (vs.length:Int)=k:=⟨(z.tmod vs.length).toNat,by have:=Int.tmod_nonneg (b:=(vs.length:Int)) (a:=z) hz.1;omega⟩
   have hkl:k<vs.length:=by have:=Int.tmod_lt_of_pos (a:=z) (b:=(vs.length:Int)) (by omega);omega
   obtain ⟨v,tl,a1,a2,a3,e0⟩:=zC rfl vs k hkl
   refine za (ze [] (zP hk hkl e0 h0) ?_)
   exact zg ⟨_,S,(by simp;rfl),⟨⟨v,true,by simp [zp],fun _=>hg v (List.mem_of_getElem? a1)⟩,rfl⟩,zU hd⟩
open Go
theorem XL {α:Type} (l:List α):l=[]\/∃m x,l=m++[x]:=by
 rcases List.eq_nil_or_concat l with h | ⟨m,x,h⟩
 ·exact .inl h
 ·exact .inr ⟨m,x,by rw [h,List.concat_eq_append]⟩
def xZ (x:Inst) (d:zj) (s:Stop) (join:Bool):zj :=
 match d.reverse with
 | t :: r=>if join=true/\zK x (t++[s])=0 then r.reverse++[t++[s]] else d++[[s]]
 | []=>[[s]]
theorem Zan (x:Inst) (s:Stop) (j:Bool):xZ x [] s j=[[s]]:=rfl
theorem Qb (x:Inst) (d:zj) (t:zG) (s:Stop) (j:Bool):xZ x (d++[t]) s j=if j=true/\zK x (t++[s])=0 then d++[t++[s]] else (d++[t])++[[s]]:=by simp [xZ]
theorem XM (x:Inst) (d:zj) (s:Stop) (j:Bool):(xZ x d s j).flatten=d.flatten++[s]:=by
 rcases XL d with rfl | ⟨d',t,rfl⟩
 ·simp [Zan]
 ·rw [Qb];split<;>simp
theorem Zme (x:Inst) (d:zj) (s:Stop) (j:Bool) (h:∀t∈d,t≠[]):∀t∈xZ x d s j,t≠[]:=by
 rcases XL d with rfl | ⟨d',t,rfl⟩
 ·simp [Zan]
 ·rw [Qb]
  split
  ·intro u hu
   rcases List.mem_append.1 hu with hu | hu
   ·exact h u (by simp [hu])
   ·rw [List.mem_singleton.1 hu];simp
  ·intro u hu
   rcases List.mem_append.1 hu with hu | hu
   ·exact h u hu
   ·rw [List.mem_singleton.1 hu];simp
theorem XN {α:Type} [Enc α] (h1:Enc.sz α=1) (l:List α) (k:Nat) (v:α) (h:k<l.length):yb (l.flatMap Enc.enc) k (Enc.enc v)=(l.set k v).flatMap Enc.enc:=by
 have e1:(l.flatMap Enc.enc).take k=(l.take k).flatMap Enc.enc:=by
  have:=uK (α:=α) Enc.enc (Enc.sz α) Enc.len l k;rwa [h1,Nat.mul_one] at this
 have e2:(l.flatMap Enc.enc).drop (k+1)=(l.drop (k+1)).flatMap Enc.enc:=by
  have:=ZX (α:=α) Enc.enc (Enc.sz α) Enc.len l (k+1);rwa [h1,Nat.mul_one] at this
 rw [yb,Enc.len,h1,e1,e2,List.set_eq_take_append_cons_drop,if_pos h]
 simp
theorem Zmf (x:Inst) (d:zj) (s:Stop) (j:Bool) (hx:x.cust.length<=1048576) (hd0:d.length<=1000000) (ht:∀t∈d,t.length<=1000000):Pure Tryz.prog 50 [.agg (zv x),.agg [L d],.agg [I s.c,I s.q],B j] (.agg [L (xZ x d s j)]):=by
 refine zz Tryz.func50 Tryz.ntmps50 Tryz.results50 fun S nx hd=>?_
 refine za (zb ?_)
 intro v0 v1 v2 v3
 refine za (zb ?_)
 intro v4
 refine za (zb ?_)
 refine ⟨by omega,fun v5=>?_⟩
 refine za (zb ?_)
 have last:(d=[]\/j=false\/xZ x d s j=d++[[s]])->xZ x d s j=d++[[s]]:=by
  intro h
  rcases XL d with rfl | ⟨d',t,rfl⟩
  ·rfl
  ·rcases h with h | rfl | h
   ·simp at h
   ·rw [Qb];simp
   ·exact h
 rcases XL d with rfl | ⟨d',t,rfl⟩
 ·repeat apply za
  refine yk (nx:=nx) (σ:=Unit) (fun _=>True) (fun _=>[(6,.ptr (nx+2) v2 0),(8,.ptr (nx+3) v3 0),(9,.ptr (nx+4) v4 0),(25,B false)]) (fun _=>S) (fun _=>[.cells v0 25 (zv x),.cells v1 58 [L ([]:zj)],.cells v2 35 [I s.c,I s.q],.cells v3 58 [.sc (.slice none 0 0)],.cells v4 58 [.sl (nx+5) v5 1 0 0],.cells v5 72 []]) ?_ ?_
  ·cases j with
   | true =>
    refine ze [(1,22)] trivial ?_
    exact zD () [] trivial (by simp) rfl (by simp)
   | false =>
    refine ze [(1,22)] zx ?_
    exact zD () [] trivial (by simp) rfl (by simp)
  intro _ _
  refine zo (by simp) ?_
  refine zh (za (zb ?_))
  refine za (zb ?_)
  refine zX 5 rfl ?_
  exact zg (zk hd (by simp;rfl) (by simp [Zan,zp]))
 ·have htl:=ht t (by simp)
  have hdl:d'.length+1<=1000000:=by simpa using hd0
  obtain ⟨t',tl,a1,a2,a3,e0⟩:=zC rfl (d'++[t]) d'.length (by simp)
  obtain rfl:t'=t:=by simp at a1;exact a1.symm
  have hw:IntKind.i64.wrap (((d'.length:Int)+1)-1)=(d'.length:Int):=by rw [wr _ (by omega) (by omega)];omega
  have hw':IntKind.i64.wrap (d'.length:Int)=(d'.length:Int):=wr _ (by omega) (by omega)
  have hlt:(d'.length:Int)<(d'.length:Int)+1:=by omega
  have hpos:(0:Int)<(d'.length:Int)+1:=by omega
  have e0':List.drop d'.length (List.flatMap Enc.enc d'++Enc.enc t')=Enc.enc t'++tl:=by simpa using e0
  have hsp:=XN (α:=zG) rfl (d'++[t']) d'.length (t'++[s]) (by simp)
  have hset:(d'++[t']).set d'.length (t'++[s])=d'++[t'++[s]]:=by simp
  rw [hset] at hsp
  have hsp':yb (List.flatMap Enc.enc d'++[L t']) d'.length [L (t'++[s])]=List.flatMap Enc.enc d'++[L (t'++[s])]:=by simpa using hsp
  have htk:List.take (d'.length+1) (List.flatMap Enc.enc d'++[L t'])=List.flatMap Enc.enc d'++[L t']:=List.take_of_length_le (by simp)
  cases j with
  | false =>
   repeat apply za
   refine ze [(1,22)] zx ?_
   refine zo rfl (zh (za (ze [] htk ?_)))
   refine ⟨by omega,?_⟩
   refine za (zb ?_)
   refine zX 5 rfl ?_
   exact zg (zk hd (by simp;rfl) (by simp [Qb,zp]))
  | true =>
   repeat apply za
   refine ze [(1,22)] hpos ?_
   refine zm (by simp) ?_
   refine za (zb ?_)
   intro v6
   refine za (zF (some [nx+4,nx+5]) (Row.pures [0,2,3,4,5,6,7,8] (.alt 1 (.alt 9 (Row.pures [10] (.alt 11 (.done) .stop)) .stop) .stop)) mixed (zP hw hw' hlt e0') ?_)
   refine ⟨by omega,fun v7=>?_⟩
   refine za (zb ?_)
   refine ⟨by omega,?_⟩
   refine zX 7 rfl ?_
   have hmay:=Zb6 x (t'++[s]) hx (by simp;omega)
   have hLt:L (t'++[s])=.lst (t'.length+1) (List.flatMap Enc.enc t'++[I s.c,I s.q]):=by simp
   have hsp2:=hsp'
   rw [hLt] at hmay hsp2
   have ht2:(t'.length+1)*2=t'.length*2+2:=by omega
   refine za (ze [] ht2 ?_)
   refine zA hmay ?_
   by_cases hm:zK x (t'++[s])=0
   ·repeat apply za
    refine zm (by simp [hm]) ?_
    refine za (ze [] (zP hw hw' hlt hsp2) ?_)
    refine za (zb ?_)
    refine zX 5 rfl ?_
    exact zg (zk hd (by simp;rfl) (by simp [Qb,hm,zp]))
   ·repeat apply za
    refine zo (by simp [hm]) ?_
    refine zh (za (ze [] htk ?_))
    refine ⟨by omega,?_⟩
    refine za (zb ?_)
    refine zX 5 rfl ?_
    exact zg (zk hd (by simp;rfl) (by simp [Qb,hm,zp]))
open Go
def jN (p:zJ):Nat:=(p.map fun d=>d.flatten.length).sum
theorem Zmg {p:zJ} {k:Nat} {d e:zj} (h:p[k]?=some d) (he:e.flatten.length=d.flatten.length+1):jN (p.set k e)=jN p+1:=by
 induction p generalizing k with
 | nil=>cases h
 | cons a p ih =>
  cases k with
  | zero =>
   simp only [List.getElem?_cons_zero,Option.some.injEq] at h;subst h
   simp only [List.set_cons_zero,jN,List.map_cons,List.sum_cons,he];omega
  | succ k =>
   have:=ih (k:=k) (by simpa using h)
   simp only [List.set_cons_succ,jN,List.map_cons,List.sum_cons] at this ⊢;omega
theorem Zao:∀(p:zJ) (i:Nat),(told i p).length=jN p
 | [],_=>rfl
 | d :: p,i=>by
  have:=Zao p (i+1)
  simp only [told,List.length_append,List.length_map,jN,List.map_cons,List.sum_cons] at this ⊢;omega
structure MadeP (m:Nat) (n:Nat) (p:zJ):Prop where
 len:p.length=n
 ne:∀d∈p,∀t∈d,t≠[]
 ok:∀d∈p,∀s∈d.flatten,(0<=s.c/\s.c<m)/\1<=s.q/\s.q<=2147483648
 nd:∀d∈p,(d.flatten.map (·.c)).Nodup
theorem XO:∀(d:zj),(∀t∈d,t≠[])->d.length<=d.flatten.length
 | [],_=>by simp
 | t :: d,h=>by
  have h1:=XO d fun u hu=>h u (by simp [hu])
  have h2:=List.length_pos_iff.2 (h t (by simp))
  simp only [List.flatten_cons,List.length_cons,List.length_append];omega
theorem Yj:∀(d:zj) (t:zG),t∈d->t.length<=d.flatten.length
 | [],_,h=>by cases h
 | u :: d,t,h=>by
  simp only [List.flatten_cons,List.length_append]
  rcases List.mem_cons.1 h with rfl | h
  ·omega
  ·have:=Yj d t h;omega
theorem Zew:∀(p:zJ) (d:zj),d∈p->d.flatten.length<=jN p
 | [],_,h=>by cases h
 | u :: p,d,h=>by
  simp only [jN,List.map_cons,List.sum_cons]
  rcases List.mem_cons.1 h with rfl | h
  ·omega
  ·have:=Zew p d h;simp only [jN] at this;omega
theorem MadeP.set {m n:Nat} {p:zJ} (h:MadeP m n p) {k:Nat} {d:zj} (hd:p[k]?=some d) (x:Inst) (s:Stop) (j:Bool) (hs:(0<=s.c/\s.c<m)/\1<=s.q/\s.q<=2147483648) (hno:∀u∈d.flatten,u.c≠s.c):MadeP m n (p.set k (xZ x d s j)):=by
 have hdm:=List.mem_of_getElem? hd
 refine ⟨by simp [h.len],fun e he t ht=>?_,fun e he u hu=>?_,fun e he=>?_⟩
 ·rcases List.mem_or_eq_of_mem_set he with he | rfl
  ·exact h.ne e he t ht
  ·exact Zme x d s j (h.ne d hdm) t ht
 ·rcases List.mem_or_eq_of_mem_set he with he | rfl
  ·exact h.ok e he u hu
  ·rw [XM] at hu
   rcases List.mem_append.1 hu with hu | hu
   ·exact h.ok d hdm u hu
   ·rw [List.mem_singleton.1 hu];exact hs
 ·rcases List.mem_or_eq_of_mem_set he with he | rfl
  ·exact h.nd e he
  ·rw [XM,List.map_append]
   exact QL _ _ (h.nd d hdm) (fun hm=>by obtain ⟨u,hu,e⟩:=List.mem_map.1 hm;exact hno u hu e)
theorem Zmh (n:Nat):qW n (.agg #[.slice none 0 0])=List.replicate n (.sc (.slice none 0 0)):=by
 induction n with
 | zero=>simp
 | succ n ih=>rw [uJ,ih];rfl
theorem Zmi (n:Nat):(List.replicate n ([]:zj)).flatMap Enc.enc=List.replicate n (L ([]:zj)):=by
 induction n with
 | zero=>simp
 | succ n ih=>rw [List.replicate_succ,List.flatMap_cons,ih];rfl
structure InstMade (x:Inst) (n:Nat):Prop where
 days:x.days=n
 n16:n<=16
 cust:x.cust.length<=1000
 made:∀c∈x.cust,CustMade c n
 cap:x.cap<=2147483648
theorem Zmj (x:Inst) (n:Nat) (pick:List Int) (joins:List Bool) (hx:InstMade x n) (hpk:∀z∈pick,zR z) :
  RSpec Tryz.prog 21 [.agg (zv x),L pick,L joins] (fun p=>∃(pl:zJ) (b:Bool),p=.tup [.agg [L pl],B b]/\(b=true->MadeP x.cust.length n pl/\jN pl<=64000)):=by
 have hn:=hx.n16
 have hxd:=hx.days
 have hxc:=hx.cust
 refine uO Tryz.func21 Tryz.ntmps21 Tryz.results21 fun S nx hd=>?_
 refine za (zb ?_)
 intro v0 v1
 refine za (zb ?_)
 intro v2
 refine za (ze [] hxd ?_)
 refine ⟨by omega,fun v3=>?_⟩
 refine Zf9 3 ((List.replicate n ([]:zj)).flatMap Enc.enc) rfl (by rw [Zmh,Zmi];exact ZbA _ _ Wk.nil n) ?_
 simp only [List.set_cons_succ,List.set_cons_zero,List.append_eq,List.cons_append,List.nil_append]
 repeat apply za
 refine zb ?_
 refine zi (zB (fun s:Nat × zJ=>s.1<=x.cust.length/\MadeP x.cust.length n s.2/\jN s.2<=64*s.1/\∀d∈s.2,∀u∈d.flatten,u.c<s.1) (fun (i,pl)=>[(1,L pick),(2,L joins),(3,.ptr nx v0 0),(6,.ptr (nx+1) v1 0),(8,.ptr (nx+2) v2 0),(9,I i)])
  (fun (i,pl)=>[.cells v0 25 (zv x),.cells v1 38 [.sc (.slice none 0 0)],.cells v2 38 [.sl (nx+3) v3 1 0 n],.cells v3 58 (pl.flatMap Enc.enc)]) (fun s=>x.cust.length-s.1) (0,List.replicate n []) [] ?_ (by simp) (by simp [hxd]) ?_)
 ·refine ⟨by simp,⟨by simp,fun d hd t ht=>?_,fun d hd s hs=>?_,fun d hd=>?_⟩,?_,fun d hd u hu=>?_⟩
  ·rw [(List.mem_replicate.1 hd).2] at ht;cases ht
  ·rw [(List.mem_replicate.1 hd).2] at hs;simp at hs
  ·rw [(List.mem_replicate.1 hd).2];simp
  ·have:∀k:Nat,jN (List.replicate k [])=0:=by
    intro k;induction k with
    | zero=>rfl
    | succ k ih=>simp [jN,List.replicate_succ] at ih ⊢
   simp [this]
  ·rw [(List.mem_replicate.1 hd).2] at hu;simp at hu
 rintro ⟨i,pl⟩ ⟨hi,hm,hcnt,hlow⟩
 simp only at hi hm hcnt hlow ⊢
 repeat apply za
 refine zb ?_
 refine zr rfl (fun hc=>?_) (fun hc=>?_)
 ·simp at hc
  obtain ⟨c,tl,a1,a2,a3,_,e0⟩:=el 8 rfl x.cust i hc
  have hcm:=hx.made c (List.mem_of_getElem? a1)
  refine zh (za (zi (za (wG (some [nx]) (Row.pures [0,1,2,3,4,5,6,7] (.alt 8 (Row.pures [9,10,11,12,13] .done) .stop)) mixed (by rfl) (by rfl) (by rfl) fun K Gp Gc Gh hK hGp hGc hGh X hX0 hX1 hX2 hX=>?_))))
  simp -implicitDefEqProofs [hX0,hX1,hX2,hX,hc,e0]
  try clear hX0 hX1 hX2 hX X
  refine hGc _ _ _ _ _ _ _ (((Zmd x c n i pick hcm hxd hn hx.cap hpk _).mono ?_).v)
  rintro _ _ ⟨⟨v,b,rfl,hg⟩,rfl⟩
  refine ⟨by simp,?_⟩
  clear hGp hGc hGh
  clear Gp Gc Gh
  refine jm fun Gp Gc Gh hGp hGc hGh X hX0 hX1 hX2 hX=>?_
  simp -implicitDefEqProofs [hX0,hX1,hX2,hX]
  try clear hX0 hX1 hX2 hX X
  refine hK _ _ _ ?_
  clear hK hGp hGc hGh
  clear K Gp Gc Gh
  cases b with
  | false =>
   repeat apply za
   refine zb ?_
   refine zm rfl (za (zb ?_))
   refine uN 1 0 rfl rfl ?_
   exact zg ⟨_,S,(by simp;rfl),⟨⟨[],false,by simp [zp],fun h=>nomatch h⟩,rfl⟩,zU hd⟩
  | true =>
   have hg:=hg rfl
   have hvl:=hg.len
   repeat apply za
   refine zb ?_
   refine zo rfl (zh (za (zb ?_)))
   refine zi (zB (fun s:Nat × zJ=>s.1<=v.length/\MadeP x.cust.length n s.2/\jN s.2<=64*i+s.1/\∀(dn:Nat) (d:zj),s.2[dn]?=some d->∀u∈d.flatten,u.c<i\/(u.c=i/\(dn:Int)∈(v.take s.1).map (·.d))) (fun (k,pl)=>[(1,L pick),(2,L joins),(3,.ptr nx v0 0),(6,.ptr (nx+1) v1 0),(8,.ptr (nx+2) v2 0),(9,I i),(10,L v),(12,I k)])
    (fun (k,pl)=>[.cells v0 25 (zv x),.cells v1 38 [.sc (.slice none 0 0)],.cells v2 38 [.sl (nx+3) v3 1 0 n],.cells v3 58 (pl.flatMap Enc.enc)]) (fun s=>v.length-s.1) (0,pl) [] ⟨by simp,hm,hcnt,fun dn d hd u hu=>.inl (hlow d (List.mem_of_getElem? hd) u hu)⟩ (by simp) (by simp) ?_)
   clear hlow
   rintro ⟨k,pl⟩ ⟨hk,hm,hcnt,hlow⟩
   simp only at hk hm hcnt hlow ⊢
   repeat apply za
   refine zb ?_
   refine zr rfl (fun hc1=>?_) (fun hc1=>?_)
   ·simp at hc1
    obtain ⟨s,tl2,b1,b2,b3,e1,e2⟩:=el 2 rfl v k hc1
    have e21:=e1 1 (by omega)
    have hs:=hg.ok s (List.mem_of_getElem? b1)
    obtain ⟨dn,hdn⟩:=Int.eq_ofNat_of_zero_le hs.1.1
    have hdl:dn<n:=by omega
    obtain ⟨d,tl3,d1,d2,d3,e3⟩:=zC rfl pl dn (by rw [hm.len];exact hdl)
    have hdm:=List.mem_of_getElem? d1
    refine zh (za (zi (za (ze [] (zn e21 hc1) ?_))))
    intro v4
    have w1:IntKind.i64.wrap ((i:Int)+(dn:Int))=((i+dn:Nat):Int):=by rw [wr _ (by omega) (by omega)];omega
    apply za
    refine yk (nx:=nx) (σ:=Bool) (fun _=>True) (fun t=>[(1,L pick),(2,L joins),(3,.ptr nx v0 0),(6,.ptr (nx+1) v1 0),(8,.ptr (nx+2) v2 0),(9,I i),(10,L v),(12,I k),(13,.ptr (nx+4) v4 0),(14,B t)]) (fun _=>S)
     (fun t=>[.cells v0 25 (zv x),.cells v1 38 [.sc (.slice none 0 0)],.cells v2 38 [.sl (nx+3) v3 1 0 n],.cells v3 58 (pl.flatMap Enc.enc),.cells v4 35 [I i,I s.q]]) ?_ ?_
    ·by_cases h:i+dn<joins.length
     ·obtain ⟨j,tl4,j1,j2,j3,e4⟩:=zC rfl joins (i+dn) h
      have h':(i:Int)+(dn:Int)<joins.length:=by omega
      have h0:(0:Int)<=(i:Int)+(dn:Int):=by omega
      have hN:((i:Int)+(dn:Int)).toNat=i+dn:=by omega
      refine ze [(10,64)] (zL e2 hc1 hdn w1 h (zP h' e4 h0 hN)) ?_
      exact zD j [] trivial (by simp) rfl (by simp)
     ·have h':¬(i:Int)+(dn:Int)<joins.length:=by omega
      refine ze [(10,64)] (zL e2 hc1 hdn w1 h (zn h' zx)) ?_
      exact zD false [] trivial (by simp) rfl (by simp)
    intro j _
    have hpll:=hm.len
    have hdf:=Zew pl d hdm
    have hdn2:=XO d (hm.ne d hdm)
    have hput:=Zmf x d ⟨i,s.q⟩ j (by omega) (by omega) (fun t ht=>by have:=Yj d t ht;omega)
    have hsp:=XN (α:=zj) rfl pl dn (xZ x d ⟨i,s.q⟩ j) (by omega)
    have hsp':yb (pl.flatMap Enc.enc) dn [L (xZ x d ⟨i,s.q⟩ j)]=(pl.set dn (xZ x d ⟨i,s.q⟩ j)).flatMap Enc.enc:=hsp
    have hnew:=hm.set d1 x ⟨i,s.q⟩ j ⟨⟨by dsimp only;omega,by dsimp only;omega⟩,hs.2⟩ (fun u hu=>by
     rcases hlow dn d d1 u hu with q | ⟨_,q⟩
     ·dsimp only;omega
     ·exfalso
      have hnd:=hg.nd
      rw [<-List.take_append_drop k v,b2,List.map_append,List.nodup_append] at hnd
      exact hnd.2.2 _ q s.d (by simp) (by rw [hdn]))
    have hlow':∀(dn':Nat) (d':zj),(pl.set dn (xZ x d ⟨i,s.q⟩ j))[dn']?=some d'->∀u∈d'.flatten,u.c<i\/(u.c=i/\(dn':Int)∈(v.take (k+1)).map (·.d)):=by
     intro dn' d' hd' u hu
     rw [List.getElem?_set] at hd'
     rw [b3,List.map_append]
     split at hd'
     ·rename_i e
      subst e
      split at hd'
      ·cases hd'
       rw [XM] at hu
       rcases List.mem_append.1 hu with hu | hu
       ·exact (hlow dn d d1 u hu).imp id (fun q=>⟨q.1,List.mem_append_left _ q.2⟩)
       ·rw [List.mem_singleton.1 hu]
        exact .inr ⟨rfl,List.mem_append_right _ (by simp;rw [hdn])⟩
      ·cases hd'
     ·exact (hlow dn' d' hd' u hu).imp id (fun q=>⟨q.1,List.mem_append_left _ q.2⟩)
    have hcn:=Zmg (e:=xZ x d ⟨i,s.q⟩ j) d1 (by rw [XM];simp)
    generalize xZ x d ⟨i,s.q⟩ j=nd at hput hsp' hnew hcn hlow'
    have hfl:(pl.flatMap Enc.enc).length=n:=by rw [jg,hpll]
    refine zF (some [nx,nx+2,nx+4]) (Row.pures [0,1,2,3,4,5,6,7,8,9,10,11,12,13,14,15,17,18] (.alt 16 (Row.pures [19,20] (.alt 21 (.done) .stop)) .stop)) mixed (yD e2 hc1 hdn hdl e3) ?_
    refine zN (hput) (zE hsp' hdl hdn) ?_
    refine ⟨by omega,?_⟩
    refine zb ?_
    exact zq (k+1,pl.set dn nd) [_] ⟨hc1,hnew,by dsimp only;omega,hlow'⟩ (by simp;omega) (by simp [zt k (by omega)]) rfl (by simp;rfl)
   ·simp at hc1
    obtain rfl:k=v.length:=by omega
    refine zu (zb ?_)
    exact zq (i+1,pl) [] ⟨hc,hm,by dsimp only;omega,fun d hd u hu=>by
     obtain ⟨dn,_,hdn⟩:=List.getElem_of_mem hd
     rcases hlow dn d (by rw [List.getElem?_eq_getElem (by assumption),hdn]) u hu with q | q
     ·dsimp only;omega
     ·dsimp only;omega⟩ (by simp;omega) (by simp [zt i (by omega)]) rfl (by simp)
 ·simp at hc
  obtain rfl:i=x.cust.length:=by omega
  have hpll:=hm.len
  refine zu (za (zb ?_))
  refine zX 3 rfl ?_
  exact zg ⟨_,S,(by simp;rfl),⟨⟨pl,true,by simp [zp,hpll],fun _=>⟨hm,by omega⟩⟩,rfl⟩,zU hd⟩
open Go
def vN (d:zj):zj:=(d.take 6).map fun t=>t.take 8
def uu (p:zJ):zJ:=(p.take 8).map vN
theorem Zmk (p:zJ) (S:Store) (nx:Nat) (hd:zQ nx S) :
  Spec Tryz.prog 36 [.agg [L p]] S (fun q S'=>∃v,q=.agg [.sl (nx+3) v 1 0 (uu p).length]/\S'=S.set (nx+3) (.cells v 58 ((uu p).flatMap Enc.enc))):=by
 refine uc hd Tryz.func36 Tryz.ntmps36 Tryz.results36 ?_
 refine za (zb ?_)
 intro v0 v1
 refine za (zb ?_)
 intro v2
 refine za (y8 2 0 58 1 rfl rfl fun v3=>?_)
 refine za (zb ?_)
 refine yk (nx:=nx) (σ:=Nat) (fun _=>True) (fun v3=>[(2,.ptr (nx+1) v1 0),(3,.ptr (nx+2) v2 0)]) (fun _=>S) (fun v3=>[.cells v0 38 [L p],.cells v1 38 [.sc (.slice none 0 0)],.cells v2 38 [.sl (nx+3) v3 1 0 (uu p).length],.cells v3 58 ((uu p).flatMap Enc.enc)]) ?_ ?_
 ·refine zi (zB (fun s:Nat × zJ × Nat=>s.1<=8/\s.1<=p.length/\s.2.1=(p.take s.1).map vN) (fun (a,out,v3)=>[(1,.ptr nx v0 0),(2,.ptr (nx+1) v1 0),(3,.ptr (nx+2) v2 0),(4,I a)]) (fun (a,out,v3)=>[.cells v0 38 [L p],.cells v1 38 [.sc (.slice none 0 0)],.cells v2 38 [.sl (nx+3) v3 1 0 out.length],.cells v3 58 (out.flatMap Enc.enc)]) (fun s=>8-s.1) (0,[],v3) [] (by simp) (by simp) (by simp) ?_)
  rintro ⟨a,out,v3⟩ ⟨ha8,hap,ho⟩
  simp only at ha8 hap ho ⊢
  have hol:out.length=a:=by rw [ho];simp;omega
  have fin:(a=8\/a=p.length)->out=uu p:=by
   rintro (h | h)
   ·rw [ho,h];rfl
   ·rw [ho,uu,List.take_of_length_le (by omega),List.take_of_length_le (by omega)]
  by_cases hq1:a<p.length
  case neg =>
   repeat apply za
   refine ze [(5,14)] (zn hq1 zx) ?_
   refine zo rfl ?_
   have hk:=fin (.inr (by omega))
   exact zu (zD v3 [] trivial (by simp) rfl (by simp only [<-hk];simp))
  by_cases hq2:(a:Int)<8
  case neg =>
   repeat apply za
   refine ze [(5,14)] (zn hq1 hq2) ?_
   refine zo rfl ?_
   have hk:=fin (.inl (by omega))
   exact zu (zD v3 [] trivial (by simp) rfl (by simp only [<-hk];simp))
  obtain ⟨d,tl,a1,a2,a3,e0⟩:=zC rfl p a hq1
  repeat apply za
  refine ze [(5,14)] (zn hq1 hq2) ?_
  refine zm rfl (zh (za (zi (za (zb ?_)))))
  intro v4
  refine za (y8 4 0 72 1 rfl rfl fun v5=>?_)
  refine za (zb ?_)
  refine yk (nx:=nx) (σ:=Nat × Nat) (fun _=>True) (fun (v3,v5)=>[(1,.ptr nx v0 0),(2,.ptr (nx+1) v1 0),(3,.ptr (nx+2) v2 0),(4,I a),(5,.ptr (nx+4) v4 0)]) (fun _=>S) (fun (v3,v5)=>[.cells v0 38 [L p],.cells v1 38 [.sc (.slice none 0 0)],.cells v2 38 [.sl (nx+3) v3 1 0 out.length],.cells v3 58 (out.flatMap Enc.enc),.cells v4 58 [.sl (nx+5) v5 1 0 (vN d).length],.cells v5 72 ((vN d).flatMap Enc.enc)]) ?_ ?_
  ·refine zi (zB (fun s:Nat × zj × Nat=>s.1<=6/\s.1<=d.length/\s.2.1=(d.take s.1).map fun t=>t.take 8) (fun (b,od,v5)=>[(1,.ptr nx v0 0),(2,.ptr (nx+1) v1 0),(3,.ptr (nx+2) v2 0),(4,I a),(5,.ptr (nx+4) v4 0),(6,I b)]) (fun (b,od,v5)=>[.cells v0 38 [L p],.cells v1 38 [.sc (.slice none 0 0)],.cells v2 38 [.sl (nx+3) v3 1 0 out.length],.cells v3 58 (out.flatMap Enc.enc),.cells v4 58 [.sl (nx+5) v5 1 0 od.length],.cells v5 72 (od.flatMap Enc.enc)]) (fun s=>6-s.1) (0,[],v5) [] (by simp) (by simp) (by simp) ?_)
   rintro ⟨b,od,v5⟩ ⟨hb6,hbd,hod⟩
   simp only at hb6 hbd hod ⊢
   have hodl:od.length=b:=by rw [hod];simp;omega
   have fin2:(b=6\/b=d.length)->od=vN d:=by
    rintro (h | h)
    ·rw [hod,h];rfl
    ·rw [hod,vN,List.take_of_length_le (by omega),List.take_of_length_le (by omega)]
   by_cases hq3:b<d.length
   case neg =>
    repeat apply za
    refine ze [(9,29)] (zP hq1 e0 hq3 zx) ?_
    refine zo rfl ?_
    have hk:=fin2 (.inr (by omega))
    exact zu (zD (v3,v5) [] trivial (by simp) rfl (by simp only [<-hk];rfl))
   by_cases hq4:(b:Int)<6
   case neg =>
    repeat apply za
    refine ze [(9,29)] (zP hq1 e0 hq3 hq4) ?_
    refine zo rfl ?_
    have hk:=fin2 (.inl (by omega))
    exact zu (zD (v3,v5) [] trivial (by simp) rfl (by simp only [<-hk];rfl))
   obtain ⟨t,tl2,b1,b2,b3,e2⟩:=zC rfl d b hq3
   repeat apply za
   refine ze [(9,29)] (zP hq1 e0 hq3 hq4) ?_
   refine zm rfl (zh (za (zi (za (zb ?_)))))
   refine za (yT 7 35 2 rfl fun v6=>?_)
   refine za (zb ?_)
   refine yk (nx:=nx) (σ:=Nat) (fun _=>True) (fun v6=>[(1,.ptr nx v0 0),(2,.ptr (nx+1) v1 0),(3,.ptr (nx+2) v2 0),(4,I a),(5,.ptr (nx+4) v4 0),(6,I b),(7,.sl (nx+6) v6 2 0 (t.take 8).length)]) (fun _=>S) (fun v6=>[.cells v0 38 [L p],.cells v1 38 [.sc (.slice none 0 0)],.cells v2 38 [.sl (nx+3) v3 1 0 out.length],.cells v3 58 (out.flatMap Enc.enc),.cells v4 58 [.sl (nx+5) v5 1 0 od.length],.cells v5 72 (od.flatMap Enc.enc),.cells v6 35 ((t.take 8).flatMap Enc.enc)]) ?_ ?_
   ·refine zi (zB (fun s:Nat × Nat=>s.1<=8/\s.1<=t.length) (fun (j,v6)=>[(1,.ptr nx v0 0),(2,.ptr (nx+1) v1 0),(3,.ptr (nx+2) v2 0),(4,I a),(5,.ptr (nx+4) v4 0),(6,I b),(7,.sl (nx+6) v6 2 0 (t.take j).length),(8,I j)]) (fun (j,v6)=>[.cells v0 38 [L p],.cells v1 38 [.sc (.slice none 0 0)],.cells v2 38 [.sl (nx+3) v3 1 0 out.length],.cells v3 58 (out.flatMap Enc.enc),.cells v4 58 [.sl (nx+5) v5 1 0 od.length],.cells v5 72 (od.flatMap Enc.enc),.cells v6 35 ((t.take j).flatMap Enc.enc)]) (fun s=>8-s.1) (0,v6) [] (by simp) (by simp) (by simp) ?_)
    rintro ⟨j,v6⟩ ⟨hj8,hjt⟩
    simp only at hj8 hjt ⊢
    have fin3:(j=8\/j=t.length)->t.take j=t.take 8:=by
     rintro (h | h)
     ·rw [h]
     ·rw [h,List.take_length,List.take_of_length_le (by omega)]
    by_cases hq5:j<t.length
    case neg =>
     have hk:=fin3 (.inr (by omega))
     rw [hk]
     repeat apply za
     refine ze [(13,48)] (zL hq1 e0 hq3 e2 hq5 zx) ?_
     exact zo rfl (zu (zD v6 [] trivial (by simp) rfl (by simp)))
    by_cases hq6:(j:Int)<8
    case neg =>
     have hk:=fin3 (.inl (by omega))
     rw [hk]
     repeat apply za
     refine ze [(13,48)] (zL hq1 e0 hq3 e2 hq5 hq6) ?_
     exact zo rfl (zu (zD v6 [] trivial (by simp) rfl (by simp)))
    obtain ⟨s,tl3,c1,c2,c3,_,e3⟩:=el 2 rfl t j hq5
    have hjl:(t.take j).length=j:=by simp;omega
    have hjl2:(t.take (j+1)).length=j+1:=by simp;omega
    generalize htj:t.take j=tj at hjl c3
    repeat apply za
    refine ze [(13,48)] (zL hq1 e0 hq3 e2 hq5 hq6) ?_
    refine zm rfl (zh (za (zi (ze [] (zL hq1 e0 hq3 e2 hq5 e3) ?_))))
    refine ⟨by omega,?_⟩
    refine zb ?_
    exact zq (j+1,v6+1) [] ⟨by omega,by omega⟩ (by simp;omega) (by simp [zt j (by omega),c3]) rfl (by simp [c3])
   ·intro v6 _
    have hfr:(t.take 8).length*2=((t.take 8).flatMap Enc.enc).length:=by rw [wd]
    generalize ht8:t.take 8=t8 at hfr ⊢
    refine zX 6 rfl ?_
    refine zb ?_
    refine ⟨by omega,?_⟩
    refine zb ?_
    exact zq (b+1,od++[t8],v5+1) [.dead] ⟨by omega,by omega,by rw [b3,hod,<-ht8];simp⟩ (by simp;omega) (by simp [zt b (by omega)]) rfl (by simp)
  ·rintro ⟨v3,v5⟩ -
   simp only
   have hc6:(vN d).length<=6:=by simp [vN];omega
   generalize hcd:vN d=cd at hc6 ⊢
   refine zX 5 rfl ?_
   refine zb ?_
   refine ⟨by omega,?_⟩
   refine zb ?_
   exact zq (a+1,out++[vN d],v3+1) [_,.dead] ⟨by omega,by omega,by rw [a3,ho];simp⟩ (by simp;omega) (by simp [zt a (by omega)]) rfl (by simp [hcd];rfl)
 ·intro v3 _
  refine za (zb ?_)
  refine zg ⟨_,_,by simp;rfl,⟨v3,by simp [zp],rfl⟩,ZY (j:=3) hd (by simp)⟩
theorem Zml (p:zJ):Pure Tryz.prog 36 [.agg [L p]] (.agg [L (uu p)]) :=
 Zby 3 (fun S nx hd=>Zmk p S nx hd) (by rw [jg];omega)
def lx:Inst:=⟨1,1,9,9,[],[[0]]⟩
def ly:Inst:=⟨1,1,9,9,[⟨1,1,[1],0,0,0,0,0⟩],[[0,3],[4,0]]⟩
def lp:zJ:=[[]]
theorem Zmm:∀i:Nat,yJ 1 i=1<->i=0:=by
 intro i
 cases i with
 | zero=>simp [yJ]
 | succ i=>simp [yJ,Nat.div_eq_of_lt (show 1<2 ^ (i+1) from Nat.one_lt_two_pow (by omega))]
open Go
theorem Zex (p:Nat):∀k:Nat,k<=64->∀i:Nat,yJ (jn p k) i=1->i<k
 | 0,_,i,h=>by simp [jn,yJ] at h
 | k+1,hk,i,h=>by
  have ih:=Zex p k (by omega) i
  unfold jn at h
  split at h
  ·rw [Zd7 _ _ (QJ p k) (by omega)] at h
   have h2:((jn p k ||| 2 ^ k).testBit i)=true:=by
    rw [Je];unfold jW at h;rw [if_pos (by omega),Int.toNat_natCast] at h;simp [h]
   rw [Nat.testBit_or,Nat.testBit_two_pow,Bool.or_eq_true] at h2
   rcases h2 with h2 | h2
   ·rw [Je] at h2
    have:=ih (by simpa using h2);omega
   ·have:k=i:=by simpa using h2
    omega
  ·have:=ih h;omega
theorem XP {p a k:Nat} {d:Int} (h:d∈yq p a k):∃i:Nat,d=i/\i<k/\yJ p i=1:=by
 simp only [yq,List.mem_map,List.mem_filter,List.mem_range,Bool.and_eq_true,decide_eq_true_eq] at h
 obtain ⟨i,⟨h1,_,h3⟩,rfl⟩:=h
 exact ⟨i,rfl,h1,h3⟩
theorem Zey (c:Cust) (days:Int) (h1:1<=days) (h7:days<=7):CustMade (jo c days) days.toNat:=by
 unfold jo
 split
 ·have a:=j9 c.rate 0 9 (by omega)
  have b:=j9 c.size 1 30 (by omega)
  have d:=j9 c.start 0 (yA c.size 1 30) (by omega)
  exact ⟨⟨by dsimp only;omega,by dsimp only;omega,by dsimp only;omega⟩,by simp,by simp,fun h=>by simp at h⟩
 ·have a:=j9 c.demand 1 15 (by omega)
  refine ⟨⟨by simp,by simp,by simp⟩,?_,?_,fun _=>⟨?_,by dsimp only;omega,by dsimp only;omega⟩⟩
  ·intro p hp
   simp only [uP] at hp
   split at hp
   ·simp only [List.mem_singleton] at hp;omega
   ·obtain ⟨q,_,rfl⟩:=List.mem_map.1 hp;exact QJ q _
  ·simp only [uP];split
   ·simp
   ·simp;omega
  ·intro p hp d hd
   obtain ⟨i,rfl,_,hb⟩:=XP hd
   simp only [uP] at hp
   split at hp
   ·simp only [List.mem_singleton] at hp;subst hp
    have:=(Zmm i).1 hb;omega
   ·obtain ⟨q,_,rfl⟩:=List.mem_map.1 hp
    have:=Zex q days.toNat (by omega) i hb;omega
theorem Zmn (c:Cust) (days:Int):CustOk (jo c days):=by
 unfold jo
 split
 ·have a:=j9 c.rate 0 9 (by omega)
  have b:=j9 c.size 1 30 (by omega)
  have d:=j9 c.start 0 (yA c.size 1 30) (by omega)
  have e:=j9 c.rule 1 2 (by omega)
  have f:=j9 c.hold 0 4 (by omega)
  refine ⟨?_,?_,by simp,by simp,?_,?_,?_,?_,?_⟩<;>(unfold zR;dsimp only;omega)
 ·have a:=j9 c.demand 1 15 (by omega)
  refine ⟨?_,?_,?_,?_,?_,?_,?_,?_,?_⟩
  ·unfold zR;dsimp only;omega
  ·unfold zR;dsimp only;omega
  ·intro p hp
   simp only [uP] at hp
   split at hp
   ·simp only [List.mem_singleton] at hp;omega
   ·obtain ⟨q,_,rfl⟩:=List.mem_map.1 hp;exact QJ q _
  ·simp only [uP];split
   ·simp
   ·simp;omega
  all_goals (unfold zR;dsimp only;omega)
theorem XT (x:Inst):1<=(yp x).days/\(yp x).days<=7:=j9 x.days 1 7 (by omega)
theorem Zmo (x:Inst):0<=(yp x).cap/\(yp x).cap<=40:=j9 x.cap 0 40 (by omega)
theorem Zap (x:Inst):(yp x).cust.length<=6:=by simp [yp];omega
theorem XU (x:Inst) {c:Cust} (h:c∈(yp x).cust):∃c0,c=jo c0 (yp x).days:=by
 simp only [yp,List.mem_map] at h
 obtain ⟨c0,_,rfl⟩:=h
 exact ⟨c0,rfl⟩
def Qc (x:Inst) (v c l:Int):Inst:=⟨(yp x).days,v,c,l,(yp x).cust,(yp x).dist⟩
theorem Zmp (x:Inst) (v c l:Int) (hc:c<=2147483648):InstMade (Qc x v c l) (yp x).days.toNat:=by
 have h:=XT x
 refine ⟨?_,by omega,?_,?_,hc⟩
 ·show (yp x).days=_;omega
 ·have:=Zap x;show (yp x).cust.length<=1000;omega
 ·intro d hd
  obtain ⟨c0,rfl⟩:=XU x hd
  exact Zey c0 _ h.1 h.2
theorem Zmq (x:Inst) (v c l:Int) (hv:zR v) (hc:zR c) (hl:zR l):InstOk (Qc x v c l):=by
 have h:=XT x
 refine ⟨by unfold zR;show -9223372036854775808<=(yp x).days/\(yp x).days<=_;omega,hv,hc,hl,?_,?_,?_,?_⟩
 ·have:=Zap x;show (yp x).cust.length<=_;omega
 ·intro d hd
  obtain ⟨c0,rfl⟩:=XU x hd
  exact Zmn c0 _
 ·show (yp x).dist.length<=_;simp [yp];omega
 ·intro r hr
  have hr:r∈(yp x).dist:=hr
  simp only [yp,List.mem_map] at hr
  obtain ⟨a,_,rfl⟩:=hr
  refine ⟨by simp [xR];omega,fun d hd=>?_⟩
  simp only [xR,List.mem_map] at hd
  obtain ⟨b,_,rfl⟩:=hd
  split
  ·have:=j9 (arc x a b) 0 60 (by omega);unfold zR;omega
  ·unfold zR;omega
theorem Zez {d:zj} {t:zG} (ht:t∈d) {s:Stop} (hs:s∈t):s∈d.flatten:=List.mem_flatten.2 ⟨t,ht,hs⟩
theorem Zaq {m:Nat}:∀(l:List Int),l.Nodup->(∀c∈l,0<=c/\c<m)->l.length<=m:=by
 intro l hn hl
 have h1:(l.map Int.toNat).Nodup:=by
  refine List.Pairwise.map _ ?_ (List.Pairwise.and_mem.1 hn)
  rintro a b ⟨ha,hb,hab⟩ e
  have:=hl a ha;have:=hl b hb
  exact hab (by omega)
 have h2:∀c∈l.map Int.toNat,c∈List.range m:=by
  intro c hc
  obtain ⟨z,hz,rfl⟩:=List.mem_map.1 hc
  have:=hl z hz
  exact List.mem_range.2 (by omega)
 have:=h1.length_le_of_subset h2
 simpa using this
theorem Jj {m n:Nat} {p:zJ} (h:MadeP m n p) {d:zj} (hd:d∈p):d.flatten.length<=m/\d.length<=m/\∀t∈d,t.length<=m:=by
 have h1:=Zaq (m:=m) _ (h.nd d hd) (fun c hc=>by
  obtain ⟨s,hs,rfl⟩:=List.mem_map.1 hc
  exact (h.ok d hd s hs).1)
 rw [List.length_map] at h1
 have h2:=XO d (h.ne d hd)
 exact ⟨h1,by omega,fun t ht=>by have:=Yj d t ht;omega⟩
theorem Zmr {m n:Nat} {p:zJ} (h:MadeP m n p) (hm:m<=1000) (hn:n<=64) (hc:jN p<=64000):PlanSz p:=by
 have hl:=h.len
 refine ⟨⟨by omega,fun d hd=>by have:=(Jj h hd).2.1;omega,fun d hd t ht=>by have:=(Jj h hd).2.2 t ht;omega,by rw [Zao];omega⟩,fun d hd=>by have:=(Jj h hd).1;omega⟩
theorem Zms {m n:Nat} {p:zJ} (h:MadeP m n p) (hm:m<=1000):∀d∈p,DayOk d:=by
 intro d hd
 refine ⟨by have:=(Jj h hd).2.1;omega,fun t ht=>by have:=(Jj h hd).2.2 t ht;omega,fun t ht s hs=>?_⟩
 have:=(h.ok d hd s (Zez ht hs)).1
 unfold small;omega
open Go Go.Proofs Hp
def x4 (x:Inst) (c:Nat):Stop:=⟨c,if (x.cust.getD c default).kind=1 then (x.cust.getD c default).demand else 1⟩
def xK (x:Inst) (s:Stop) (d:zj):Int:=if (yE x d s).2=true then max 0 (W (W (yi x (yE x d s).1)-W (yi x d))) else 4294967296
theorem ZeA (x:Inst) (c:Int):Pure Tryz.prog 56 [.agg (zv x),I c] (B (decide (0<=c) && decide (c<x.cust.length))):=by
 refine zz Tryz.func56 Tryz.ntmps56 Tryz.results56 fun S nx hd=>?_
 refine za (zb ?_)
 intro v0
 by_cases h:0<=c
 ·by_cases h2:c<x.cust.length
  ·refine za (ze [(2,7)] (zn h h2) ?_)
   exact zg (zk hd rfl (by simp [zp,h,h2]))
  ·refine za (ze [(2,7)] (zn h h2) ?_)
   exact zg (zk hd rfl (by simp [zp,h,h2]))
 ·refine za (ze [(2,7)] (zn h zx) ?_)
  exact zg (zk hd rfl (by simp [zp,h]))
open Go Go.Proofs Hp
theorem Zmt {x:Inst} {p:zJ} (h:ZE x p=0):jD x=true/\(p.length:Int)=x.days/\(∀d∈p,yh x d=0)/\∀i,i<x.cust.length->ur x p i=0:=by
 unfold ZE at h
 split at h
 ·cases h
 split at h
 ·cases h
 rename_i h1 h2
 split at h
 ·rename_i h3;exact absurd h h3
 rename_i h3
 refine ⟨by simpa using h1,Classical.not_not.1 h2,fun d hd=>(Zd8 _).1 (Classical.not_not.1 h3) _ (List.mem_map.2 ⟨d,hd,rfl⟩),fun i hi=>(Zd8 _).1 h _ (List.mem_map.2 ⟨i,List.mem_range.2 hi,rfl⟩)⟩
theorem Jk {x:Inst} (hx:x.cust.length<=900) {d:zj} (h:yh x d=0):d.flatten.length<=x.cust.length/\d.length<=x.cust.length/\RgOk x d [⟨0,0⟩]:=by
 obtain ⟨h1,h2,h3⟩:=(xG x d).1 h
 have hg:=Zab h
 have hl:=Zaq (m:=x.cust.length) _ h2 (fun c hc=>by
  obtain ⟨s,hs,rfl⟩:=List.mem_map.1 hc
  have:=hg s hs
  simp [qu] at this
  omega)
 rw [List.length_map] at hl
 have hn:=Vs h
 have hd:=XO d hn
 refine ⟨hl,by omega,⟨by omega,fun t ht=>?_,fun t ht s hs=>?_⟩,h,by rw [List.length_singleton];omega⟩
 ·have:=Yj d t ht;omega
 ·have:=hg s (Zez ht hs)
  simp [qu] at this
  unfold small;omega
theorem ZeB {x:Inst} (hx:x.cust.length<=900) (ha:jh x) (hv:0<=x.veh) {d:zj} (h:yh x d=0):SOk x d.flatten/\SG x d.flatten d:=by
 obtain ⟨h1,h2,h3⟩:=(xG x d).1 h
 obtain ⟨g1,g2,g3⟩:=Jk hx h
 refine ⟨⟨by omega,ha,hv,by omega,fun s hs=>?_,h2⟩,⟨h1,.refl _⟩⟩
 obtain ⟨t,ht,hst⟩:=List.mem_flatten.1 hs
 exact g3.ok.s t ht s hst
theorem Zmu (c:Int) (d:zj):(qj c d).flatten=d.flatten.filter fun s=>decide (s.c≠c):=by
 unfold qj
 have:∀l:zj,(l.filter fun t=>!t.isEmpty).flatten=l.flatten:=by
  intro l
  induction l with
  | nil=>rfl
  | cons t l ih=>cases t<;>simp [List.filter_cons,ih]
 rw [this]
 induction d with
 | nil=>rfl
 | cons t d ih=>simp only [List.map_cons,List.flatten_cons,List.filter_append,ih];rfl
open Go Go.Proofs Hp
theorem Zar {α:Type} [Enc α] (id v:Nat) (cs:List PV) (l:List (List α)):(l.flatMap Enc.enc).map (yU id v cs)=(l.flatMap Enc.enc:List PV):=by
 refine (List.map_congr_left fun p hp=>?_).trans (List.map_id _)
 obtain ⟨t,_,ht⟩:=List.mem_flatMap.1 hp
 rw [ZbB,List.mem_singleton] at ht
 subst ht
 rfl
theorem ZeC (p:zJ) (hp:p.length<=1000) (hd0:∀d∈p,d.length<=1000) (ht:∀d∈p,∀t∈d,t.length<=1000) {S:Store} {nx:Nat} (hd:zQ nx S) :
  Spec Tryz.prog 61 [.agg [L p]] S (fun q S'=>∃v,q=.agg [.sl (nx+3) v 1 0 p.length]/\S'=S.set (nx+3) (.cells v 58 (p.flatMap Enc.enc))):=by
 refine uc hd Tryz.func61 Tryz.ntmps61 Tryz.results61 ?_
 refine za (zb ?_)
 intro v0 v1
 refine za (zb ?_)
 intro v2
 refine y8 2 0 58 1 rfl rfl fun v3=>?_
 repeat apply za
 refine zb ?_
 refine zi (zB (fun s:Nat × Nat=>s.1<=p.length) (fun (k,w)=>[(2,.ptr (nx+1) v1 0),(3,.ptr (nx+2) v2 0),(10,L p),(11,I p.length),(12,I k)]) (fun (k,w)=>[.cells v0 38 [L p],.cells v1 38 [yy],.cells v2 38 [.sl (nx+3) w 1 0 k],.cells w 58 ((p.take k).flatMap Enc.enc)]) (fun s=>p.length-s.1) (0,v3) [] (by simp) (by simp) (by simp) ?_)
 rintro ⟨k,w⟩ hk
 simp only at hk ⊢
 refine za (zb ?_)
 refine za (zr rfl (fun hc=>?_) (fun hc=>?_))
 ·simp at hc
  obtain ⟨d,tl,a1,a2,a3,e0⟩:=zC rfl p k hc
  have hdm:=List.mem_of_getElem? a1
  have hdl:=hd0 d hdm
  have hk1:1<=p.length-k:=by omega
  have htk:(p.take k).length=k:=by rw [List.length_take];omega
  generalize hpk:p.take k=pk at *
  have hqf:(pk.flatMap Enc.enc:List PV).length=k:=(jg pk).trans htk
  have hqt:(pk.flatMap Enc.enc:List PV).take k=pk.flatMap Enc.enc:=List.take_of_length_le (by omega)
  have hfp:∀id v cs,(pk.flatMap Enc.enc).map (yU id v cs)=(pk.flatMap Enc.enc:List PV):=fun id v cs=>Zar id v cs pk
  refine zh (za (zi (za (ze [] (zE hc e0 hk1) ?_))))
  intro v4
  refine za (zb ?_)
  intro v5
  refine y8 5 0 72 1 rfl rfl fun v6=>?_
  repeat apply za
  refine zb ?_
  refine zi (zB (fun s:Nat × Nat=>s.1<=d.length) (fun (j,w6)=>[(2,.ptr (nx+1) v1 0),(3,.ptr (nx+2) v2 0),(6,.ptr (nx+5) v5 0),(10,L p),(11,I p.length),(12,I k),(17,L d),(18,I d.length),(19,I j)])
   (fun (j,w6)=>[.cells v0 38 [L p],.cells v1 38 [yy],.cells v2 38 [.sl (nx+3) w 1 0 k],.cells w 58 (pk.flatMap Enc.enc),.cells v4 58 [L d],.cells v5 58 [.sl (nx+6) w6 1 0 j],.cells w6 72 ((d.take j).flatMap Enc.enc)]) (fun s=>d.length-s.1) (0,v6) [] (by simp) (by simp) (by simp) ?_)
  rintro ⟨j,w6⟩ hj
  simp only at hj ⊢
  refine za (zb ?_)
  refine za (zr rfl (fun hcj=>?_) (fun hcj=>?_))
  ·simp at hcj
   obtain ⟨t,tl2,b1,b2,b3,f0⟩:=zC rfl d j hcj
   have htl:=ht d hdm t (List.mem_of_getElem? b1)
   have hj1:1<=d.length-j:=by omega
   have htj:(d.take j).length=j:=by rw [List.length_take];omega
   generalize hdj:d.take j=dj at *
   have hrf:(dj.flatMap Enc.enc:List PV).length=j:=(jg dj).trans htj
   have hrt:(dj.flatMap Enc.enc:List PV).take j=dj.flatMap Enc.enc:=List.take_of_length_le (by omega)
   have hfd:∀id v cs,(dj.flatMap Enc.enc).map (yU id v cs)=(dj.flatMap Enc.enc:List PV):=fun id v cs=>Zar id v cs dj
   have htf:(t.flatMap Enc.enc:List PV).length=t.length*2:=wd t
   refine zh (za (zi (za (ze [] (zE hcj f0 hj1) ?_))))
   intro v7
   refine zF (some [nx+7]) (Row.pures [0,2,3] (.alt 1 (.alt 4 (Row.pures [5,6] (.alt 7 (Row.pures [8] (.alt 9 (.done) .stop)) .stop)) .stop) (.alt 4 (Row.pures [5,6] (.alt 1 (.alt 7 (Row.pures [8] (.alt 9 (.done) .stop)) .stop) .stop)) .stop))) mixed (zn hrf hrt) ?_
   refine ⟨⟨by omega,fun v8=>⟨⟨by omega,by omega⟩,?_⟩⟩,⟨by omega,fun v8=>⟨⟨by omega,by omega⟩,?_⟩⟩⟩
   all_goals
    refine zX 8 rfl ?_
    simp only [List.map_cons,List.map_nil,List.set_cons_succ,List.set_cons_zero,jI,hfp,hfd,List.map_append]
    refine zb ?_
    exact zq (j+1,w6+1) [_,_] (by simp;omega) (by simp;omega) (by simp [zt j (by omega)]) rfl (by simp [b3,yU,htf];exact ⟨rfl,rfl⟩)
  ·simp at hcj
   obtain rfl:j=d.length:=by omega
   rw [List.take_length]
   have hfd:∀id v cs,(d.flatMap Enc.enc).map (yU id v cs)=(d.flatMap Enc.enc:List PV):=fun id v cs=>Zar id v cs d
   refine zu (zX 6 rfl ?_)
   simp only [List.map_cons,List.map_nil,List.set_cons_succ,List.set_cons_zero,jI,hfp,hfd]
   refine ze [] (zn hqf hqt) ?_
   refine ⟨by omega,?_⟩
   refine zb ?_
   exact zq (k+1,w+1) [_,_,_] (by simp;omega) (by simp;omega) (by simp [zt k (by omega)]) rfl (by simp [a3];exact ⟨rfl,rfl,rfl⟩)
 ·simp at hc
  obtain rfl:k=p.length:=by omega
  rw [List.take_length]
  refine zu (za (zb ?_))
  exact zg ⟨_,_,(by simp;rfl),⟨w,by simp [zp],rfl⟩,ZY (j:=3) hd (by simp)⟩
def uv (x:Inst) (p:zJ) (day b:Int):zJ × Bool :=
 if day<0\/(p.length:Int)<=day then (p,false)
 else if W (yi x (p.getD day.toNat []))<=W (yi x (jV x b (p.getD day.toNat []))) then (p,false)
 else (p.set day.toNat (jV x b (p.getD day.toNat [])),true)
structure PlanM (x:Inst) (p:zJ):Prop where
 cust:x.cust.length<=900
 inst:InstH x
 len:p.length<=1000
 may:∀d∈p,yh x d=0
theorem PlanM.sizes {x:Inst} {p:zJ} (h:PlanM x p):∀d∈p,d.length<=1000/\(∀t∈d,t.length<=1000)/\DayOk d/\d.flatten.length<=1000:=by
 intro d hd
 obtain ⟨h1,h2,h3⟩:=Jk h.cust (h.may d hd)
 have:=h.cust
 exact ⟨by omega,fun t ht=>by have:=Yj d t ht;omega,h3.ok,by omega⟩
theorem Zmv {x:Inst} (hx:x.cust.length<=900) (hi:InstH x) {d:zj} (h:yh x d=0) (b:Int):yh x (jV x b d)=0/\(jV x b d).flatten.Perm d.flatten/\yi x (jV x b d)<=yi x d:=by
 obtain ⟨hs,hg⟩:=ZeB hx hi.arc hi.veh h
 obtain ⟨h1,h2,h3⟩:=XA hs hi.diag b.toNat d hg
 obtain ⟨m1,m2,m3⟩:=(xG x d).1 h
 change SG x d.flatten (jV x b d) at h1
 change yi x (jV x b d)<=yi x d at h2
 change (jV x b d).length<=d.length at h3
 exact ⟨(xG x _).2 ⟨h1.may,(h1.perm.map _).nodup_iff.2 m2,by omega⟩,h1.perm,h2⟩
open Go Go.Proofs Hp
theorem XV {α:Type} {low:Nat} {f:α->PV} (id v:Nat) (cs:List PV) (hf:∀a,xq low id v cs (f a)=f a) (l:List α):(l.map f).map (xq low id v cs)=l.map f:=by
 rw [List.map_map];exact List.map_congr_left fun a _=>hf a
theorem ZG:∀(i:Nat) (a b:PV),([]:List PV)[i]?=some a->([]:List PV)[i]?=some b->PV.Le a b:=fun i a b h=>by simp at h
theorem jO {p q:PV} {ps qs:List PV} (h:PV.Le p q) (hs:∀(i:Nat) (a b:PV),ps[i]?=some a->qs[i]?=some b->PV.Le a b):∀(i:Nat) (a b:PV),(p :: ps)[i]?=some a->(q :: qs)[i]?=some b->PV.Le a b
 | 0,a,b,ha,hb=>by simp at ha hb;subst ha;subst hb;exact h
 | i+1,a,b,ha,hb=>hs i a b (by simpa using ha) (by simpa using hb)
theorem Zmw {low:Nat} (d:zj) (c:Int) (hdn:d.length<=1048576) (hdt:∀t∈d,t.length<=1048576):NewC Tryz.prog low 54 [.agg [L d],I c] (.tup [.agg [nD low (qj c d)],I (Vq c d)]):=by
 rw [Zdg]
 refine u7 Tryz.func54 Tryz.ntmps54 Tryz.results54 fun S nx hd=>?_
 refine za (zb ?_)
 intro v0 v1
 refine za (zb ?_)
 intro v2
 refine y8 2 0 72 1 rfl rfl fun v3=>?_
 refine za (zb ?_)
 repeat apply za
 refine zb ?_
 refine zi (zB (fun (s:Nat × Nat)=>s.1<=d.length) (fun (k,v3)=>[(1,I c),(4,.ptr (nx+1) v1 0),(6,.ptr (nx+2) v2 0),(7,I (W (uk c (d.take k).flatten))),(14,L d),(15,I d.length),(16,I k)]) (fun (k,v3)=>[.cells v0 58 [L d],.cells v1 58 [yy],.cells v2 58 [.sl (nx+3) v3 1 0 (qj c (d.take k)).length],.cells v3 72 ((qj c (d.take k)).map (nT low))]) (fun s=>d.length-s.1) (0,v3) [] (by simp) (by simp [uk]) (by simp [qj]) ?_)
 rintro ⟨k,v3⟩ hk
 simp only at hk ⊢
 refine za (zb ?_)
 refine za (zr rfl (fun hc=>?_) (fun hc=>?_))
 ·simp at hc
  obtain ⟨t,tl,a1,a2,a3,e0⟩:=zC rfl d k hc
  have hk1:1<=d.length-k:=by omega
  have htm:=List.mem_of_getElem? a1
  have htn:=hdt t htm
  have hrd:=Zdj c (d.take k) t
  rw [<-a3] at hrd
  have hfl:(d.take (k+1)).flatten=(d.take k).flatten++t:=by rw [a3,List.flatten_append];simp
  generalize (d.take k).flatten=pre at *
  have hrl:(qj c (d.take k)).length<=1048576:=Nat.le_trans (Vx _ _) (by rw [List.length_take];omega)
  refine zh (za (zi ?_))
  generalize hrk:qj c (d.take k)=rk at *
  have hfz:∀id v cs,(rk.map (nT low)).map (xq low id v cs)=rk.map (nT low):=fun id v cs=>XV id v cs (fun _=>rfl) rk
  have hrf:(rk.map (nT low)).length=rk.length:=List.length_map _
  have hrt:(rk.map (nT low)).take rk.length=rk.map (nT low):=List.take_of_length_le (by omega)
  refine za (ze [] (zE hc e0 hk1) ?_)
  intro v4
  refine za (zb ?_)
  refine yT 10 35 2 rfl fun v5=>?_
  repeat apply za
  refine zb ?_
  refine zi (zB (fun (s:Nat × Nat)=>s.1<=t.length) (fun (j,v5)=>[(1,I c),(4,.ptr (nx+1) v1 0),(6,.ptr (nx+2) v2 0),(7,I (W (uk c (pre++t.take j)))),(10,.sl (nx+5) v5 2 0 (qw c (t.take j)).length),(14,L d),(15,I d.length),(16,I k),(21,L t),(22,I t.length),(23,I j)]) (fun (j,v5)=>[.cells v0 58 [L d],.cells v1 58 [yy],.cells v2 58 [.sl (nx+3) v3 1 0 rk.length],.cells v3 72 (rk.map (nT low)),.cells v4 72 [L t],.cells v5 35 ((qw c (t.take j)).flatMap Enc.enc)]) (fun s=>t.length-s.1) (0,v5) [] (by simp) (by simp [qw]) (by simp [qw]) ?_)
  rintro ⟨j,v5⟩ hj
  simp only at hj ⊢
  refine za (zb ?_)
  refine za (zr rfl (fun hcj=>?_) (fun hcj=>?_))
  ·simp at hcj
   obtain ⟨s,ts,b1,b2,b3,b4,b5⟩:=el 2 rfl t j hcj
   have hj2:2<=t.length*2-j*2:=by omega
   have hsum:=Zdh c (pre++t.take j) s
   rw [List.append_assoc,<-b3] at hsum
   have hrs:=Zdi c (t.take j) s
   rw [<-b3] at hrs
   have hul:(qw c (t.take j)).length<=1048576:=Nat.le_trans (Q5 _ _) (by rw [List.length_take];omega)
   generalize qw c (t.take j)=u at *
   have huf:(u.flatMap Enc.enc:List PV).length=u.length*2:=wd u
   have hut:(u.flatMap Enc.enc:List PV).take (u.length*2)=u.flatMap Enc.enc:=List.take_of_length_le (by omega)
   refine zh (za (zi (za (ze [] (zE hcj b5 hj2) ?_))))
   intro v6
   refine za (zb ?_)
   refine zr rfl (fun hq=>?_) (fun hq=>?_)
   ·simp at hq
    rw [if_pos hq] at hsum hrs
    rw [List.append_nil] at hrs
    refine zb ?_
    refine zb ?_
    exact zq (j+1,v5) [_] (by simp;omega) (by simp;omega) (by simp [zt j (by omega),hsum,xO,hrs]) rfl (by simp [hrs];rfl)
   ·simp at hq
    rw [if_neg hq] at hsum hrs
    rw [Int.add_zero] at hsum
    have hul':((qw c (t.take (j+1))).flatMap Enc.enc:List PV)=u.flatMap Enc.enc++[I s.c,I s.q]:=by rw [hrs,List.flatMap_append];rfl
    refine ze [] (zn huf hut) ?_
    refine ⟨by omega,?_⟩
    refine zb ?_
    exact zq (j+1,v5+1) [_] (by simp;omega) (by simp;omega) (by simp [zt j (by omega),hsum,hrs]) rfl (by simp [hul'];rfl)
  ·simp at hcj
   obtain rfl:j=t.length:=by omega
   refine zu ?_
   rw [List.take_length]
   have hul:(qw c t).length<=1048576:=Nat.le_trans (Q5 _ _) htn
   generalize qw c t=u at *
   have huf:(u.flatMap Enc.enc:List PV).length=u.length*2:=wd u
   refine wR hd 5 rfl ?_
   simp only [List.map_cons,List.map_nil,List.set_cons_succ,List.set_cons_zero,wQ,hfz]
   refine za (zb ?_)
   refine zr rfl (fun hq=>?_) (fun hq=>?_)
   ·simp at hq
    rw [if_neg (by omega)] at hrd
    have hrl':(rk++[u]).map (nT low)=rk.map (nT low)++[nT low u]:=by rw [List.map_append];rfl
    refine ze [] (zn hrf hrt) ?_
    refine ⟨by omega,?_⟩
    refine zb ?_
    exact zq (k+1,v3+1) [_,_] (by simp;omega) (by simp;omega) (by simp [zt k (by omega),hfl]) rfl (by simp [hrd,hrl'];exact ⟨rfl,rfl⟩)
   ·simp at hq
    rw [if_pos (by rw [hq];rfl),List.append_nil] at hrd
    refine zh (zb ?_)
    exact zq (k+1,v3) [_,_] (by simp;omega) (by simp;omega) (by simp [zt k (by omega),hfl]) rfl (by simp [hrd];exact ⟨rfl,rfl⟩)
 ·simp at hc
  obtain rfl:k=d.length:=by omega
  refine zu (wR hd 3 rfl ?_)
  have g1:d.take d.length=d:=List.take_length
  refine za (zb ?_)
  exact zg (zk hd (by simp;rfl) (by simp [zp,g1]))
theorem Zmx {low:Nat} (p:zJ) (c:Int) (hp:p.length<=1000) (hd0:∀d∈p,d.length<=1048576) (ht:∀d∈p,∀t∈d,t.length<=1048576):NewC Tryz.prog low 23 [.agg [L p],I c] (.agg [nP low (vM c p)]):=by
 unfold vM
 refine u7 Tryz.func23 Tryz.ntmps23 Tryz.results23 fun S nx hd=>?_
 refine za (zb ?_)
 intro v0 v1
 refine za (zb ?_)
 intro v2
 refine y8 2 0 58 1 rfl rfl fun v3=>?_
 repeat apply za
 refine zb ?_
 refine zi (zB (fun s:Nat × zJ × Nat=>s.1<=p.length/\s.2.1=(p.take s.1).map (qj c)) (fun (k,q,w)=>[(1,I c),(4,.ptr (nx+1) v1 0),(5,.ptr (nx+2) v2 0),(11,L p),(12,I p.length),(13,I k)]) (fun (k,q,w)=>[.cells v0 38 [L p],.cells v1 38 [yy],.cells v2 38 [.sl (nx+3) w 1 0 q.length],.cells w 58 (q.map (nD low))]) (fun s=>p.length-s.1) (0,[],v3) [] (by simp) (by simp) (by simp) ?_)
 rintro ⟨k,q,w⟩ ⟨hk,hq⟩
 simp only at hk hq ⊢
 have hql:q.length=k:=by rw [hq];simp;omega
 refine za (zb ?_)
 refine za (zr rfl (fun hc=>?_) (fun hc=>?_))
 ·simp at hc
  obtain ⟨d,tl,a1,a2,a3,e0⟩:=zC rfl p k hc
  have hdm:=List.mem_of_getElem? a1
  have hr:=Zmw (low:=low) d c (hd0 d hdm) (ht d hdm)
  generalize hrd:qj c d=rd at hr
  have hk1:1<=p.length-k:=by omega
  have hqf:(q.map (nD low)).length=q.length:=List.length_map _
  have hqt:(q.map (nD low)).take q.length=q.map (nD low):=List.take_of_length_le (by omega)
  refine zh (za (zi (za (ze [] (zE hc e0 hk1) ?_))))
  intro v4
  refine za (zb ?_)
  refine vJ [] (hr) trivial ?_
  intro v5
  refine ze [] (zn hqf hqt) ?_
  refine ⟨by omega,?_⟩
  refine zb ?_
  exact zq (k+1,q++[rd],w+1) [_,_] ⟨hc,by rw [a3,List.map_append,hq,<-hrd];rfl⟩ (by simp;omega) (by simp [zt k (by omega)]) rfl (by simp;exact ⟨rfl,rfl⟩)
 ·simp at hc
  obtain rfl:k=p.length:=by omega
  rw [List.take_length] at hq
  refine zu (wR hd 3 rfl ?_)
  refine za (zb ?_)
  exact zg (zk hd (by simp;rfl) (by simp [zp,hq]))
def ZeD (low:Nat) (x:Inst) (step:zj->Option zj) (G:zj->Prop):Prop:=∀d,G d->∃mk ma mb mi mj least,Pure Tryz.prog 106 [.agg (zv x),.agg [L d]] (.tup [.agg [I mk,I ma,I mb,I mi,I mj],I least,B (step d).isSome]) /\
 ∀e,step d=some e->NewC Tryz.prog low 107 [.agg (zv x),.agg [L d],.agg [I mk,I ma,I mb,I mi,I mj]] (.tup [.agg [nD low e],I 0])/\G e
theorem Zmy {low:Nat} (x:Inst) (d:zj) (b:Int) (step:zj->Option zj) (G:zj->Prop) (hb:b<=9223372036854775807) (hdn:d.length<=1048576) (hdt:∀t∈d,t.length<=1048576) (hd':0<b->G d) (hs:ZeD low x step G):NewC Tryz.prog low 62 [.agg (zv x),.agg [L d],I b] (.tup [.agg [nD low (qK step b.toNat d)],I (if jr step b.toNat d<b.toNat then (jr step b.toNat d:Int) else j4 b 0)]):=by
 refine u7 Tryz.func62 Tryz.ntmps62 Tryz.results62 fun S nx hd=>?_
 refine za (zb ?_)
 intro v0 v1 v2
 refine za (zb ?_)
 intro v3
 refine y8 3 0 72 1 rfl rfl fun v4=>?_
 repeat apply za
 refine zb ?_
 refine zi (zB (fun s':Nat × Nat=>s'.1<=d.length) (fun (k,v4)=>[(2,I b),(3,.ptr nx v0 0),(6,.ptr (nx+2) v2 0),(7,I 0),(8,.ptr (nx+3) v3 0),(16,L d),(17,I d.length),(18,I k)]) (fun (k,v4)=>[.cells v0 25 (zv x),.cells v1 58 [L d],.cells v2 58 [yy],.cells v3 58 [.sl (nx+4) v4 1 0 k],.cells v4 72 ((d.map (nT low)).take k)]) (fun s'=>d.length-s'.1) (0,v4) [] (by simp) (by simp) (by simp) ?_)
 rintro ⟨k,v4⟩ hk
 simp only at hk ⊢
 refine za (zb ?_)
 refine za (zr rfl (fun hc=>?_) (fun hc=>?_))
 ·simp at hc
  obtain ⟨t,tl,a1,a2,a3,e0⟩:=zC rfl d k hc
  have hk1:1<=d.length-k:=by omega
  have hcl:=Zem (low:=low) t (hdt t (List.mem_of_getElem? a1))
  have hcl':((d.map (nT low)).take k).length=k:=by rw [List.length_take,List.length_map];omega
  have hct:((d.map (nT low)).take k).take k=(d.map (nT low)).take k:=List.take_of_length_le (by omega)
  have hcn:(d.map (nT low)).take (k+1)=(d.map (nT low)).take k++[nT low t]:=by rw [<-List.map_take,<-List.map_take,a3,List.map_append];rfl
  generalize (d.map (nT low)).take k=cs at *
  refine zh (za (zi (za (ze [] (zE e0 hc hk1) ?_))))
  intro v5
  refine zF (some [nx+5]) (Row.pures [0,2,3] (.alt 1 (.alt 4 (Row.pures [5,6] (.alt 7 (Row.pures [8] (.alt 9 (.done) .stop)) .stop)) .stop) (.alt 4 (Row.pures [5,6] (.alt 1 (.alt 7 (Row.pures [8] (.alt 9 (.done) .stop)) .stop) .stop)) .stop))) mixed (zn hcl' hct) ?_
  refine ⟨?_,?_⟩
  all_goals
   refine Zaf (hcl) (zn hcl' hct) ?_
   refine ⟨by omega,?_⟩
   refine zb ?_
   exact zq (k+1,v4+1) [_] hc (by simp;omega) (by simp [zt k (by omega)]) rfl (by simp [hcn];rfl)
 ·simp at hc
  obtain rfl:k=d.length:=by omega
  have g1:(d.map (nT low)).take d.length=d.map (nT low):=List.take_of_length_le (by simp)
  refine zu ?_
  rw [g1]
  refine wR hd 4 rfl ?_
  repeat apply za
  refine zb ?_
  clear hk hc g1
  refine zi (zB (fun s':Nat × zj=>s'.1<=b.toNat/\(0<b->G s'.2)/\qK step (b.toNat-s'.1) s'.2=qK step b.toNat d/\s'.1+jr step (b.toNat-s'.1) s'.2=jr step b.toNat d) (fun (k,e)=>[(2,I b),(3,.ptr nx v0 0),(6,.ptr (nx+2) v2 0),(8,.ptr (nx+3) v3 0),(11,I k)]) (fun (k,e)=>[.cells v0 25 (zv x),.cells v1 58 [L d],.cells v2 58 [yy],.cells v3 58 [nD low e]]) (fun s'=>b.toNat-s'.1) (0,d) [.dead] ⟨by simp,hd',by simp,by simp⟩ (by simp) (by simp) ?_)
  rintro ⟨k,e⟩ ⟨hk,hG,hi,hco⟩
  simp only at hk hG hi hco ⊢
  rw [<-hi]
  repeat apply za
  refine zb ?_
  refine zr rfl (fun hc=>?_) (fun hc=>?_)
  ·simp at hc
   obtain ⟨mk,ma,mb,mi,mj,least,hB,hM⟩:=hs e (hG (by omega))
   obtain ⟨n,hn⟩:∃n,b.toNat-k=n+1:=⟨b.toNat-k-1,by omega⟩
   have hB':=hB.arg (args':=[.agg (zv x),.agg [nD low e]]) (by rfl) (jO (.rfl' _) (jO (ZF (Jg low e)) ZG))
   refine zh (za (zi (za (zb ?_))))
   refine zA hB' ?_
   intro v5
   repeat apply za
   refine zb ?_
   cases hst:step e with
   | none =>
    have hr:qK step (b.toNat-k) e=e:=by rw [hn];unfold qK;rw [hst]
    have hr2:jr step (b.toNat-k) e=0:=by rw [hn];unfold jr;rw [hst]
    rw [hr2] at hco
    rw [hr,<-hco,if_pos (by omega)]
    refine zm rfl (za (zb ?_))
    exact zg (zk hd (by simp;rfl) (by simp [zp]))
   | some e2 =>
    have hr:qK step (b.toNat-k) e=qK step (b.toNat-(k+1)) e2:=by rw [hn,show b.toNat-(k+1)=n by omega];conv=>lhs;unfold qK;rw [hst]
    have hr2:jr step (b.toNat-k) e=jr step (b.toNat-(k+1)) e2+1:=by rw [hn,show b.toNat-(k+1)=n by omega];conv=>lhs;unfold jr;rw [hst]
    obtain ⟨hM1,hG2⟩:=hM e2 hst
    have hM1':=hM1.arg (args':=[.agg (zv x),.agg [nD low e],.agg [I mk,I ma,I mb,I mi,I mj]]) (by rfl) (jO (.rfl' _) (jO (ZF (Jg low e)) (jO (.rfl' _) ZG)))
    refine zo rfl (zh (zb ?_))
    refine vJ [] (hM1') trivial ?_
    refine zb ?_
    exact zq (k+1,e2) [_] ⟨by simp;omega,fun _=>hG2,hr.symm,by simp only;omega⟩ (by simp;omega) (by simp [zt k (by omega)]) rfl (by simp;rfl)
  ·simp at hc
   have hz:b.toNat-k=0:=by omega
   rw [hz] at hco ⊢
   have hco':jr step b.toNat d=k:=by rw [<-hco];rfl
   rw [hco',if_neg (by omega)]
   refine zu (za (zb ?_))
   exact zg (zk hd (by simp;rfl) (by simp [zp,qK]))
theorem Zmz {low:Nat} {x:Inst} {l:List Stop} (h:SOk x l) (h0:arc x 0 0=0):ZeD low x (jU x) (SG x l):=by
 intro d g
 have hv:=g.mv h
 have hl:∀a,tlen d a<=1000:=by
  intro a
  unfold tlen
  rw [List.getD_eq_getElem?_getD]
  cases hq:d[a]? with
  | none=>simp
  | some l=>exact hv.t l (List.mem_of_getElem? hq)
 have hd1:(jU x d).isSome=decide ((jL x d).2<0):=by
  unfold jU
  split
  ·rename_i q;simp [q]
  ·rename_i q;simp [q]
 refine ⟨_,_,_,_,_,_,by rw [hd1];exact ZdG x d h.arc hv,fun e he=>⟨?_,(VS h h0 g he).1⟩⟩
 unfold jU at he
 split at he
 ·rename_i hb
  cases he
  obtain ⟨h1,-,-⟩:=VR hb
  obtain ⟨h1,h2,h3⟩:=Xy h1
  have:=hl (jL x d).1.a
  have:=hl (jL x d).1.b
  exact Zl0 x d _ hv.n hv.t h1 (by omega) (by omega)
 ·cases he
theorem ZmA {low:Nat} {x:Inst} (hx:x.cust.length<=900) (hi:InstH x) {d:zj} (h:yh x d=0) {b:Int} (hb:b<=9223372036854775807):∃k:Int,NewC Tryz.prog low 62 [.agg (zv x),.agg [L d],I b] (.tup [.agg [nD low (jV x b d)],I k]):=by
 obtain ⟨hs,hg⟩:=ZeB hx hi.arc hi.veh h
 have o:=hg.ok hs
 exact ⟨_,Zmy x d b (jU x) (SG x d.flatten) hb o.n o.t (fun _=>hg) (Zmz hs hi.diag)⟩
open Go Go.Proofs Hp
section
variable {P:Program} {n N nx low:Nat} {S:Store}
theorem ZmB {fn:Func} {c:Code} {f:FuncId} {rs:Array ResultVar} {args:List PV} {Q:PV->Store->Prop} (hd:zQ nx S) (hf:P.funcs[f]?=some fn) (hN:fn.ntmps=N) (hrs:fn.results=rs)
  (h:PW P (xY low S) 0 N c (xM P rs.toList Q) (j5 args) (ext S nx []))
  (hname : (fn.name == "runtime.NumGoroutine") = false := by rfl) (hb : fn.body = some c := by exact rfl) (hargs : args.length ≤ N := by simp) : SpecV P (Y7 low) f args S Q := by
 refine ⟨qn hf hname hb,?_⟩
 intro C w vs hS hv
 rw [yX hd] at h
 exact Qw (keep:=(xY low S).keep) hf hb hN (congrArg Array.toList hrs) hargs h C w vs hS ⟨C,w,hv,hS,.refl _ _ _⟩
end
theorem ZmC {P:Program} {low:Nat} {f:FuncId} {args:List PV} {sz k e:Nat} {cs:List PV} (j:Nat)
  (h:∀S nx,zQ nx S->SpecV P (Y7 low) f args S (fun p S'=>∃v,p=.agg [.sl (nx+j) v sz 0 k]/\S'=S.set (nx+j) (.cells v e cs))) (hk:k*sz=cs.length):NewC P low f args (.agg [.nl low sz k cs]):=by
 intro S
 refine ⟨(h (fun _=>.dead) 0 (fun _ _=>rfl)).1,?_⟩
 intro C w vs hS hV hl hr
 have hd:zQ C.next S:=fun i hi=>by
  cases hs:S i with
  | dead=>rfl
  | cells v e cs=>have:=hS.lt i (by rw [hs];simp);omega
  | map v es=>have:=hS.lt i (by rw [hs];simp);omega
 refine ((h S C.next hd).2 C w vs hS hV hl hr).mono ?_
 rintro e' w' ⟨p,u,S',C',rfl,⟨v,rfl,rfl⟩,hrel,hsim,hstep⟩
 obtain ⟨g1,g2,g3⟩:=Zeh hd hS hV hsim hstep
 refine ⟨.agg [.nl low sz k cs],u,S,C',rfl,⟨rfl,rfl⟩,?_,g1,hstep.trans g2⟩
 cases hrel with
 | agg hl2 h1 h2 =>
  refine .agg (by simpa using hl2) h1 fun i c v' hc hv=>?_
  cases i with
  | succ i=>simp at hc
  | zero =>
   simp at hc;subst hc
   have:=g3 _ _ (h2 0 _ v' rfl hv)
   simpa [xq,hk] using this
theorem ZmD {low:Nat} (p:zJ) (hp:p.length<=1000) (hd0:∀d∈p,d.length<=1000) (ht:∀d∈p,∀t∈d,t.length<=1000) {S:Store} {nx:Nat} (hd:zQ nx S) :
  SpecV Tryz.prog (Y7 low) 61 [.agg [L p]] S (fun q S'=>∃v,q=.agg [.sl (nx+3) v 1 0 p.length]/\S'=S.set (nx+3) (.cells v 58 (p.map (nD low)))):=by
 refine ZmB hd Tryz.func61 Tryz.ntmps61 Tryz.results61 ?_
 refine za (zb ?_)
 intro v0 v1
 refine za (zb ?_)
 intro v2
 refine y8 2 0 58 1 rfl rfl fun v3=>?_
 repeat apply za
 refine zb ?_
 refine zi (zB (fun s:Nat × Nat=>s.1<=p.length) (fun (k,w)=>[(2,.ptr (nx+1) v1 0),(3,.ptr (nx+2) v2 0),(10,L p),(11,I p.length),(12,I k)]) (fun (k,w)=>[.cells v0 38 [L p],.cells v1 38 [yy],.cells v2 38 [.sl (nx+3) w 1 0 k],.cells w 58 ((p.map (nD low)).take k)]) (fun s=>p.length-s.1) (0,v3) [] (by simp) (by simp) (by simp) ?_)
 rintro ⟨k,w⟩ hk
 simp only at hk ⊢
 refine za (zb ?_)
 refine za (zr rfl (fun hc=>?_) (fun hc=>?_))
 ·simp at hc
  obtain ⟨d,tl,a1,a2,a3,e0⟩:=zC rfl p k hc
  have hdm:=List.mem_of_getElem? a1
  have hdl:=hd0 d hdm
  have hk1:1<=p.length-k:=by omega
  have hqf:((p.map (nD low)).take k).length=k:=by rw [List.length_take,List.length_map];omega
  have hqt:((p.map (nD low)).take k).take k=(p.map (nD low)).take k:=List.take_of_length_le (by omega)
  have hfp:∀id v cs,((p.map (nD low)).take k).map (xq low id v cs)=(p.map (nD low)).take k:=fun id v cs=>by rw [<-List.map_take];exact XV id v cs (fun _=>rfl) _
  have hcn:(p.map (nD low)).take (k+1)=(p.map (nD low)).take k++[nD low d]:=by rw [<-List.map_take,<-List.map_take,a3,List.map_append];rfl
  generalize (p.map (nD low)).take k=pk at *
  refine zh (za (zi (za (ze [] (zE hc e0 hk1) ?_))))
  intro v4
  refine za (zb ?_)
  intro v5
  refine y8 5 0 72 1 rfl rfl fun v6=>?_
  repeat apply za
  refine zb ?_
  refine zi (zB (fun s:Nat × Nat=>s.1<=d.length) (fun (j,w6)=>[(2,.ptr (nx+1) v1 0),(3,.ptr (nx+2) v2 0),(6,.ptr (nx+5) v5 0),(10,L p),(11,I p.length),(12,I k),(17,L d),(18,I d.length),(19,I j)])
   (fun (j,w6)=>[.cells v0 38 [L p],.cells v1 38 [yy],.cells v2 38 [.sl (nx+3) w 1 0 k],.cells w 58 pk,.cells v4 58 [L d],.cells v5 58 [.sl (nx+6) w6 1 0 j],.cells w6 72 ((d.map (nT low)).take j)]) (fun s=>d.length-s.1) (0,v6) [] (by simp) (by simp) (by simp) ?_)
  rintro ⟨j,w6⟩ hj
  simp only at hj ⊢
  refine za (zb ?_)
  refine za (zr rfl (fun hcj=>?_) (fun hcj=>?_))
  ·simp at hcj
   obtain ⟨t,tl2,b1,b2,b3,f0⟩:=zC rfl d j hcj
   have htl:=ht d hdm t (List.mem_of_getElem? b1)
   have hj1:1<=d.length-j:=by omega
   have hrf:((d.map (nT low)).take j).length=j:=by rw [List.length_take,List.length_map];omega
   have hrt:((d.map (nT low)).take j).take j=(d.map (nT low)).take j:=List.take_of_length_le (by omega)
   have hfd:∀id v cs,((d.map (nT low)).take j).map (xq low id v cs)=(d.map (nT low)).take j:=fun id v cs=>by rw [<-List.map_take];exact XV id v cs (fun _=>rfl) _
   have hdn:(d.map (nT low)).take (j+1)=(d.map (nT low)).take j++[nT low t]:=by rw [<-List.map_take,<-List.map_take,b3,List.map_append];rfl
   generalize (d.map (nT low)).take j=dj at *
   have htf:(t.flatMap Enc.enc:List PV).length=t.length*2:=wd t
   refine zh (za (zi (za (ze [] (zE hcj f0 hj1) ?_))))
   intro v7
   refine zF (some [nx+7]) (Row.pures [0,2,3] (.alt 1 (.alt 4 (Row.pures [5,6] (.alt 7 (Row.pures [8] (.alt 9 (.done) .stop)) .stop)) .stop) (.alt 4 (Row.pures [5,6] (.alt 1 (.alt 7 (Row.pures [8] (.alt 9 (.done) .stop)) .stop) .stop)) .stop))) mixed (zn hrf hrt) ?_
   refine ⟨⟨by omega,fun v8=>⟨by omega,?_⟩⟩,⟨by omega,fun v8=>⟨by omega,?_⟩⟩⟩
   all_goals
    refine wR hd 8 rfl ?_
    simp only [List.map_cons,List.map_nil,List.set_cons_succ,List.set_cons_zero,wQ,hfp,hfd,List.map_append]
    refine zb ?_
    exact zq (j+1,w6+1) [_,_] (by simp;omega) (by simp;omega) (by simp [zt j (by omega)]) rfl (by simp [hdn,xq,htf];exact ⟨rfl,rfl⟩)
  ·simp at hcj
   obtain rfl:j=d.length:=by omega
   rw [show (d.map (nT low)).take d.length=d.map (nT low) from List.take_of_length_le (by simp)]
   have hfd:∀id v cs,(d.map (nT low)).map (xq low id v cs)=d.map (nT low):=fun id v cs=>XV id v cs (fun _=>rfl) d
   refine zu (wR hd 6 rfl ?_)
   simp only [List.map_cons,List.map_nil,List.set_cons_succ,List.set_cons_zero,wQ,hfp,hfd]
   refine ze [] (zn hqf hqt) ?_
   refine ⟨by omega,?_⟩
   refine zb ?_
   exact zq (k+1,w+1) [_,_,_] (by simp;omega) (by simp;omega) (by simp [zt k (by omega)]) rfl (by simp [hcn];exact ⟨rfl,rfl,rfl⟩)
 ·simp at hc
  obtain rfl:k=p.length:=by omega
  rw [show (p.map (nD low)).take p.length=p.map (nD low) from List.take_of_length_le (by simp)]
  refine zu (za (zb ?_))
  exact zg ⟨_,_,(by simp;rfl),⟨w,by simp [zp],rfl⟩,ZY (j:=3) hd (by simp)⟩
open Go Go.Proofs Hp
theorem ZmE {α:Type} (f:α->PV) (l:List α) (k:Nat) (a:α) (h:k<l.length):yb (l.map f) k [f a]=(l.set k a).map f:=by
 unfold yb
 rw [List.map_set,List.set_eq_take_append_cons_drop,if_pos (by simpa using h)]
 simp
theorem ZmF {low:Nat} {x:Inst} {p:zJ} (h:PlanM x p) (day b:Int) (hb:b<=9223372036854775807) :
  NewC Tryz.prog low 28 [.agg (zv x),.agg [L p],I day,I b] (.tup [.agg [nP low (uv x p day b).1],B (uv x p day b).2]):=by
 have hsz:=h.sizes
 have hpl:=h.len
 refine u7 Tryz.func28 Tryz.ntmps28 Tryz.results28 fun S nx hd=>?_
 refine za (zb ?_)
 intro v0 v1 v2
 refine za (z8 [] (by rfl) (by rfl) fun K Gc Gh hK hGc hGh X hX0 hX=>?_)
 simp -implicitDefEqProofs [hX0,hX]
 try clear hX0 hX X
 refine hGc _ _ _ _ _ _ _ fun hsuf=>(((ZmD p h.len (fun d hd=>(hsz d hd).1) (fun d hd=>(hsz d hd).2.1) qN).weak fun _ _=>Zae).mono ?_)
 rintro _ _ ⟨v3,rfl,rfl⟩
 refine ⟨_,_,J6 3 _,?_⟩
 clear hGc hGh
 clear Gc Gh
 refine zW hsuf (D:=[]) (by rfl) fun Gc Gh hGc hGh X hX0 hX=>?_
 simp -implicitDefEqProofs [hX0,hX,Nat.add_assoc]
 clear hX0 hX X
 intro v4
 refine hK _ _ _ ?_
 clear hK hGc hGh
 clear K Gc Gh
 by_cases h0:day<0
 ·have hz:uv x p day b=(p,false):=by unfold uv;rw [if_pos (.inl h0)]
  rw [hz]
  repeat apply za
  refine ze [(2,17)] (zn h0 zx) ?_
  refine zm rfl (wR hd 6 rfl ?_)
  refine za (zb ?_)
  exact zg (zk hd (by simp;rfl) rfl)
 by_cases h1:(p.length:Int)<=day
 ·have hz:uv x p day b=(p,false):=by unfold uv;rw [if_pos (.inr h1)]
  rw [hz]
  repeat apply za
  refine ze [(2,17)] (zn h0 h1) ?_
  refine zm rfl (wR hd 6 rfl ?_)
  refine za (zb ?_)
  exact zg (zk hd (by simp;rfl) rfl)
 obtain ⟨k,rfl⟩:=Int.eq_ofNat_of_zero_le (show 0<=day by omega)
 have hk:k<p.length:=by omega
 obtain ⟨d,tl,a1,a2,a3,e0⟩:=zC rfl p k hk
 have hdm:=List.mem_of_getElem? a1
 have hgd:p.getD (k:Int).toNat []=d:=by rw [Int.toNat_natCast,List.getD_eq_getElem?_getD,a1];rfl
 have hz:uv x p k b=if W (yi x d)<=W (yi x (jV x b d)) then (p,false) else (p.set k (jV x b d),true):=by
  unfold uv
  rw [if_neg (by omega),hgd,Int.toNat_natCast]
 obtain ⟨m,hI0⟩:=ZmA (low:=low) h.cust h.inst (h.may d hdm) hb
 have hI:=hI0.arg (args':=[.agg (zv x),.agg [nD low d],I b]) (by rfl) (jO (.rfl' _) (jO (ZF (Jg low d)) (jO (.rfl' _) ZG)))
 clear hI0
 have him:=Zmv h.cust h.inst (h.may d hdm) b
 have hc1:=(YM x d (hsz d hdm).2.2.1).arg (args':=[.agg (zv x),.agg [nD low d]]) (by rfl) (jO (.rfl' _) (jO (ZF (Jg low d)) ZG))
 have hc2:=(YM x (jV x b d) (Jk h.cust him.1).2.2.ok).arg (args':=[.agg (zv x),.agg [nD low (jV x b d)]]) (by rfl) (jO (.rfl' _) (jO (ZF (Jg low _)) ZG))
 have e1:(p.map (nD low)).drop k=nD low d :: (p.map (nD low)).drop (k+1):=by rw [<-List.map_drop,a2];simp
 rw [hz]
 generalize jV x b d=e at *
 generalize W (yi x d)=z1 at *
 generalize W (yi x e)=z2 at *
 have hk1:1<=p.length-k:=by omega
 have hpf:(p.map (nD low)).length=p.length:=List.length_map _
 have hsp':yb (p.map (nD low)) k [nD low e]=(p.set k e).map (nD low):=ZmE _ p k e hk
 repeat apply za
 refine ze [(2,17)] (zn h0 h1) ?_
 refine zo rfl (zh (za (zF (some [nx,nx+6,nx+7]) (Row.pures [0,1,2,3,4,5,6] (.alt 7 (Row.pures [8,9,10] (.alt 11 (.alt 12 (Row.pures [13] .done) .stop) .stop)) (.alt 11 (.alt 7 (Row.pures [8,9,10] (.alt 12 (Row.pures [13] .done) .stop)) .stop) .stop))) mixed (zE e1 hk hk1) ?_)))
 refine ⟨?_,fun v5=>?_⟩
 refine Zaf (hI) (zE e1 hk hk1) ?_
 intro v5
 rotate_left
 refine Zaf (hI) (zE e1 hk hk1) ?_
 all_goals
  by_cases hle:z1<=z2
  ·rw [if_pos hle]
   repeat apply za
   refine zF (some [nx,nx+6,nx+7,nx+8]) (Row.pures [0,1,2,3,4,5,6,7,8,9,10] .done) mixed (zP e1 hk hk1 hle) ?_
   refine zN (hc2) (zP e1 hk hk1 hle) ?_
   refine zN (hc1) (zP e1 hk hk1 hle) ?_
   refine zm rfl (wR hd 6 rfl ?_)
   refine za (zb ?_)
   exact zg (zk hd (by simp;rfl) rfl)
  ·rw [if_neg hle]
   repeat apply za
   refine zF (some [nx,nx+6,nx+7,nx+8]) (Row.pures [0,1,2,3,4,5,6,7,8,9,10] .done) mixed (zP e1 hk hk1 hle) ?_
   refine zN (hc2) (zP e1 hk hk1 hle) ?_
   refine zN (hc1) (zP e1 hk hk1 hle) ?_
   refine zo rfl (zh (za (ze [] (zE hk hsp' hpf) ?_)))
   refine ⟨by omega,?_⟩
   refine wR hd 6 rfl ?_
   refine za (zb ?_)
   exact zg (zk hd (by simp;rfl) (by simp [zp]))
open Go Go.Proofs Hp
def RowOf (S:Store) (pl:PV) (l:List Int):Prop:=pl=L l\/∃id ver,pl=.sl id ver 1 0 l.length/\S id=.cells ver 3 (l.flatMap Enc.enc)
theorem RowOf.ext {S:Store} {pl:PV} {l:List Int} (h:RowOf S pl l) {nx:Nat} (hd:zQ nx S) (obs:List Ob):RowOf (ext S nx obs) pl l:=by
 rcases h with h | ⟨id,ver,h1,h2⟩
 ·exact .inl h
 ·exact .inr ⟨id,ver,h1,(zH (qB hd h2 (by simp))).trans h2⟩
theorem ZeE {S:Store} {nx id ver:Nat} (hd:zQ nx S) (x:Inst) (v p f pr:PV) (b:Int) (fn:FuncId) (fs:List PV) (n:Nat) (hn:x.days=n) (hn2:n<=1000) (hS:S id=.cells ver 89 (jE x v b p f pr)) (Pk:Nat->Store->Prop) (h0:Pk 0 S)
  (hPd:∀k T,Pk k T->zQ nx T) (hstep:∀k,k<n->∀T,Pk k T->Spec Tryz.prog fn (fs++[I k]) T (fun _ S'=>Pk (k+1) S')) :
  Spec Tryz.prog 64 [.ptr id ver 0,.fn (.func fn) fs []] S (fun _ S'=>Pk n S'):=by
 refine uc hd Tryz.func64 Tryz.ntmps64 Tryz.results64 ?_
 have hlt:id<nx:=qB hd hS (by simp)
 have xw:=fun obs=>(zH (S:=S) (obs:=obs) hlt).trans hS
 refine za (ze [] (zn xw hn) ?_)
 refine zi (yP (σ:=Nat × Store) (fun s=>s.1<=n/\Pk s.1 s.2) (fun s=>[(1,.fn (.func fn) fs []),(9,I n),(10,I s.1)]) (fun s=>s.2) (fun _=>[]) (fun s=>n-s.1) (zD (0,S) [] ⟨by simp,h0⟩ (by simp) rfl (by simp)) ?_)
 rintro ⟨k,T⟩ ⟨hk,hP⟩
 simp only at hk hP ⊢
 refine za (zb ?_)
 refine za (zr rfl (fun hc=>?_) (fun hc=>?_))
 ·simp at hc
  refine zh (za (zi (za (zb ?_))))
  refine z8 [] (by rfl) (by rfl) fun K Gc Gh hK hGc hGh X hX0 hX=>?_
  simp -implicitDefEqProofs [hX0,hX]
  try clear hX0 hX X
  refine hGc _ _ _ _ _ _ _ fun hsuf=>(Spec.mono (by rw [yX (hPd k T hP)];simpa using hstep k hc T hP) ?_).v
  rintro _ T' hP'
  refine ⟨T',[],(yX (hPd _ _ hP')).symm,?_⟩
  clear hGc hGh
  clear Gc Gh
  refine zW hsuf (D:=[]) (by rfl) fun Gc Gh hGc hGh X hX0 hX=>?_
  simp -implicitDefEqProofs [hX0,hX]
  clear hX0 hX X
  refine hK _ _ _ ?_
  clear hK hGc hGh
  clear K Gc Gh
  refine zb ?_
  exact zq (k+1,T') [] ⟨hc,hP'⟩ (by simp;omega) (by simp [zt k (by omega)]) rfl (by simp)
 ·simp at hc
  obtain rfl:k=n:=by omega
  refine zu ?_
  exact ⟨_,T,rfl,hP,zU (hPd _ _ hP)⟩
def vO (x:Inst) (j:Nat):Int:=W (yc x [(j:Int)])
def qS (x:Inst) (k i:Nat):List (List Int):=(List.range x.cust.length).map fun j=>List.replicate (if j<i then k+1 else k) (vO x j)
theorem ux (x:Inst) (k i:Nat):(qS x k i).length=x.cust.length:=by simp [qS]
theorem ZeF (x:Inst) (k i j:Nat) (h:j<x.cust.length):(qS x k i).getD j []=List.replicate (if j<i then k+1 else k) (vO x j):=by
 rw [List.getD_eq_getElem?_getD];simp [qS,h]
theorem ZmG (x:Inst) (k:Nat):qS x k x.cust.length=qS x (k+1) 0:=by
 unfold qS
 refine List.map_congr_left fun j hj=>?_
 rw [if_pos (List.mem_range.1 hj),if_neg (by omega)]
theorem ZmH (x:Inst) (k i:Nat) (h:i<x.cust.length):(qS x k i).set i (List.replicate (k+1) (vO x i))=qS x k (i+1):=by
 apply List.ext_getElem?
 intro j
 rw [List.getElem?_set,ux]
 by_cases hij:i=j
 ·subst hij;rw [if_pos rfl,if_pos h];simp [qS,h]
 ·rw [if_neg hij]
  by_cases hj:j<x.cust.length
  ·simp only [qS,List.getElem?_map,List.getElem?_range hj,Option.map_some]
   congr 2
   by_cases h1:j<i
   ·rw [if_pos h1,if_pos (by omega)]
   ·rw [if_neg h1,if_neg (by omega)]
  ·rw [List.getElem?_eq_none (by rw [ux];omega),List.getElem?_eq_none (by rw [ux];omega)]
theorem ZmI {S:Store} {id ver A va base:Nat} {ws:Nat->Nat} {x:Inst} {v p f:PV} {b:Int} (k:Nat) (hx:x.cust.length<=1000) (hk:k<=1000) (hid:id<base) (hidA:id≠A) (hS:S id=.cells ver 89 (jE x v b p f (.sl A va 1 0 x.cust.length)))
  (hR:RowsAt S A va 45 base 3 1 ws (qS x k 0)) :
  Spec Tryz.prog 65 [.ptr id ver 0,I k] S (fun _ S'=>(∃ws',RowsAt S' A va 45 base 3 1 ws' (qS x (k+1) 0))/\∀o,o≠A->(o<base\/base+x.cust.length<=o)->S' o=S o):=by
 refine qO Tryz.func65 Tryz.ntmps65 Tryz.results65 fun nx hd=>?_
 have hlt:id<nx:=qB hd hS (by simp)
 have hltA:A<nx:=qB hd hR.arr (by simp)
 have hltR:∀i,i<x.cust.length->base+i<nx:=fun i hi=>qB hd (hR.row i (by rw [ux];exact hi)) (by simp)
 have xw:=fun obs=>(zH (S:=S) (obs:=obs) hlt).trans hS
 refine za (ze [] xw ?_)
 refine zi (yP (σ:=Nat × Store × (Nat->Nat)) (fun s=>s.1<=x.cust.length/\RowsAt s.2.1 A va 45 base 3 1 s.2.2 (qS x k s.1)/\∀o,o≠A->(o<base\/base+x.cust.length<=o)->s.2.1 o=S o)
  (fun s=>[(0,.ptr id ver 0),(10,I x.cust.length),(11,I s.1)]) (fun s=>s.2.1) (fun _=>[]) (fun s=>x.cust.length-s.1) (zD (0,S,ws) [] ⟨by simp,hR,fun _ _ _=>rfl⟩ (by simp) rfl (by simp)) ?_)
 clear hR
 rintro ⟨i,T,ws⟩ ⟨hi,hR,hT⟩
 simp only at hi hR hT ⊢
 refine za (zb ?_)
 refine za (zr rfl (fun hc=>?_) (fun hc=>?_))
 ·simp at hc
  have hTw:T id=.cells ver 89 (jE x v b p f (.sl A va 1 0 x.cust.length)):=(hT id hidA (.inl hid)).trans hS
  have hAb:=hR.out
  have hri:=hR.row i (by rw [ux];exact hc)
  rw [ZeF x k i i hc,if_neg (Nat.lt_irrefl i)] at hri
  have hlti:=hltR i hc
  have xw:=fun obs=>(zH (S:=T) (obs:=obs) hlt).trans hTw
  have xa:=fun obs=>(zH (S:=T) (obs:=obs) hltA).trans hR.arr
  have xr:=fun obs=>(zH (S:=T) (obs:=obs) hlti).trans hri
  have ya:=fun (o:Ob) obs=>(zH (S:=T.set (base+i) o) (obs:=obs) hltA).trans ((Store.set_other _ _ _ _ (by omega)).trans hR.arr)
  have yw:=fun (o:Ob) obs=>(zH (S:=T.set (base+i) o) (obs:=obs) hlt).trans ((Store.set_other _ _ _ _ (by omega)).trans hTw)
  have zw:=fun (o o':Ob) obs=>(zH (S:=(T.set (base+i) o).set A o') (obs:=obs) hlt).trans ((Store.set_other _ _ _ _ hidA).trans ((Store.set_other _ _ _ _ (by omega)).trans hTw))
  have g1:¬nx<=base+i:=by omega
  have g2:¬nx<=A:=by omega
  obtain ⟨tl,hdr⟩:=Zad base 1 ws (qS x k i) i (by rw [ux];exact hc)
  rw [ZeF x k i i hc,if_neg (Nat.lt_irrefl i),List.length_replicate] at hdr
  have hcl:(xX base 1 ws (qS x k i)).length=x.cust.length:=by rw [Y6,ux]
  have hsp:=Ve (xX base 1 ws (qS x k i)) i (.sl (base+i) (ws i+1) 1 0 (k+1)) (by omega)
  have hway:=ZbT x [(i:Int)] (by simp) (fun c hc=>by rw [List.mem_singleton.1 hc];unfold small;omega)
  have hfe:∀m:Nat,((List.replicate m (vO x i)).flatMap Enc.enc).length=m:=fun m=>by rw [j8];simp [Enc.sz]
  refine zh (za (zi (za (zb ?_))))
  refine zF (some [id]) (Row.pures [0,1,2,3,4,5,6,7,8,9,10,12,13,14,15,16,17,18,19] (.alt 11 (.alt 20 (Row.pures [21] (.alt 22 (.done) .stop)) .stop) .stop)) mixed (zL xw xa xr ya yw (zn (zL zw hdr g1 g2 hsp hcl) hc)) ?_
  refine zN (hway) (zL xw xa xr ya yw (zn (zL zw hdr g1 g2 hsp hcl) hc)) ?_
  refine ⟨by omega,by omega,?_⟩
  obtain ⟨T',hT'⟩:∃T',T'=(T.set (base+i) (.cells (ws i+1) 3 ((List.replicate (k+1) (vO x i)).flatMap Enc.enc))).set A (.cells va 45 ((xX base 1 ws (qS x k i)).set i (.sl (base+i) (ws i+1) 1 0 (List.replicate (k+1) (vO x i)).length))):=⟨_,rfl⟩
  have hnew:=hR.turn (i:=i) (by rw [ux];exact hc) (T':=T') (ws i+1) (List.replicate (k+1) (vO x i)) (by rw [hT'];exact Store.set_same _ _ _) (by rw [hT',Store.set_other _ _ _ _ (by omega),Store.set_same]) (fun o o1 o2=>by rw [hT',Store.set_other _ _ _ _ o1,Store.set_other _ _ _ _ o2])
  rw [ZmH x k i hc] at hnew
  refine zb ?_
  refine zq (i+1,T',_) [] ⟨hc,hnew,fun o ho hob=>?_⟩ (by simp;omega) (by simp [zt i (by omega)]) ?_ (by simp)
  ·dsimp only;rw [hT',Store.set_other _ _ _ _ ho,Store.set_other _ _ _ _ (by omega)];exact hT o ho hob
  ·dsimp only;rw [hT']
   have htk:((List.replicate k (vO x i)).flatMap Enc.enc).take k=(List.replicate k (vO x i)).flatMap Enc.enc:=List.take_of_length_le (by rw [hfe];exact Nat.le_refl _)
   simp only [List.length_replicate,List.replicate_succ',List.flatMap_append]
   unfold vO at htk
   simp [vO,htk]
 ·simp at hc
  obtain rfl:i=x.cust.length:=by omega
  rw [ZmG] at hR
  refine zu ?_
  have hdT:zQ nx T:=fun o ho=>by
   have h1:o≠A:=by omega
   by_cases h2:o<base\/base+x.cust.length<=o
   ·rw [hT o h1 h2];exact hd o ho
   ·have:=hltR (o-base) (by omega);omega
  exact ⟨_,T,rfl,⟨⟨ws,hR⟩,hT⟩,zU hdT⟩
def uy (k:Nat) (l:List Int):List Int:=l.set k (W (W (2*l.getD k 0)+1))
def x5 (pr:List (List Int)) (k i:Nat):List (List Int):=(List.range pr.length).map fun j=>if j<i then uy k (pr.getD j []) else pr.getD j []
def Qd (fs:List Int) (pr:List (List Int)) (k:Nat):List (List Int):=if fs.getD k 0=14 then pr.map (uy k) else pr
def Qe (fs:List Int) (pr:List (List Int)):Nat->List (List Int)
 | 0=>pr
 | k+1=>Qd fs (Qe fs pr k) k
theorem ZeG (k:Nat) (l:List Int):(uy k l).length=l.length:=by simp [uy]
theorem ZH (pr:List (List Int)) (k i:Nat):(x5 pr k i).length=pr.length:=by simp [x5]
theorem Zas (pr:List (List Int)) (k i j:Nat) (h:j<pr.length):(x5 pr k i).getD j []=if j<i then uy k (pr.getD j []) else pr.getD j []:=by
 rw [List.getD_eq_getElem?_getD,x5];simp [h]
theorem ZmJ (pr:List (List Int)) (k:Nat):x5 pr k 0=pr:=by
 apply List.ext_getElem?
 intro j
 simp only [x5,Nat.not_lt_zero,if_false,List.getElem?_map]
 by_cases h:j<pr.length
 ·rw [List.getElem?_range h];simp [h]
 ·rw [List.getElem?_eq_none (by simp;omega),List.getElem?_eq_none (by omega)];rfl
theorem ZmK (pr:List (List Int)) (k:Nat):x5 pr k pr.length=pr.map (uy k):=by
 apply List.ext_getElem?
 intro j
 simp only [x5,List.getElem?_map]
 by_cases h:j<pr.length
 ·rw [List.getElem?_range h];simp [h]
 ·rw [List.getElem?_eq_none (by simp;omega),List.getElem?_eq_none (by omega)];rfl
theorem ZmL (pr:List (List Int)) (k i:Nat) (h:i<pr.length):(x5 pr k i).set i (uy k (pr.getD i []))=x5 pr k (i+1):=by
 apply List.ext_getElem?
 intro j
 rw [List.getElem?_set,ZH]
 by_cases hij:i=j
 ·subst hij;rw [if_pos rfl,if_pos h];simp [x5,h]
 ·rw [if_neg hij]
  by_cases hj:j<pr.length
  ·simp only [x5,List.getElem?_map,List.getElem?_range hj,Option.map_some]
   congr 1
   by_cases h1:j<i
   ·rw [if_pos h1,if_pos (by omega)]
   ·rw [if_neg h1,if_neg (by omega)]
  ·rw [List.getElem?_eq_none (by rw [ZH];omega),List.getElem?_eq_none (by rw [ZH];omega)]
def u9 (m n:Nat) (pr:List (List Int)):Prop:=pr.length=m/\∀l∈pr,l.length=n/\∀z∈l,zR z
theorem Zat (x:Int):zR (W x):=by
 have key:∀m:Int,0<=m->m<2 ^ 64->zR (if (true && decide (m>=2 ^ (64-1)))=true then m-2 ^ 64 else m):=by
  intro m h1 h2
  unfold zR
  by_cases h:m>=2 ^ (64-1)
  ·simp [h];omega
  ·simp [h];omega
 exact key _ (Int.emod_nonneg x (by decide)) (Int.emod_lt_of_pos x (by decide))
theorem ZmM {m n:Nat} {pr:List (List Int)} (fs:List Int) (k:Nat) (h:u9 m n pr):u9 m n (Qd fs pr k):=by
 unfold Qd
 split
 ·refine ⟨by simp [h.1],fun l hl=>?_⟩
  obtain ⟨l',hl',rfl⟩:=List.mem_map.1 hl
  rw [ZeG]
  refine ⟨(h.2 l' hl').1,fun z hz=>?_⟩
  rcases List.mem_or_eq_of_mem_set hz with hz | rfl
  ·exact (h.2 l' hl').2 z hz
  ·exact Zat _
 ·exact h
theorem XW {m n:Nat} {pr:List (List Int)} (fs:List Int) (h:u9 m n pr):∀k,u9 m n (Qe fs pr k)
 | 0=>h
 | k+1=>ZmM fs k (XW fs h k)
theorem ZmN (x:Inst) (n:Nat):u9 x.cust.length n (qS x n 0):=by
 refine ⟨ux x n 0,fun l hl=>?_⟩
 obtain ⟨j,_,rfl⟩:=List.mem_map.1 hl
 refine ⟨by simp,fun z hz=>?_⟩
 rw [(List.mem_replicate.1 hz).2];exact Zat _
theorem ZmO {S:Store} {id ver A va base idF vF:Nat} {ws:Nat->Nat} {x:Inst} {v p:PV} {b:Int} {m n:Nat} {pr:List (List Int)} {fs:List Int} (k:Nat) (hm:m<=1000) (hn:n<=1000) (hkn:k<n) (hid:id<base) (hidA:id≠A) (hF:S idF=.cells vF 39 (fs.flatMap Enc.enc)) (hfl:fs.length=n)
  (hS:S id=.cells ver 89 (jE x v b p (.sl idF vF 1 0 fs.length) (.sl A va 1 0 m))) (hP:u9 m n pr) (hR:RowsAt S A va 45 base 3 1 ws pr) :
  Spec Tryz.prog 69 [.ptr id ver 0,I k] S (fun _ S'=>RowsAt S' A va 45 base 3 1 ws (Qd fs pr k)/\∀o,(o<base\/base+m<=o)->S' o=S o):=by
 obtain ⟨hPl,hPr⟩:=hP
 refine qO Tryz.func69 Tryz.ntmps69 Tryz.results69 fun nx hd=>?_
 have hlt:id<nx:=qB hd hS (by simp)
 have hltF:idF<nx:=qB hd hF (by simp)
 have hltA:A<nx:=qB hd hR.arr (by simp)
 have hltR:∀i,i<m->base+i<nx:=fun i hi=>qB hd (hR.row i (by omega)) (by simp)
 have xw:=fun obs=>(zH (S:=S) (obs:=obs) hlt).trans hS
 have xf:=fun obs=>(zH (S:=S) (obs:=obs) hltF).trans hF
 obtain ⟨e,tl0,e1,-,-,e0⟩:=zC rfl fs k (by omega)
 have hkf:k<fs.length:=by omega
 have hge:fs.getD k 0=e:=by rw [List.getD_eq_getElem?_getD,e1];rfl
 repeat apply za
 refine ze [] (zP xw xf e0 hkf) ?_
 by_cases he:e=14
 case neg =>
  refine zm (by simp [he]) ?_
  exact zg ⟨_,S,rfl,⟨by unfold Qd;rw [hge,if_neg he];exact hR,fun _ _=>rfl⟩,zU hd⟩
 refine zo (by simp [he]) ?_
 refine zh (za (ze [] xw ?_))
 have hkill:∀T:Store,(∀o,(o<base\/base+m<=o)->T o=S o)->zQ nx T:=fun T hT o ho=>by
  by_cases h2:o<base\/base+m<=o
  ·rw [hT o h2];exact hd o ho
  ·have:=hltR (o-base) (by omega);omega
 refine zi (yP (σ:=Nat × Store) (fun s=>s.1<=m/\RowsAt s.2 A va 45 base 3 1 ws (x5 pr k s.1)/\∀o,(o<base\/base+m<=o)->s.2 o=S o)
  (fun s=>[(0,.ptr id ver 0),(1,I k),(17,I m),(18,I s.1)]) (fun s=>s.2) (fun _=>[]) (fun s=>m-s.1) (zD (0,S) [] ⟨by simp,by simpa only [ZmJ] using hR,fun _ _=>rfl⟩ (by simp) rfl (by simp)) ?_)
 have hAb0:=hR.out
 clear hR
 rintro ⟨i,T⟩ ⟨hi,hR,hT⟩
 simp only at hi hR hT ⊢
 refine za (zb ?_)
 refine za (zr rfl (fun hc=>?_) (fun hc=>?_))
 ·simp at hc
  have hil:i<pr.length:=by omega
  have hTw:T id=.cells ver 89 (jE x v b p (.sl idF vF 1 0 fs.length) (.sl A va 1 0 m)):=(hT id (.inl hid)).trans hS
  have hri:=hR.row i (by rw [ZH];exact hil)
  rw [Zas pr k i i hil,if_neg (Nat.lt_irrefl i)] at hri
  obtain ⟨tl,hdr⟩:=Zad base 1 ws (x5 pr k i) i (by rw [ZH];exact hil)
  rw [Zas pr k i i hil,if_neg (Nat.lt_irrefl i)] at hdr
  have hcl:(xX base 1 ws (x5 pr k i)).length=m:=by rw [Y6,ZH,hPl]
  have hgl:(pr.getD i []).length=n:=by
   rw [List.getD_eq_getElem?_getD,List.getElem?_eq_getElem hil];exact (hPr _ (List.getElem_mem hil)).1
  generalize hrow:pr.getD i []=row at hri hdr hgl
  obtain ⟨z,tl2,z1,-,-,z0⟩:=zC rfl row k (by omega)
  have hgz:row.getD k 0=z:=by rw [List.getD_eq_getElem?_getD,z1];rfl
  have hkr:k<row.length:=by omega
  have hlti:=hltR i hc
  have xw:=fun obs=>(zH (S:=T) (obs:=obs) hlt).trans hTw
  have xa:=fun obs=>(zH (S:=T) (obs:=obs) hltA).trans hR.arr
  have xr:=fun obs=>(zH (S:=T) (obs:=obs) hlti).trans hri
  have yw:=fun (o:Ob) obs=>(zH (S:=T.set (base+i) o) (obs:=obs) hlt).trans ((Store.set_other _ _ _ _ (by omega)).trans hTw)
  have ya:=fun (o:Ob) obs=>(zH (S:=T.set (base+i) o) (obs:=obs) hltA).trans ((Store.set_other _ _ _ _ (by omega)).trans hR.arr)
  have g1:¬nx<=base+i:=by omega
  have hsp:=XN (α:=Int) rfl row k (W (W (2*z)+1)) hkr
  have hsp':yb (row.flatMap Enc.enc) k [I (W (W (2*z)+1))]=(row.set k (W (W (2*z)+1))).flatMap Enc.enc:=by simpa using hsp
  have hrl:(row.flatMap Enc.enc).length=n:=by rw [j8,hgl];simp [Enc.sz]
  refine zh (za (zi (za (zb ?_))))
  refine zF (some [id,A]) (Row.pures [0,1,2,3,4,5,6,7,8,9,10,11,12,13,15] (.alt 14 (Row.pures [16] (.alt 17 (Row.pures [18,19,20] (.alt 21 (.done) .stop)) .stop)) .stop)) mixed (zL xw xa xr yw ya (zn (zL hdr g1 hcl hc z0 hkr) (zP hsp' hrl hgl hkn))) ?_
  refine ⟨by omega,?_⟩
  obtain ⟨T',hT'⟩:∃T',T'=T.set (base+i) (.cells (ws i) 3 ((uy k row).flatMap Enc.enc)):=⟨_,rfl⟩
  have hnew:=hR.turn (i:=i) (by rw [ZH];exact hil) (T':=T') (ws i) (uy k row) (by
   rw [hT',Store.set_other _ _ _ _ (by omega),hR.arr]
   congr 1
   refine (List.ext_getElem? fun j=>?_).symm
   rw [List.getElem?_set]
   split
   ·rename_i hij
    subst hij
    rw [if_pos (by omega),Jf _ _ _ _ _ (by rw [ZH];exact hil),Zas pr k i i hil,if_neg (Nat.lt_irrefl i),hrow,ZeG]
   ·rfl) (by rw [hT'];exact Store.set_same _ _ _) (fun o o1 o2=>by rw [hT'];exact Store.set_other _ _ _ _ o2)
  have hws:(fun k=>if k=i then ws i else ws k)=ws:=by funext j;split<;>simp_all
  rw [hws,<-hrow,ZmL pr k i hil] at hnew
  refine zb ?_
  refine zq (i+1,T') [] ⟨hc,hnew,fun o hob=>?_⟩ (by simp;omega) (by simp [zt i (by omega)]) ?_ (by simp)
  ·dsimp only;rw [hT',Store.set_other _ _ _ _ (by omega)];exact hT o hob
  ·dsimp only;rw [hT']
   simp only [uy,hgz]
 ·simp at hc
  obtain rfl:i=m:=by omega
  rw [<-hPl,ZmK] at hR
  refine zu ?_
  exact ⟨_,T,rfl,⟨by unfold Qd;rw [hge,if_pos he];exact hR,hT⟩,zU (hkill T hT)⟩
def Za (e:Int):Bool:=decide (e≠0) && decide (e≠14)
theorem ZmP (e:Int):Pure Tryz.prog 68 [I e] (B (Za e)):=by
 unfold Za
 refine zz Tryz.func68 Tryz.ntmps68 Tryz.results68 fun S nx hd=>?_
 refine za (zb ?_)
 by_cases h1:e=0
 ·refine za (ze [(2,5)] (zn h1 zx) ?_)
  exact zg (zk hd rfl (by simp [zp,h1]))
 ·by_cases h2:e=14
  ·refine za (ze [(2,5)] (zE h1 h2 zx) ?_)
   exact zg (zk hd rfl (by simp [zp,h2]))
  ·refine za (ze [(2,5)] (zE h1 h2 zx) ?_)
   exact zg (zk hd rfl (by simp [zp,h1,h2]))
theorem ZmQ {S:Store} {idF vF:Nat} (fs:List Int) (hF:S idF=.cells vF 39 (fs.flatMap Enc.enc)) (hl:fs.length<=1000) :
  Spec Tryz.prog 112 [.sl idF vF 1 0 fs.length,.fn (.func 68) [] []] S (fun q S'=>(∃z:Int,q=I z/\(fs.any Za=decide (0<=z)))/\S'=S):=by
 refine qO Tryz.func112 Tryz.ntmps112 Tryz.results112 fun nx hd=>?_
 have hltF:idF<nx:=qB hd hF (by simp)
 have xf:=fun obs=>(zH (S:=S) (obs:=obs) hltF).trans hF
 refine za (zb ?_)
 repeat apply za
 refine zb ?_
 refine zi (zB (fun k:Nat=>k<=fs.length/\∀e∈fs.take k,Za e=false) (fun k=>[(0,.sl idF vF 1 0 fs.length),(1,.fn (.func 68) [] []),(7,I fs.length),(8,I k)]) (fun _=>[]) (fun k=>fs.length-k) 0 [] (by simp) (by simp) (by simp) ?_)
 rintro k ⟨hk,h0⟩
 refine za (zb ?_)
 refine za (zr rfl (fun hc=>?_) (fun hc=>?_))
 ·simp at hc
  obtain ⟨e,tl,a1,a2,a3,e0⟩:=zC rfl fs k hc
  refine zh (za (zi (za (zb ?_))))
  refine za (ze [] (zE xf e0 hc) ?_)
  refine zA (ZmP e) ?_
  cases hb:Za e with
  | true =>
   refine zm rfl (za (zb ?_))
   exact zg ⟨_,S,rfl,⟨⟨k,by simp [zp],by rw [List.any_eq_true.2 ⟨e,List.mem_of_getElem? a1,hb⟩];simp⟩,rfl⟩,zU hd⟩
  | false =>
   refine zo rfl (zh (zb ?_))
   exact zq (k+1) [] ⟨hc,fun y hy=>by rw [a3] at hy;rcases List.mem_append.1 hy with h | h;exact h0 y h;rw [List.mem_singleton.1 h];exact hb⟩ (by omega) (by simp [zt k (by omega)]) rfl (by simp)
 ·simp at hc
  obtain rfl:k=fs.length:=by omega
  rw [List.take_length] at h0
  refine zu (za (zb ?_))
  exact zg ⟨_,S,rfl,⟨⟨-1,by simp [zp],by rw [List.any_eq_false.2 fun e he=>by rw [h0 e he];simp];rfl⟩,rfl⟩,zU hd⟩
theorem ZmR {S:Store} {idF vF:Nat} (fs:List Int) (hF:S idF=.cells vF 39 (fs.flatMap Enc.enc)) (hl:fs.length<=1000) :
  Spec Tryz.prog 67 [.sl idF vF 1 0 fs.length,.fn (.func 68) [] []] S (fun q S'=>q=B (fs.any Za)/\S'=S):=by
 refine qO Tryz.func67 Tryz.ntmps67 Tryz.results67 fun nx hd=>?_
 have hltF:idF<nx:=qB hd hF (by simp)
 refine za (zb ?_)
 refine za (z8 [] (by rfl) (by rfl) fun K Gc Gh hK hGc hGh X hX0 hX=>?_)
 simp -implicitDefEqProofs [hX0,hX]
 try clear hX0 hX X
 refine hGc _ _ _ _ _ _ _ fun hsuf=>((ZmQ fs ((zH hltF).trans hF) hl).mono ?_).v
 rintro _ _ ⟨⟨z,rfl,hz⟩,rfl⟩
 refine ⟨_,_,rfl,?_⟩
 clear hGc hGh
 clear Gc Gh
 refine zW hsuf (D:=[]) (by rfl) fun Gc Gh hGc hGh X hX0 hX=>?_
 simp -implicitDefEqProofs [hX0,hX]
 clear hX0 hX X
 refine hK _ _ _ ?_
 clear hK hGc hGh
 clear K Gc Gh
 exact zg ⟨_,S,rfl,⟨by simp [zp,hz],rfl⟩,zU hd⟩
def vQ (x:Inst) (sol:Cust->List Int->List Visit × Bool) (pr:List (List Int)) (k:Nat):List (List Visit × Bool):=(List.range k).map fun i=>sol (x.cust.getD i default) (pr.getD i [])
def jx (x:Inst) (sol:Cust->List Int->List Visit × Bool) (pr:List (List Int)):List (List Visit) × Int:=if (vQ x sol pr x.cust.length).all (·.2)=true then ((vQ x sol pr x.cust.length).map (·.1),0) else ([],15)
theorem ZmS (x:Inst) (sol:Cust->List Int->List Visit × Bool) (pr:List (List Int)) (k:Nat):vQ x sol pr (k+1)=vQ x sol pr k++[sol (x.cust.getD k default) (pr.getD k [])]:=by simp [vQ,List.range_succ]
theorem ZmT (x:Inst) (sol:Cust->List Int->List Visit × Bool) (pr:List (List Int)) {k m:Nat} (h:k<m):sol (x.cust.getD k default) (pr.getD k [])∈vQ x sol pr m:=List.mem_map.2 ⟨k,List.mem_range.2 h,rfl⟩
def Zau (x:Inst) (n:Nat) (sol:Cust->List Int->List Visit × Bool):Prop :=
 ∀c∈x.cust,∀(l:List Int),l.length=n->(∀z∈l,zR z)->∀(S:Store) (pl:PV),RowOf S pl l->Spec Tryz.prog 111 [.agg (zM c),I x.days,I x.cap,pl] S (fun q S'=>q=.tup [L (sol c l).1,B (sol c l).2]/\S'=S)
theorem ZmU {S:Store} {A va base:Nat} {ws:Nat->Nat} {x:Inst} {n:Nat} {pr:List (List Int)} {sol:Cust->List Int->List Visit × Bool} (hx:x.cust.length<=1000) (hP:u9 x.cust.length n pr) (hR:RowsAt S A va 45 base 3 1 ws pr) (hs:Zau x n sol) :
  Spec Tryz.prog 66 [.agg (zv x),.sl A va 1 0 x.cust.length] S (fun q S'=>q=.tup [L (jx x sol pr).1,I (jx x sol pr).2]/\S'=S):=by
 obtain ⟨hPl,hPr⟩:=hP
 refine qO Tryz.func66 Tryz.ntmps66 Tryz.results66 fun nx hd=>?_
 have hltA:A<nx:=qB hd hR.arr (by simp)
 have xa:=fun obs=>(zH (S:=S) (obs:=obs) hltA).trans hR.arr
 refine za (zb ?_)
 intro v0
 refine za (zb ?_)
 refine za (yT 6 26 1 rfl fun v1=>?_)
 refine za (zb ?_)
 refine zi (zB (fun s:Nat × List (List Visit) × Nat=>s.1<=x.cust.length/\s.2.1=(vQ x sol pr s.1).map (·.1)/\(vQ x sol pr s.1).all (·.2)=true) (fun (i,out,w)=>[(1,.sl A va 1 0 x.cust.length),(2,.ptr nx v0 0),(4,.sc (.slice none 0 0)),(6,.sl (nx+1) w 1 0 out.length),(13,L x.cust),(14,I x.cust.length),(15,I i)]) (fun (i,out,w)=>[.cells v0 25 (zv x),.cells w 26 (out.flatMap Enc.enc)]) (fun s=>x.cust.length-s.1) (0,[],v1) [] (by simp [vQ]) (by simp) (by simp) ?_)
 rintro ⟨i,out,w⟩ ⟨hi,ho,hall⟩
 simp only at hi ho hall ⊢
 have hol:out.length=i:=by rw [ho];simp [vQ]
 refine za (zb ?_)
 refine za (zr rfl (fun hc=>?_) (fun hc=>?_))
 ·simp at hc
  obtain ⟨c,tl,a1,a2,a3,e1,e0⟩:=el 8 rfl x.cust i hc
  have hcm:=List.mem_of_getElem? a1
  have hgc:x.cust.getD i default=c:=by rw [List.getD_eq_getElem?_getD,a1];rfl
  have hil:i<pr.length:=by omega
  obtain ⟨tl2,hdr⟩:=Zad base 1 ws pr i hil
  obtain ⟨hgl,hgi⟩:(pr.getD i []).length=n/\∀z∈pr.getD i [],zR z:=by
   rw [List.getD_eq_getElem?_getD,List.getElem?_eq_getElem hil];exact hPr _ (List.getElem_mem hil)
  have hrow:RowOf S (.sl (base+i) (ws i) 1 0 (pr.getD i []).length) (pr.getD i []):=.inr ⟨_,_,rfl,hR.row i hil⟩
  have hsol:=hs c hcm (pr.getD i []) hgl hgi
  have hch:=ZmS x sol pr i
  have hcm2:=ZmT x sol pr (k:=i) hc
  rw [hgc] at hch hcm2
  generalize pr.getD i []=row at hdr hgl hgi hrow hsol hch hcm2
  generalize hr:sol c row=r at hsol hch hcm2
  obtain ⟨vv,ok⟩:=r
  simp only at hsol hch
  refine zh (za (zi (za (ze [] (zn e0 hc) ?_))))
  intro v2
  refine za (zb ?_)
  repeat apply za
  refine zb ?_
  refine zm (by simp [hc]) ?_
  refine ze [] (zE xa hdr hc) ?_
  refine za (z8 [] (by rfl) (by rfl) fun K Gc Gh hK hGc hGh X hX0 hX=>?_)
  simp -implicitDefEqProofs [hX0,hX]
  try clear hX0 hX X
  refine hGc _ _ _ _ _ _ _ fun hsuf=>((hsol _ _ (hrow.ext hd _)).mono ?_).v
  rintro _ _ ⟨rfl,rfl⟩
  refine ⟨_,_,rfl,?_⟩
  clear hGc hGh
  clear Gc Gh
  refine zW hsuf (D:=[]) (by rfl) fun Gc Gh hGc hGh X hX0 hX=>?_
  simp -implicitDefEqProofs [hX0,hX]
  clear hX0 hX X
  refine hK _ _ _ ?_
  clear hK hGc hGh
  clear K Gc Gh
  repeat apply za
  refine zb ?_
  cases ok with
  | false =>
   have hno:jx x sol pr=([],15):=by
    unfold jx
    rw [if_neg]
    intro q
    have:=List.all_eq_true.1 q _ hcm2
    cases this
   rw [hno]
   refine zm rfl (za (zb ?_))
   refine xz 4 rfl ?_
   exact zg ⟨_,S,rfl,⟨by simp [zp],rfl⟩,zU hd⟩
  | true =>
   refine zo rfl (zh (zb ?_))
   refine ⟨by omega,?_⟩
   refine zb ?_
   exact zq (i+1,out++[vv],w+1) [_] ⟨hc,by rw [hch,List.map_append,ho];rfl,by rw [hch,List.all_append,hall];rfl⟩ (by simp;omega) (by simp [zt i (by omega)]) rfl (by simp;rfl)
 ·simp at hc
  obtain rfl:i=x.cust.length:=by omega
  have hyes:jx x sol pr=(out,0):=by unfold jx;rw [if_pos hall,<-ho]
  rw [hyes]
  refine zu (zX 1 rfl ?_)
  refine za (zb ?_)
  exact zg ⟨_,S,(by simp;rfl),⟨by simp [zp],rfl⟩,zU hd⟩
open Go Go.Proofs Hp
theorem Zav (p:Nat) (hp:p<2 ^ 64):Pure Tryz.prog 233 [U p] (L (yq p 0 64)):=by
 have h:=Zlq p 0 hp (by decide)
 refine zz Tryz.func233 Tryz.ntmps233 Tryz.results233 fun S nx hd=>?_
 refine za (zb ?_)
 refine za (zb ?_)
 refine zA h ?_
 exact zg (zk hd rfl rfl)
theorem ZmV (c:Cust) (p:Nat) (hp:p<2 ^ 64):Pure Tryz.prog 188 [.agg (zM c),U p] (L (jM c p)):=by
 have hall:=Zav p hp
 have hln:=uZ p 0 64
 unfold jM
 generalize yq p 0 64=l at hall hln
 refine zz Tryz.func188 Tryz.ntmps188 Tryz.results188 fun S nx hd=>?_
 refine za (zb ?_)
 intro v0
 refine za (zb ?_)
 refine za (yT 5 85 2 rfl fun v1=>?_)
 refine za (zb ?_)
 refine zA hall ?_
 refine zi (zB (fun s:Nat × List Visit × Nat=>s.1<=l.length/\s.2.1=(l.take s.1).map fun d=>⟨d,c.demand⟩) (fun (k,out,v1)=>[(2,.ptr nx v0 0),(5,.sl (nx+1) v1 2 0 out.length),(9,L l),(10,I l.length),(11,I k)]) (fun (k,out,v1)=>[.cells v0 65 (zM c),.cells v1 85 (out.flatMap Enc.enc)]) (fun s=>l.length-s.1) (0,[],v1) [] (by simp) (by simp) (by simp) ?_)
 rintro ⟨k,out,v1⟩ ⟨hk,ho⟩
 simp only at hk ho ⊢
 have hol:out.length=k:=by rw [ho];simp;omega
 refine za (zb ?_)
 refine za (zr rfl (fun hc=>?_) (fun hc=>?_))
 ·simp at hc
  obtain ⟨d,tl,a1,a2,a3,e0⟩:=zC rfl l k hc
  refine zh (za (zi (za (ze [] (zn e0 hc) ?_))))
  refine zb ?_
  refine ⟨by omega,?_⟩
  refine zb ?_
  exact zq (k+1,out++[⟨d,c.demand⟩],v1+1) [] ⟨hc,by rw [a3,ho];simp⟩ (by simp;omega) (by simp [zt k (by omega)]) rfl (by simp)
 ·simp at hc
  obtain rfl:k=l.length:=by omega
  rw [List.take_length] at ho
  refine zu (zX 1 rfl ?_)
  refine za (zb ?_)
  exact zg (zk hd (by simp;rfl) (by simp [zp,ho]))
def x6 (price:List Int) (ds:List Int):Int:=ds.foldl (fun (s d:Int)=>if d<price.length then vH s (price.getD d.toNat 0) else s) 0
def Jl (price:List Int) (p:Nat):Int:=x6 price (yq p 0 64)
def qE (price:List Int) (l:List Nat):Nat->Int × Int
 | 0=>(-1,0)
 | k+1=>if (qE price l k).1<0\/Jl price (l.getD k 0)<(qE price l k).2 then (k,Jl price (l.getD k 0)) else qE price l k
theorem Zaw (price:List Int) (l:List Nat):∀k:Nat,(qE price l k).1<k/\-1<=(qE price l k).1/\(0<k->0<=(qE price l k).1)
 | 0=>by simp [qE]
 | k+1=>by
  have:=Zaw price l k
  unfold qE
  split
  ·dsimp only;omega
  ·rename_i h;omega
theorem ZmW (a b:Int) (ha:zR a) (hb:zR b):zR (vH a b):=by
 unfold zR vH at *
 split
 ·omega
 ·split<;>omega
theorem ZmX (price ds:List Int) (d:Int):x6 price (ds++[d])=if d<price.length then vH (x6 price ds) (price.getD d.toNat 0) else x6 price ds:=by simp [x6]
theorem ZmY (price:List Int) (hp:∀z∈price,zR z) (ds:List Int):zR (x6 price ds):=by
 unfold x6
 have:∀(ds:List Int) (s:Int),zR s->zR (ds.foldl (fun (s d:Int)=>if d<price.length then vH s (price.getD d.toNat 0) else s) s):=by
  intro ds
  induction ds with
  | nil=>intro s h;exact h
  | cons d ds ih =>
   intro s h
   rw [List.foldl_cons]
   apply ih
   split
   ·refine ZmW _ _ h ?_
    rw [List.getD_eq_getElem?_getD]
    cases hq:price[d.toNat]? with
    | none=>unfold zR;simp
    | some z=>exact hp z (List.mem_of_getElem? hq)
   ·exact h
 exact this ds 0 (by unfold zR;omega)
theorem ZmZ {S:Store} {pl:PV} {price:List Int} (l:List Nat) (hR:RowOf S pl price) (hp:∀z∈price,zR z) (hpl:price.length<=1000) (hl:l.length<=1000) (h64:∀p∈l,p<2 ^ 64) :
  Spec Tryz.prog 187 [L l,pl] S (fun q S'=>q=.tup [I (qE price l l.length).1,I (qE price l l.length).2]/\S'=S):=by
 refine qO Tryz.func187 Tryz.ntmps187 Tryz.results187 fun nx hd=>?_
 refine za (zb ?_)
 refine za (zb ?_)
 repeat apply za
 refine zb ?_
 refine zi (zB (fun k:Nat=>k<=l.length) (fun k=>[(1,pl),(6,I (qE price l k).1),(7,I (qE price l k).2),(13,L l),(14,I l.length),(15,I k)]) (fun _=>[]) (fun k=>l.length-k) 0 [] (by simp) (by simp [qE]) (by simp) ?_)
 rintro k hk
 have hb:qE price l (k+1)=if (qE price l k).1<0\/Jl price (l.getD k 0)<(qE price l k).2 then (↑k,Jl price (l.getD k 0)) else qE price l k:=rfl
 generalize hst:qE price l k=st at hb ⊢
 obtain ⟨place,least⟩:=st
 simp only at hb ⊢
 refine za (zb ?_)
 refine za (zr rfl (fun hc=>?_) (fun hc=>?_))
 ·simp at hc
  obtain ⟨p,tl,a1,a2,a3,e0⟩:=zC rfl l k hc
  have hall:=Zav p (h64 p (List.mem_of_getElem? a1))
  have hgp:l.getD k 0=p:=by rw [List.getD_eq_getElem?_getD,a1];rfl
  rw [hgp] at hb
  have hds:∀d∈yq p 0 64,∃i:Nat,d=i:=fun d hd=>by obtain ⟨i,h,_⟩:=XP hd;exact ⟨i,h⟩
  have hdl:=uZ p 0 64
  rw [show Jl price p=x6 price (yq p 0 64) from rfl] at hb
  generalize yq p 0 64=ds at hall hds hdl hb
  refine zh (za (zi (za (ze [] (zn e0 hc) ?_))))
  refine za (zb ?_)
  repeat apply za
  refine zb ?_
  refine zA hall ?_
  refine zi (zB (fun j:Nat=>j<=ds.length) (fun j=>[(1,pl),(6,I place),(7,I least),(8,I k),(10,I (x6 price (ds.take j))),(13,L l),(14,I l.length),(15,I k),(21,L ds),(22,I ds.length),(23,I j)]) (fun _=>[]) (fun j=>ds.length-j) 0 [] (by simp) (by simp [x6]) (by simp) ?_)
  rintro j hj
  refine za (zb ?_)
  refine za (zr rfl (fun hc2=>?_) (fun hc2=>?_))
  ·simp at hc2
   obtain ⟨d,tl2,b1,b2,b3,f0⟩:=zC rfl ds j hc2
   obtain ⟨i,rfl⟩:=hds d (List.mem_of_getElem? b1)
   have hsn:=ZmX price (ds.take j) (i:Int)
   rw [<-b3,Int.toNat_natCast] at hsn
   have hsi:=ZmY price hp (ds.take j)
   refine zh (za (zi (za (ze [] (zn f0 hc2) ?_))))
   by_cases hi:i<price.length
   ·obtain ⟨z,tl3,c1,-,-,g0⟩:=zC rfl price i hi
    have hgz:price.getD i 0=z:=by rw [List.getD_eq_getElem?_getD,c1];rfl
    rw [if_pos (by omega),hgz] at hsn
    have hsat:=ZdW (x6 price (ds.take j)) z hsi (hp z (List.mem_of_getElem? c1))
    rw [<-hsn] at hsat
    rcases hR with rfl | ⟨id,ver,rfl,hS⟩
    ·refine za (ze [] hi ?_)
     refine zm rfl (ze [] (zn g0 hi) ?_)
     refine zA hsat ?_
     refine zb ?_
     exact zq (j+1) [] hc2 (by omega) (by simp [zt j (by omega)]) rfl (by simp)
    ·have hlt:id<nx:=qB hd hS (by simp)
     have xr:=fun obs=>(zH (S:=S) (obs:=obs) hlt).trans hS
     refine za (ze [] hi ?_)
     refine zm rfl (ze [] (zE xr g0 hi) ?_)
     refine zA hsat ?_
     refine zb ?_
     exact zq (j+1) [] hc2 (by omega) (by simp [zt j (by omega)]) rfl (by simp)
   ·rw [if_neg (by omega)] at hsn
    rcases hR with rfl | ⟨id,ver,rfl,hS⟩
    ·refine za (ze [] hi ?_)
     refine zo rfl (zh (zb ?_))
     exact zq (j+1) [] hc2 (by omega) (by simp [zt j (by omega),hsn]) rfl (by simp)
    ·refine za (ze [] hi ?_)
     refine zo rfl (zh (zb ?_))
     exact zq (j+1) [] hc2 (by omega) (by simp [zt j (by omega),hsn]) rfl (by simp)
  ·simp at hc2
   obtain rfl:j=ds.length:=by omega
   rw [List.take_length]
   refine zu (za (yk (nx:=nx) (σ:=Bool) (fun t=>t=decide (place<0\/x6 price ds<least)) (fun t=>[(1,pl),(6,I place),(7,I least),(8,I k),(10,I (x6 price ds)),(13,L l),(14,I l.length),(15,I k),(44,B t)]) (fun _=>S) (fun _=>[]) ?_ ?_))
   ·by_cases h1:place<0
    ·repeat apply za
     refine ze [(2,40)] (zn h1 zx) ?_
     exact zD true [] (by simp [h1]) (by simp) rfl (by simp)
    ·repeat apply za
     refine ze [(2,40)] h1 ?_
     exact zD (decide (x6 price ds<least)) [] (by simp [h1]) (by simp) rfl (by simp)
   rintro t rfl
   by_cases h:place<0\/x6 price ds<least
   ·rw [decide_eq_true h]
    rw [if_pos h] at hb
    refine zm rfl (zb ?_)
    refine zb ?_
    exact zq (k+1) [] hc (by omega) (by simp [zt k (by omega),hb]) rfl (by simp)
   ·rw [decide_eq_false h]
    rw [if_neg h] at hb
    refine zo rfl (zh (zb ?_))
    exact zq (k+1) [] hc (by omega) (by simp [zt k (by omega),hb]) rfl (by simp)
 ·simp at hc
  obtain rfl:k=l.length:=by omega
  refine zu (za (zb ?_))
  exact zg ⟨_,S,rfl,⟨by simp [zp,hst],rfl⟩,zU hd⟩
def jG (c:Cust) (cap:Int):List Nat:=c.pats.filter fun p=>decide (p=0) || decide (c.demand<=cap)
theorem Zm0 (c:Cust) (cap:Int) (hl:c.pats.length<=1000):Pure Tryz.prog 186 [.agg (zM c),I cap] (L (jG c cap)):=by
 unfold jG
 refine zz Tryz.func186 Tryz.ntmps186 Tryz.results186 fun S nx hd=>?_
 refine za (zb ?_)
 intro v0
 refine za (zb ?_)
 refine za (yT 5 93 1 rfl fun v1=>?_)
 refine za (zb ?_)
 refine zi (zB (fun s:Nat × List Nat × Nat=>s.1<=c.pats.length/\s.2.1=(c.pats.take s.1).filter (fun p=>decide (p=0) || decide (c.demand<=cap))/\s.2.1.length<=s.1) (fun (k,out,w)=>[(1,I cap),(2,.ptr nx v0 0),(5,.sl (nx+1) w 1 0 out.length),(9,L c.pats),(10,I c.pats.length),(11,I k)]) (fun (k,out,w)=>[.cells v0 65 (zM c),.cells w 93 (out.flatMap Enc.enc)]) (fun s=>c.pats.length-s.1) (0,[],v1) [] (by simp) (by simp) (by simp) ?_)
 rintro ⟨k,out,w⟩ ⟨hk,ho,hol⟩
 simp only at hk ho hol ⊢
 refine za (zb ?_)
 refine za (zr rfl (fun hc=>?_) (fun hc=>?_))
 ·simp at hc
  obtain ⟨p,tl,a1,a2,a3,e0⟩:=zC rfl c.pats k hc
  refine zh (za (zi (za (ze [] (zn e0 hc) ?_))))
  refine za (yk (nx:=nx) (σ:=Bool × Nat) (fun s=>s.1=(decide (p=0) || decide (c.demand<=cap))) (fun (t,w)=>[(1,I cap),(2,.ptr nx v0 0),(5,.sl (nx+1) w 1 0 out.length),(7,U p),(9,L c.pats),(10,I c.pats.length),(11,I k),(22,B t)]) (fun _=>S) (fun (t,w)=>[.cells v0 65 (zM c),.cells w 93 (out.flatMap Enc.enc)]) ?_ ?_)
  ·by_cases h1:p=0
   ·repeat apply za
    refine ze [(2,17)] (zn h1 zx) ?_
    exact zD (true,w) [] (by simp [h1]) (by simp [h1]) rfl (by simp)
   ·repeat apply za
    refine ze [(2,17)] h1 ?_
    exact zD (decide (c.demand<=cap),w) [] (by simp [h1]) (by simp) rfl (by simp)
  rintro ⟨t,w⟩ ht
  simp only at ht ⊢
  subst ht
  have hstep:(c.pats.take (k+1)).filter (fun p=>decide (p=0) || decide (c.demand<=cap))=out++(if (decide (p=0) || decide (c.demand<=cap))=true then [p] else []):=by
   rw [a3,List.filter_append,ho]
   congr 1
   simp only [List.filter_cons,List.filter_nil]
  cases ht:(decide (p=0) || decide (c.demand<=cap)) with
  | true =>
   rw [ht,if_pos rfl] at hstep
   refine zm rfl (zb ?_)
   refine ⟨by omega,?_⟩
   refine zb ?_
   exact zq (k+1,out++[p],w+1) [] ⟨hc,hstep.symm,by simp;omega⟩ (by simp;omega) (by simp [zt k (by omega)]) rfl (by simp)
  | false =>
   rw [ht,if_neg (by decide),List.append_nil] at hstep
   refine zo rfl (zh (zb ?_))
   exact zq (k+1,out,w) [] ⟨hc,hstep.symm,by dsimp only;omega⟩ (by simp;omega) (by simp [zt k (by omega)]) rfl (by simp)
 ·simp at hc
  obtain rfl:k=c.pats.length:=by omega
  rw [List.take_length] at ho
  refine zu (zX 1 rfl ?_)
  refine za (zb ?_)
  exact zg (zk hd (by simp;rfl) (by simp [zp,ho]))
def wT (c:Cust) (cap:Int) (price:List Int):List Visit × Bool :=
 if (qE price (jG c cap) (jG c cap).length).1<0 then ([],false) else (jM c ((jG c cap).getD (qE price (jG c cap) (jG c cap).length).1.toNat 0),true)
theorem Zm1 {S:Store} {pl:PV} {price:List Int} (c:Cust) (cap:Int) (hR:RowOf S pl price) (hp:∀z∈price,zR z) (hpl:price.length<=1000) (hl:c.pats.length<=1000) (h64:∀p∈c.pats,p<2 ^ 64) :
  Spec Tryz.prog 151 [.agg (zM c),I cap,pl] S (fun q S'=>q=.tup [L (wT c cap price).1,B (wT c cap price).2]/\S'=S):=by
 have hca:=Zm0 c cap hl
 have hsub:∀p∈jG c cap,p<2 ^ 64:=fun p hp=>h64 p (List.mem_filter.1 hp).1
 have hcl:(jG c cap).length<=1000:=Nat.le_trans (List.length_filter_le _ _) hl
 unfold wT
 generalize jG c cap=l at *
 have hb:=fun S (hR:RowOf S pl price)=>ZmZ l hR hp hpl hcl hsub
 obtain ⟨b1,b2,b3⟩:=Zaw price l l.length
 generalize qE price l l.length=r at *
 obtain ⟨place,least⟩:=r
 simp only at hb b1 b2 b3 ⊢
 refine qO Tryz.func151 Tryz.ntmps151 Tryz.results151 fun nx hd=>?_
 refine za (zb ?_)
 intro v0
 refine za (zb ?_)
 refine zA hca ?_
 refine za (z8 [] (by rfl) (by rfl) fun K Gc Gh hK hGc hGh X hX0 hX=>?_)
 simp -implicitDefEqProofs [hX0,hX]
 try clear hX0 hX X
 refine hGc _ _ _ _ _ _ _ fun hsuf=>((hb _ (hR.ext hd _)).mono ?_).v
 rintro _ _ ⟨rfl,rfl⟩
 refine ⟨_,_,rfl,?_⟩
 clear hGc hGh
 clear Gc Gh
 refine zW hsuf (D:=[]) (by rfl) fun Gc Gh hGc hGh X hX0 hX=>?_
 simp -implicitDefEqProofs [hX0,hX]
 clear hX0 hX X
 refine hK _ _ _ ?_
 clear hK hGc hGh
 clear K Gc Gh
 repeat apply za
 refine zb ?_
 by_cases h:place<0
 ·rw [if_pos h]
  refine zm (by simp [h]) ?_
  refine za (zb ?_)
  refine xz 6 rfl ?_
  exact zg ⟨_,S,rfl,⟨by simp [zp],rfl⟩,zU hd⟩
 ·rw [if_neg h]
  obtain ⟨i,rfl⟩:=Int.eq_ofNat_of_zero_le (show 0<=place by omega)
  have hil:i<l.length:=by omega
  obtain ⟨p,tl,a1,a2,a3,e0⟩:=zC rfl l i hil
  have hgp:l.getD (i:Int).toNat 0=p:=by rw [Int.toNat_natCast,List.getD_eq_getElem?_getD,a1];rfl
  rw [hgp]
  have hon:=ZmV c p (hsub p (List.mem_of_getElem? a1))
  refine zo (by simp) ?_
  refine zh (za (zF (some [nx]) (Row.pures [0,1,2,3,4,5,6,7] .done) mixed (zn e0 hil) ?_))
  refine zN (hon) (zn e0 hil) ?_
  exact zg ⟨_,S,(by simp;rfl),⟨by simp [zp],rfl⟩,zU hd⟩
theorem ZeH {S:Store} {pl:PV} {price:List Int} (c:Cust) (n cap:Int) (hk:c.kind=1) (hR:RowOf S pl price) (hp:∀z∈price,zR z) (hpl:price.length<=1000) (hl:c.pats.length<=1000) (h64:∀p∈c.pats,p<2 ^ 64) :
  Spec Tryz.prog 111 [.agg (zM c),I n,I cap,pl] S (fun q S'=>q=.tup [L (wT c cap price).1,B (wT c cap price).2]/\S'=S):=by
 have hs:=fun S (hR:RowOf S pl price)=>Zm1 c cap hR hp hpl hl h64
 generalize wT c cap price=r at *
 obtain ⟨v,ok⟩:=r
 simp only at hs ⊢
 refine qO Tryz.func111 Tryz.ntmps111 Tryz.results111 fun nx hd=>?_
 refine za (zb ?_)
 intro v0
 refine za (zi (za (ze [] hk ?_)))
 refine zm rfl (za (z8 [] (by rfl) (by rfl) fun K Gc Gh hK hGc hGh X hX0 hX=>?_))
 simp -implicitDefEqProofs [hX0,hX]
 try clear hX0 hX X
 refine hGc _ _ _ _ _ _ _ fun hsuf=>((hs _ (hR.ext hd _)).mono ?_).v
 rintro _ _ ⟨rfl,rfl⟩
 refine ⟨_,_,rfl,?_⟩
 clear hGc hGh
 clear Gc Gh
 refine zW hsuf (D:=[]) (by rfl) fun Gc Gh hGc hGh X hX0 hX=>?_
 simp -implicitDefEqProofs [hX0,hX]
 clear hX0 hX X
 refine hK _ _ _ ?_
 clear hK hGc hGh
 clear K Gc Gh
 exact zg ⟨_,S,(by simp;rfl),⟨by simp [zp],rfl⟩,zU hd⟩
open Go Go.Proofs Hp
def x7 (c:Cust) (there cap:Int):Int:=if c.size-there<1\/cap<0 then 0 else if c.size-there<=cap then c.size-there else if c.rule=1 then 0 else cap
theorem ZeI {c:Cust} {there cap:Int} (hc:0<=c.size/\c.size<=2147483648) (ht:0<=there):0<=x7 c there cap/\x7 c there cap<=2147483648:=by
 unfold x7
 split
 ·omega
 ·split
  ·omega
  ·split<;>omega
theorem Zax (c:Cust) (there cap:Int) (hc:0<=c.size/\c.size<=2147483648) (ht:-4611686018427387904<=there/\there<=4611686018427387904):Pure Tryz.prog 190 [.agg (zM c),I there,I cap] (I (x7 c there cap)):=by
 have w1:IntKind.i64.wrap (c.size-there)=c.size-there:=wr _ (by omega) (by omega)
 unfold x7
 generalize hf:c.size-there=f at w1 ⊢
 refine zz Tryz.func190 Tryz.ntmps190 Tryz.results190 fun S nx hd=>?_
 refine za (zb ?_)
 intro v0
 refine za (ze [] (zn hf w1) ?_)
 refine za (zi ?_)
 by_cases h:f<1\/cap<0
 ·rw [if_pos h]
  by_cases h1:f<1
  ·refine za (ze [(2,15)] (zn h1 zx) ?_)
   refine zm rfl (za (zb ?_))
   exact zg (zk hd rfl rfl)
  ·have h2:cap<0:=by omega
   refine za (ze [(2,15)] (zn h1 h2) ?_)
   refine zm rfl (za (zb ?_))
   exact zg (zk hd rfl rfl)
 ·rw [if_neg h]
  have h1:¬f<1:=by omega
  have h2:¬cap<0:=by omega
  refine za (ze [(2,15)] (zn h1 h2) ?_)
  refine zo rfl (za (zb ?_))
  by_cases h3:f<=cap
  ·rw [if_pos h3]
   refine zm (by simp [h3]) ?_
   refine za (zb ?_)
   exact zg (zk hd rfl rfl)
  ·rw [if_neg h3]
   refine zo (by simp;omega) ?_
   refine za (zb ?_)
   by_cases h4:c.rule=1
   ·rw [if_pos h4]
    refine zm (by simp [h4]) ?_
    refine za (zb ?_)
    exact zg (zk hd rfl rfl)
   ·rw [if_neg h4]
    refine zo (by simp [h4]) ?_
    refine zh (za (zb ?_))
    exact zg (zk hd rfl rfl)
def Qf (price:List Int) (d:Int):Int:=if d<0\/(price.length:Int)<=d then 0 else price.getD d.toNat 0
theorem ZeJ {S:Store} {pl:PV} {price:List Int} (d:Int) (hR:RowOf S pl price) :
  Spec Tryz.prog 191 [pl,I d] S (fun q S'=>q=I (Qf price d)/\S'=S):=by
 unfold Qf
 rcases hR with rfl | ⟨id,ver,rfl,hS⟩
 ·refine qO Tryz.func191 Tryz.ntmps191 Tryz.results191 fun nx hd=>?_
  refine za (zb ?_)
  by_cases h:d<0
  ·rw [if_pos (.inl h)]
   repeat apply za
   refine ze [(2,7)] (zn h zx) ?_
   refine zm rfl (za (zb ?_))
   exact zg ⟨_,S,rfl,⟨by simp [zp],rfl⟩,zU hd⟩
  by_cases h2:(price.length:Int)<=d
  ·rw [if_pos (.inr h2)]
   repeat apply za
   refine ze [(2,7)] (zn h h2) ?_
   refine zm rfl (za (zb ?_))
   exact zg ⟨_,S,rfl,⟨by simp [zp],rfl⟩,zU hd⟩
  rw [if_neg (by omega)]
  obtain ⟨i,rfl⟩:=Int.eq_ofNat_of_zero_le (show 0<=d by omega)
  have hi:i<price.length:=by omega
  obtain ⟨z,tl,a1,-,-,e0⟩:=zC rfl price i hi
  have hg:price.getD (i:Int).toNat 0=z:=by rw [Int.toNat_natCast,List.getD_eq_getElem?_getD,a1];rfl
  rw [hg]
  have h2':¬price.length<=i:=by omega
  repeat apply za
  refine ze [(2,7)] (zE h h2 h2') ?_
  refine zo rfl (zh (za (ze [] (zn e0 hi) ?_)))
  exact zg ⟨_,S,rfl,⟨by simp [zp],rfl⟩,zU hd⟩
 ·refine qO Tryz.func191 Tryz.ntmps191 Tryz.results191 fun nx hd=>?_
  have hlt:id<nx:=qB hd hS (by simp)
  have xr:=fun obs=>(zH (S:=S) (obs:=obs) hlt).trans hS
  refine za (zb ?_)
  by_cases h:d<0
  ·rw [if_pos (.inl h)]
   repeat apply za
   refine ze [(2,7)] (zn h zx) ?_
   refine zm rfl (za (zb ?_))
   exact zg ⟨_,S,rfl,⟨by simp [zp],rfl⟩,zU hd⟩
  by_cases h2:(price.length:Int)<=d
  ·rw [if_pos (.inr h2)]
   repeat apply za
   refine ze [(2,7)] (zn h h2) ?_
   refine zm rfl (za (zb ?_))
   exact zg ⟨_,S,rfl,⟨by simp [zp],rfl⟩,zU hd⟩
  rw [if_neg (by omega)]
  obtain ⟨i,rfl⟩:=Int.eq_ofNat_of_zero_le (show 0<=d by omega)
  have hi:i<price.length:=by omega
  obtain ⟨z,tl,a1,-,-,e0⟩:=zC rfl price i hi
  have hg:price.getD (i:Int).toNat 0=z:=by rw [Int.toNat_natCast,List.getD_eq_getElem?_getD,a1];rfl
  rw [hg]
  have h2':¬price.length<=i:=by omega
  repeat apply za
  refine ze [(2,7)] (zE h h2 h2') ?_
  refine zo rfl (zh (za (ze [] (zE xr e0 hi) ?_)))
  exact zg ⟨_,S,rfl,⟨by simp [zp],rfl⟩,zU hd⟩
theorem ZeK:∀(l m:List Int) (i:Nat),yt i (l++m)=yt i l++yt (i+l.length) m
 | [],m,i=>by simp [yt]
 | z :: l,m,i=>by
  have ih:=ZeK l m (i+1)
  simp only [List.cons_append,yt,List.length_cons,ih,show i+1+l.length=i+(l.length+1) from by omega]
  split<;>simp
theorem ZeL (q:List Int) (hq:q.length<=1048576):Pure Tryz.prog 195 [L q] (L (yt 0 q)):=by
 refine zz Tryz.func195 Tryz.ntmps195 Tryz.results195 fun S nx hd=>?_
 refine za (zb ?_)
 refine za (zb ?_)
 refine za (yT 3 85 2 rfl fun v1=>?_)
 refine za (zb ?_)
 refine zi (zB (fun s:Nat × List Visit × Nat=>s.1<=q.length/\s.2.1=yt 0 (q.take s.1)) (fun (k,out,w)=>[(3,.sl nx w 2 0 out.length),(6,L q),(7,I q.length),(8,I k)]) (fun (k,out,w)=>[.cells w 85 (out.flatMap Enc.enc)]) (fun s=>q.length-s.1) (0,[],v1) [] (by simp [yt]) (by simp) (by simp) ?_)
 rintro ⟨k,out,w⟩ ⟨hk,ho⟩
 simp only at hk ho ⊢
 have hol:out.length<=k:=by rw [ho];exact Nat.le_trans (XJ _ _) (by simp;omega)
 refine za (zb ?_)
 refine za (zr rfl (fun hc=>?_) (fun hc=>?_))
 ·simp at hc
  obtain ⟨z,tl,a1,a2,a3,e0⟩:=zC rfl q k hc
  have hst:yt 0 (q.take (k+1))=out++(if 0<z then [⟨k,z⟩] else []):=by
   rw [a3,ZeK,<-ho,List.length_take,Nat.min_eq_left hk]
   simp only [yt,Nat.zero_add]
  refine zh (za (zi (za (ze [] (zn e0 hc) ?_))))
  refine za (zb ?_)
  by_cases h:0<z
  ·rw [if_pos h] at hst
   refine zm (by simp [h]) ?_
   refine zb ?_
   refine ⟨by omega,?_⟩
   refine zb ?_
   exact zq (k+1,out++[⟨k,z⟩],w+1) [] ⟨hc,hst.symm⟩ (by simp;omega) (by simp [zt k (by omega)]) rfl (by simp)
  ·rw [if_neg h,List.append_nil] at hst
   refine zo (by simp;omega) ?_
   refine zh (zb ?_)
   exact zq (k+1,out,w) [] ⟨hc,hst.symm⟩ (by simp;omega) (by simp [zt k (by omega)]) rfl (by simp)
 ·simp at hc
  obtain rfl:k=q.length:=by omega
  rw [List.take_length] at ho
  refine zu (zX 0 rfl ?_)
  refine za (zb ?_)
  exact zg (zk hd (by simp;rfl) (by simp [zp,ho]))
def yZ (c:Cust) (f:Int->Int):Nat->List Int × Int
 | 0=>([],c.start)
 | k+1=>((yZ c f k).1++[f (yZ c f k).2],(yZ c f k).2+(f (yZ c f k).2-c.rate))
def ZI (c:Cust) (cap:Int) (t:Int):Int:=x7 c (max t 0) cap
def Zb (c:Cust) (cap:Int) (t:Int):Int:=if c.rate<=t then 0 else x7 c (max t 0) cap
theorem Qg (c:Cust) (f:Int->Int):∀k,(yZ c f k).1.length=k
 | 0=>rfl
 | k+1=>by simp [yZ,Qg c f k]
theorem Zay {c:Cust} (hc:CustFits c) (cap t:Int):0<=ZI c cap t/\ZI c cap t<=2147483648:=ZeI hc.size (by omega)
theorem Zaz {c:Cust} (hc:CustFits c) (cap t:Int):0<=Zb c cap t/\Zb c cap t<=2147483648:=by
 unfold Zb
 split
 ·omega
 ·exact ZeI hc.size (by omega)
theorem Qh {c:Cust} (hc:CustFits c) {f:Int->Int} (hf:∀t,0<=f t/\f t<=2147483648):∀k:Nat,(-4294967296*((k:Int)+1)<=(yZ c f k).2/\(yZ c f k).2<=4294967296*((k:Int)+1))/\Qs (yZ c f k).1
 | 0=>by
  have:=hc.start
  refine ⟨by simp only [yZ];omega,by intro z hz;cases hz⟩
 | k+1=>by
  obtain ⟨h1,h2⟩:=Qh hc hf k
  have h3:=hf (yZ c f k).2
  have h4:=hc.rate
  refine ⟨by simp only [yZ];push_cast;omega,fun z hz=>?_⟩
  simp only [yZ] at hz
  rcases List.mem_append.1 hz with hz | hz
  ·exact h2 z hz
  ·rw [List.mem_singleton.1 hz];exact h3
theorem Zm2 (c:Cust) (cap t:Int) (hc:CustFits c) (ht:-4611686018427387904<=t/\t<=4611686018427387904):Pure Tryz.prog 237 [I t,.ip (zM c),.ip [I cap]] (I (ZI c cap t)):=by
 have hm:j4 t 0=max t 0:=by unfold j4;split<;>omega
 have hmo:=Zax c (max t 0) cap hc.size (by omega)
 unfold ZI
 generalize max t 0=m at hm hmo ⊢
 generalize x7 c m cap=z at hmo ⊢
 refine zz Tryz.func237 Tryz.ntmps237 Tryz.results237 fun S nx hd=>?_
 refine za (zb ?_)
 refine za (ze [] hm ?_)
 refine qZ [] hmo hm ?_
 exact zg (zk hd rfl rfl)
theorem Zm3 (c:Cust) (cap t:Int) (hc:CustFits c) (ht:-4611686018427387904<=t/\t<=4611686018427387904):Pure Tryz.prog 238 [I t,.ip (zM c),.ip [I cap]] (I (Zb c cap t)):=by
 have hm:j4 t 0=max t 0:=by unfold j4;split<;>omega
 have hmo:=Zax c (max t 0) cap hc.size (by omega)
 unfold Zb
 generalize max t 0=m at hm hmo ⊢
 generalize x7 c m cap=z at hmo ⊢
 refine zz Tryz.func238 Tryz.ntmps238 Tryz.results238 fun S nx hd=>?_
 refine za (zb ?_)
 repeat apply za
 refine zb ?_
 by_cases h:c.rate<=t
 ·rw [if_pos h]
  refine zm (by simp [h]) ?_
  refine za (zb ?_)
  exact zg (zk hd rfl rfl)
 ·rw [if_neg h]
  refine zo (by simp;omega) ?_
  refine zh (za (ze [] hm ?_))
  refine qZ [] hmo hm ?_
  exact zg (zk hd rfl rfl)
theorem ZeM (c:Cust) (n:Nat) (fn:FuncId) (caps:List PV) (f:Int->Int) (hc:CustFits c) (hn:n<=1000) (hf:∀t,0<=f t/\f t<=2147483648) (hfn:∀t,(-4611686018427387904<=t/\t<=4611686018427387904)->Pure Tryz.prog fn ([I t]++caps) (I (f t))) :
  Pure Tryz.prog 236 [.agg (zM c),I n,.fn (.func fn) [] caps] (.tup [L (yZ c f n).1,B (decide (wy c (yZ c f n).1=0))]):=by
 have hr:=hc.rate
 refine zz Tryz.func236 Tryz.ntmps236 Tryz.results236 fun S nx hd=>?_
 refine za (zb ?_)
 intro v0
 refine za (zb ?_)
 refine za (yT 8 3 1 rfl fun v1=>?_)
 refine zb ?_
 repeat apply za
 refine zb ?_
 refine zi (zB (fun s:Nat × Nat=>s.1<=n) (fun (k,w)=>[(2,.fn (.func fn) [] caps),(3,.ptr nx v0 0),(8,.sl (nx+1) w 1 0 (yZ c f k).1.length),(9,I (yZ c f k).2),(13,I n),(14,I k)]) (fun (k,w)=>[.cells v0 65 (zM c),.cells w 3 ((yZ c f k).1.flatMap Enc.enc)]) (fun s=>n-s.1) (0,v1) [] (by simp) (by simp [yZ]) (by simp [yZ]) ?_)
 rintro ⟨k,w⟩ hk
 simp only at hk ⊢
 obtain ⟨hbd,-⟩:=Qh hc hf k
 have hl:=Qg c f k
 have hsucc:yZ c f (k+1)=((yZ c f k).1++[f (yZ c f k).2],(yZ c f k).2+(f (yZ c f k).2-c.rate)):=rfl
 generalize hst:yZ c f k=st at hbd hl hsucc ⊢
 obtain ⟨q,t⟩:=st
 simp only at hbd hl hsucc ⊢
 refine za (zb ?_)
 refine za (zr rfl (fun hc1=>?_) (fun hc1=>?_))
 ·simp at hc1
  have hft:=hf t
  have hcall:=hfn t (by omega)
  have w1:IntKind.i64.wrap (f t-c.rate)=f t-c.rate:=wr _ (by omega) (by omega)
  have w2:IntKind.i64.wrap (t+(f t-c.rate))=t+(f t-c.rate):=wr _ (by omega) (by omega)
  generalize f t=z at *
  refine zh (za (zi (za (zb ?_))))
  refine zA hcall ?_
  refine za (zb ?_)
  refine ⟨by omega,?_⟩
  refine ze [] (zn w1 w2) ?_
  refine zb ?_
  exact zq (k+1,w+1) [] (by omega) (by simp;omega) (by simp [zt k (by omega),hsucc]) rfl (by simp [hsucc])
 ·simp at hc1
  obtain rfl:k=n:=by omega
  refine zu (zX 1 rfl ?_)
  have hh:=Zk0 c q hc (by omega)
  refine za (zb ?_)
  refine zA hh ?_
  exact zg (zk hd (by simp;rfl) (by simp [zp,hst]))
def vR (c:Cust) (n:Nat) (cap:Int):List Int × Bool:=((yZ c (ZI c cap) n).1,decide (wy c (yZ c (ZI c cap) n).1=0))
def uz (c:Cust) (n:Nat) (cap:Int):List Int × Bool:=((yZ c (Zb c cap) n).1,decide (wy c (yZ c (Zb c cap) n).1=0))
theorem Zm4 (c:Cust) (n:Nat) (cap:Int) (hc:CustFits c) (hn:n<=1000):Pure Tryz.prog 194 [.agg (zM c),I n,I cap] (.tup [L (vR c n cap).1,B (vR c n cap).2]):=by
 have h:=ZeM c n 237 [.ip (zM c),.ip [I cap]] (ZI c cap) hc hn (Zay hc cap) (fun t ht=>Zm2 c cap t hc ht)
 unfold vR
 generalize yZ c (ZI c cap) n=r at h ⊢
 refine zz Tryz.func194 Tryz.ntmps194 Tryz.results194 fun S nx hd=>?_
 refine za (zb ?_)
 intro v0 v1
 refine jR 0 rfl ?_
 refine jR 1 rfl ?_
 refine za (zb ?_)
 refine zA h ?_
 exact zg (zk hd (by simp;rfl) rfl)
theorem Zm5 (c:Cust) (n:Nat) (cap:Int) (hc:CustFits c) (hn:n<=1000):Pure Tryz.prog 196 [.agg (zM c),I n,I cap] (.tup [L (uz c n cap).1,B (uz c n cap).2]):=by
 have h:=ZeM c n 238 [.ip (zM c),.ip [I cap]] (Zb c cap) hc hn (Zaz hc cap) (fun t ht=>Zm3 c cap t hc ht)
 unfold uz
 generalize yZ c (Zb c cap) n=r at h ⊢
 refine zz Tryz.func196 Tryz.ntmps196 Tryz.results196 fun S nx hd=>?_
 refine za (zb ?_)
 intro v0 v1
 refine jR 0 rfl ?_
 refine jR 1 rfl ?_
 refine za (zb ?_)
 refine zA h ?_
 exact zg (zk hd (by simp;rfl) rfl)
def Yk (price:List Int) (v:List Visit):Int:=v.foldl (fun s w=>W (s+Qf price w.d)) 0
theorem Zm6 (price:List Int) (v:List Visit) (w:Visit):Yk price (v++[w])=W (Yk price v+Qf price w.d):=by simp [Yk]
def Qi (c:Cust) (n:Int) (price:List Int) (v:List Visit):Int:=if c.kind=1 then Yk price v else W (Yk price v+uY c (yF c (yx v n)).1)
theorem ZeN {S:Store} {pl:PV} {price:List Int} (c:Cust) (n:Int) (v:List Visit) (hR:RowOf S pl price) (hc:CustFits c) (hv:VisOk v) :
  Spec Tryz.prog 197 [.agg (zM c),I n,pl,L v] S (fun q S'=>q=I (Qi c n price v)/\S'=S):=by
 have hvn:=hv.n
 have hp:=fun S (h:RowOf S pl price) d=>ZeJ d h
 unfold Qi
 refine qO Tryz.func197 Tryz.ntmps197 Tryz.results197 fun nx hd=>?_
 refine za (zb ?_)
 intro v0
 refine za (zb ?_)
 repeat apply za
 refine zb ?_
 refine zi (zB (fun k:Nat=>k<=v.length) (fun k=>[(1,I n),(3,L v),(4,.ptr nx v0 0),(9,I (Yk price (v.take k))),(2,pl),(14,L v),(15,I v.length),(16,I k)]) (fun _=>[.cells v0 65 (zM c)]) (fun k=>v.length-k) 0 [] (by simp) (by simp [Yk]) (by simp) ?_)
 rintro k hk
 refine za (zb ?_)
 refine za (zr rfl (fun hc1=>?_) (fun hc1=>?_))
 ·simp at hc1
  obtain ⟨w,tl,a1,a2,a3,e1,e0⟩:=el 2 rfl v k hc1
  have hsn:=Zm6 price (v.take k) w
  rw [<-a3] at hsn
  refine zh (za (zi (za (ze [] (zn e0 hc1) ?_))))
  intro v2
  refine z8 [] (by rfl) (by rfl) fun K Gc Gh hK hGc hGh X hX0 hX=>?_
  simp -implicitDefEqProofs [hX0,hX]
  try clear hX0 hX X
  refine hGc _ _ _ _ _ _ _ fun hsuf=>((hp _ (hR.ext hd _) _).mono ?_).v
  rintro _ _ ⟨rfl,rfl⟩
  refine ⟨_,_,rfl,?_⟩
  clear hGc hGh
  clear Gc Gh
  refine zW hsuf (D:=[]) (by rfl) fun Gc Gh hGc hGh X hX0 hX=>?_
  simp -implicitDefEqProofs [hX0,hX]
  clear hX0 hX X
  refine hK _ _ _ ?_
  clear hK hGc hGh
  clear K Gc Gh
  refine zb ?_
  exact zq (k+1) [_] hc1 (by omega) (by simp [zt k (by omega),hsn]) rfl (by simp;rfl)
 ·simp at hc1
  obtain rfl:k=v.length:=by omega
  rw [List.take_length]
  refine zu ?_
  repeat apply za
  refine zb ?_
  by_cases hk1:c.kind=1
  ·rw [if_pos hk1]
   refine zm (by simp [hk1]) ?_
   refine za (zb ?_)
   exact zg ⟨_,S,rfl,⟨by simp [zp],rfl⟩,zU hd⟩
  ·rw [if_neg hk1]
   have hb:=ZdY v n hv
   have hn:=VW c (yx v n) hc (XI _ _)
   have hh:=VX c _ (Zep c (yx v n) (XI _ _))
   generalize yF c (yx v n)=ns at hn hh ⊢
   obtain ⟨nl,ne⟩:=ns
   simp only at hn hh ⊢
   refine zo (by simp [hk1]) ?_
   refine zh (za (zF (some [nx]) (Row.pures [0,1,2,3,4,5,6,7,8,9] .done) mixed trivial ?_))
   refine zN (hb) trivial ?_
   refine zN (hn) trivial ?_
   refine za (zb ?_)
   refine zA hh ?_
   exact zg ⟨_,S,rfl,⟨by simp [zp],rfl⟩,zU hd⟩
def Qj (c:Cust) (n:Nat) (cap:Int) (price:List Int):List Visit × Bool :=
 if (uz c n cap).2=true/\((vR c n cap).2=false\/Qi c n price (yt 0 (uz c n cap).1)<=Qi c n price (yt 0 (vR c n cap).1)) then (yt 0 (uz c n cap).1,true)
 else if (vR c n cap).2=true then (yt 0 (vR c n cap).1,true) else ([],false)
theorem ZeO {q:List Int} {n:Nat} (hq:Qs q) (hl:q.length=n) (hn:n<=1000):VisOk (yt 0 q):=by
 refine ⟨Nat.le_trans (XJ _ _) (by omega),fun s hs=>?_,fun s hs=>?_⟩
 ·have:=XK q 0 hq s hs;omega
 ·have:=XK q 0 hq s hs;unfold zR;omega
theorem Zm7 {S:Store} {pl:PV} {price:List Int} (c:Cust) (n:Nat) (cap:Int) (hR:RowOf S pl price) (hc:CustFits c) (hn:n<=1000) :
  Spec Tryz.prog 153 [.agg (zM c),I n,I cap,pl] S (fun q S'=>q=.tup [L (Qj c n cap price).1,B (Qj c n cap price).2]/\S'=S):=by
 have hD:=Zm4 c n cap hc hn
 have hL:=Zm5 c n cap hc hn
 have lD:(vR c n cap).1.length=n:=Qg _ _ _
 have lL:(uz c n cap).1.length=n:=Qg _ _ _
 have vD:VisOk (yt 0 (vR c n cap).1):=ZeO (Qh hc (Zay hc cap) n).2 lD hn
 have vL:VisOk (yt 0 (uz c n cap).1):=ZeO (Qh hc (Zaz hc cap) n).2 lL hn
 unfold Qj
 generalize vR c n cap=rd at *
 generalize uz c n cap=rl at *
 obtain ⟨qd,od⟩:=rd
 obtain ⟨ql,ol⟩:=rl
 simp only at hD hL lD lL vD vL ⊢
 have hVd:=ZeL qd (by omega)
 have hVl:=ZeL ql (by omega)
 have hcd:=fun S (h:RowOf S pl price)=>ZeN (S:=S) c n (yt 0 qd) h hc vD
 have hcl:=fun S (h:RowOf S pl price)=>ZeN (S:=S) c n (yt 0 ql) h hc vL
 generalize yt 0 qd=vd at *
 generalize yt 0 ql=vl at *
 generalize Qi c n price vd=zd at *
 generalize Qi c n price vl=zl at *
 refine qO Tryz.func153 Tryz.ntmps153 Tryz.results153 fun nx hd=>?_
 refine za (zb ?_)
 intro v0
 refine za (zb ?_)
 refine zA hD ?_
 refine za (zb ?_)
 refine zA hVd ?_
 repeat apply za
 refine zb ?_
 refine zA hL ?_
 refine za (zb ?_)
 cases ol with
 | true =>
  refine zm rfl (za (zb ?_))
  refine zA hVl ?_
  cases od with
  | false =>
   rw [if_pos ⟨rfl,.inl rfl⟩]
   refine za (zF (some [nx]) (Row.pures [0,1,2,3,4,5,6,7,8,9,10,11,12,13,14] .done) mixed zx ?_)
   refine zm rfl (za (zb ?_))
   exact zg ⟨_,S,(by simp;rfl),⟨by simp [zp],rfl⟩,zU hd⟩
  | true =>
   by_cases hle:zl<=zd
   ·rw [if_pos ⟨rfl,.inr hle⟩]
    refine za (wG (some [nx]) (Row.pures [0,1,2,3,4,5,6,8,9,10,11] (.alt 7 (.alt 12 (Row.pures [13,14] .done) .stop) .stop)) mixed (by rfl) (by rfl) (by rfl) fun K Gp Gc Gh hK hGp hGc hGh X hX0 hX1 hX2 hX=>?_)
    simp -implicitDefEqProofs [hX0,hX1,hX2,hX,undef]
    try clear hX0 hX1 hX2 hX X
    refine hGc _ _ _ _ _ _ _ (((hcl _ (hR.ext hd _)).mono ?_).v)
    rintro _ _ ⟨rfl,rfl⟩
    refine ⟨by simp [yB],?_⟩
    clear hGp hGc hGh
    clear Gp Gc Gh
    refine jm fun Gp Gc Gh hGp hGc hGh X hX0 hX1 hX2 hX=>?_
    simp -implicitDefEqProofs [hX0,hX1,hX2,hX,undef]
    try clear hX0 hX1 hX2 hX X
    refine hGc _ _ _ _ _ _ _ (((hcd _ (hR.ext hd _)).mono ?_).v)
    rintro _ _ ⟨rfl,rfl⟩
    refine ⟨by simp [yB],?_⟩
    clear hGp hGc hGh
    clear Gp Gc Gh
    refine jm fun Gp Gc Gh hGp hGc hGh X hX0 hX1 hX2 hX=>?_
    simp -implicitDefEqProofs [hX0,hX1,hX2,hX,undef]
    try clear hX0 hX1 hX2 hX X
    refine hK _ _ _ ?_
    clear hK hGp hGc hGh
    clear K Gp Gc Gh
    refine zm (by simp [hle]) ?_
    refine za (zb ?_)
    exact zg ⟨_,S,(by simp;rfl),⟨by simp [zp],rfl⟩,zU hd⟩
   ·rw [if_neg (by rintro ⟨-,q | q⟩;cases q;exact hle q),if_pos rfl]
    refine za (wG (some [nx]) (Row.pures [0,1,2,3,4,5,6,8,9,10,11] (.alt 7 (.alt 12 (Row.pures [13,14] .done) .stop) .stop)) mixed (by rfl) (by rfl) (by rfl) fun K Gp Gc Gh hK hGp hGc hGh X hX0 hX1 hX2 hX=>?_)
    simp -implicitDefEqProofs [hX0,hX1,hX2,hX,undef]
    try clear hX0 hX1 hX2 hX X
    refine hGc _ _ _ _ _ _ _ (((hcl _ (hR.ext hd _)).mono ?_).v)
    rintro _ _ ⟨rfl,rfl⟩
    refine ⟨by simp [yB],?_⟩
    clear hGp hGc hGh
    clear Gp Gc Gh
    refine jm fun Gp Gc Gh hGp hGc hGh X hX0 hX1 hX2 hX=>?_
    simp -implicitDefEqProofs [hX0,hX1,hX2,hX,undef]
    try clear hX0 hX1 hX2 hX X
    refine hGc _ _ _ _ _ _ _ (((hcd _ (hR.ext hd _)).mono ?_).v)
    rintro _ _ ⟨rfl,rfl⟩
    refine ⟨by simp [yB],?_⟩
    clear hGp hGc hGh
    clear Gp Gc Gh
    refine jm fun Gp Gc Gh hGp hGc hGh X hX0 hX1 hX2 hX=>?_
    simp -implicitDefEqProofs [hX0,hX1,hX2,hX,undef]
    try clear hX0 hX1 hX2 hX X
    refine hK _ _ _ ?_
    clear hK hGp hGc hGh
    clear K Gp Gc Gh
    refine zo (by simp;omega) ?_
    refine zh ?_
    repeat apply za
    refine zb ?_
    refine zo rfl (zh (za (zb ?_)))
    exact zg ⟨_,S,(by simp;rfl),⟨by simp [zp],rfl⟩,zU hd⟩
 | false =>
  rw [if_neg (by rintro ⟨q,-⟩;cases q)]
  refine zo rfl (zh ?_)
  repeat apply za
  refine zb ?_
  cases od with
  | false =>
   rw [if_neg (by decide)]
   refine zm rfl (za (zb ?_))
   refine xz 8 rfl ?_
   exact zg ⟨_,S,rfl,⟨by simp [zp],rfl⟩,zU hd⟩
  | true =>
   rw [if_pos rfl]
   refine zo rfl (zh (za (zb ?_)))
   exact zg ⟨_,S,(by simp;rfl),⟨by simp [zp],rfl⟩,zU hd⟩
open Go Go.Proofs Hp
def qr (c:Cust) (last d:Int):Int × Int :=
 ((if last<0 then c.start else c.size)-c.rate*((if last<0 then d else d-last).toNat:Int),
  uY c ((List.range (if last<0 then d else d-last).toNat).map fun (i:Nat)=>(if last<0 then c.start else c.size)-c.rate*((i:Int)+1)))
theorem ZeP (c:Cust) (last d:Int) (hc:CustFits c) (hl:-1<=last/\last<=64) (hd0:0<=d/\d<=64):Pure Tryz.prog 189 [.agg (zM c),I last,I d] (.tup [I (qr c last d).1,I (qr c last d).2]):=by
 have h1:=hc.rate
 have h2:=hc.size
 have h3:=hc.start
 have w0:IntKind.i64.wrap (d-last)=d-last:=wr _ (by omega) (by omega)
 have key:qr c last d=(let t0:=if last<0 then c.start else c.size;let m:=if last<0 then d else d-last;(t0-c.rate*(m.toNat:Int),uY c ((List.range m.toNat).map fun (i:Nat)=>t0-c.rate*((i:Int)+1)))):=rfl
 rw [key]
 obtain ⟨t0,ht0⟩:∃t0,t0=if last<0 then c.start else c.size:=⟨_,rfl⟩
 obtain ⟨m,hm⟩:∃m,m=if last<0 then d else d-last:=⟨_,rfl⟩
 have hb0:0<=t0/\t0<=2147483648:=by rw [ht0];split<;>omega
 have hmb:-64<=m/\m<=65:=by rw [hm];split<;>omega
 rw [<-ht0,<-hm]
 clear key
 simp only
 refine zz Tryz.func189 Tryz.ntmps189 Tryz.results189 fun S nx hd=>?_
 refine za (zb ?_)
 intro v0
 refine za (ze [] w0 ?_)
 refine za (yk (nx:=nx) (σ:=Unit) (fun _=>True) (fun _=>[(3,.ptr nx v0 0),(8,I t0),(9,I m)]) (fun _=>S) (fun _=>[.cells v0 65 (zM c)]) ?_ ?_)
 ·refine za (zb ?_)
  by_cases h:last<0
  ·rw [if_pos h] at ht0 hm
   refine zm (by simp [h]) ?_
   refine zb ?_
   exact zD () [] trivial (by simp [ht0,hm]) rfl (by simp)
  ·rw [if_neg h] at ht0 hm
   refine zo (by simp;omega) ?_
   exact zh (zD () [] trivial (by simp [ht0,hm]) rfl (by simp))
 intro _ _
 refine za (zb ?_)
 refine za (yT 10 3 1 rfl fun v1=>?_)
 refine za (zb ?_)
 have hprod:∀k:Nat,k<=65->0<=c.rate*(k:Int)/\c.rate*(k:Int)<=2147483648*65:=fun k hk=>⟨Int.mul_nonneg h1.1 (by omega),Int.mul_le_mul h1.2 (by omega) (by omega) (by omega)⟩
 refine zi (zB (fun s:Nat × Nat=>s.1<=m.toNat) (fun (k,w)=>[(3,.ptr nx v0 0),(8,I (t0-c.rate*(k:Int))),(10,.sl (nx+1) w 1 0 ((List.range k).map fun (i:Nat)=>t0-c.rate*((i:Int)+1)).length),(21,I m),(22,I k)]) (fun (k,w)=>[.cells v0 65 (zM c),.cells w 3 (((List.range k).map fun (i:Nat)=>t0-c.rate*((i:Int)+1)).flatMap Enc.enc)]) (fun s=>m.toNat-s.1) (0,v1) [] (by simp) (by simp) (by simp) ?_)
 rintro ⟨k,w⟩ hk
 simp only at hk ⊢
 have hp:=hprod k (by omega)
 have hp1:=hprod (k+1)
 have hmul:c.rate*((k:Int)+1)=c.rate*(k:Int)+c.rate:=by rw [Int.mul_add,Int.mul_one]
 have hrs:((List.range (k+1)).map fun (i:Nat)=>t0-c.rate*((i:Int)+1))=((List.range k).map fun (i:Nat)=>t0-c.rate*((i:Int)+1))++[t0-c.rate*((k:Int)+1)]:=by simp [List.range_succ]
 have hl0:((List.range k).map fun (i:Nat)=>t0-c.rate*((i:Int)+1)).length=k:=by simp
 generalize hls:((List.range k).map fun (i:Nat)=>t0-c.rate*((i:Int)+1))=ls at *
 by_cases hc1:(k:Int)<m
 ·have w1:IntKind.i64.wrap (t0-c.rate*(k:Int)-c.rate)=t0-c.rate*((k:Int)+1):=by rw [wr _ (by omega) (by omega)];omega
  refine za (zb ?_)
  refine za (zm (by simp [hc1]) ?_)
  refine zh (za (zi (za (ze [] w1 ?_))))
  refine zb ?_
  refine ⟨by omega,?_⟩
  refine zb ?_
  exact zq (k+1,w+1) [] (by simp;omega) (by simp;omega) (by simp [zt k (by omega),hrs];) rfl (by simp [hrs])
 ·refine za (zb ?_)
  refine za (zo (by simp;omega) ?_)
  obtain rfl:k=m.toNat:=by omega
  refine zu (zX 1 rfl ?_)
  refine za (zb ?_)
  refine zA (VX c ls (by omega)) ?_
  exact zg (zk hd (by simp;rfl) (by simp [zp,hls]))
def Zc (c:Cust) (st:List Visit × Int) (d:Int):List Visit × Int:=(st.1++[⟨d,W (c.size-(qr c st.2 d).1)⟩],d)
def je (c:Cust) (ds:List Int):List Visit × Int:=ds.foldl (Zc c) ([],-1)
theorem XX (c:Cust) (ds:List Int) (d:Int):je c (ds++[d])=Zc c (je c ds) d:=by simp [je]
theorem ZeQ (c:Cust):∀ds:List Int,(je c ds).1.length=ds.length:=by
 have:∀(ds:List Int) (st:List Visit × Int),(ds.foldl (Zc c) st).1.length=st.1.length+ds.length:=by
  intro ds
  induction ds with
  | nil=>intro st;simp
  | cons d ds ih=>intro st;rw [List.foldl_cons,ih];simp [Zc];omega
 intro ds
 unfold je;rw [this];simp
theorem Zm8 (c:Cust) (p:Nat) (hp:p<2 ^ 64) (hc:CustFits c):Pure Tryz.prog 193 [.agg (zM c),U p] (L (je c (yq p 0 64)).1):=by
 have hall:=Zav p hp
 have hln:=uZ p 0 64
 have hds:∀d∈yq p 0 64,0<=d/\d<64:=fun d hd=>by obtain ⟨i,h,h2,_⟩:=XP hd;omega
 generalize yq p 0 64=ds at hall hln hds ⊢
 refine zz Tryz.func193 Tryz.ntmps193 Tryz.results193 fun S nx hd=>?_
 refine za (zb ?_)
 intro v0
 refine za (zb ?_)
 refine za (yT 5 85 2 rfl fun v1=>?_)
 refine zb ?_
 repeat apply za
 refine zb ?_
 refine zA hall ?_
 have hlast:∀k,-1<=(je c (ds.take k)).2/\(je c (ds.take k)).2<=64:=by
  intro k
  induction k with
  | zero=>simp [je]
  | succ k ih =>
   by_cases h:k<ds.length
   ·rw [List.take_succ_eq_append_getElem h,XX]
    have:=hds ds[k] (List.getElem_mem h)
    simp only [Zc];omega
   ·rw [List.take_of_length_le (by omega)] at ih ⊢
    exact ih
 refine zi (zB (fun s:Nat × Nat=>s.1<=ds.length) (fun (k,w)=>[(2,.ptr nx v0 0),(5,.sl (nx+1) w 2 0 (je c (ds.take k)).1.length),(6,I (je c (ds.take k)).2),(12,L ds),(13,I ds.length),(14,I k)]) (fun (k,w)=>[.cells v0 65 (zM c),.cells w 85 ((je c (ds.take k)).1.flatMap Enc.enc)]) (fun s=>ds.length-s.1) (0,v1) [] (by simp) (by simp [je]) (by simp [je]) ?_)
 rintro ⟨k,w⟩ hk
 simp only at hk ⊢
 have hl1:=hlast k
 have hfl:(je c (ds.take k)).1.length=k:=by rw [ZeQ];simp;omega
 refine za (zb ?_)
 refine za (zr rfl (fun hc1=>?_) (fun hc1=>?_))
 ·simp at hc1
  obtain ⟨d,tl,a1,a2,a3,e0⟩:=zC rfl ds k hc1
  have hd1:=hds d (List.mem_of_getElem? a1)
  have hsn:=XX c (ds.take k) d
  rw [<-a3] at hsn
  generalize je c (ds.take k)=st at *
  obtain ⟨out,last⟩:=st
  simp only [Zc] at hl1 hfl hsn ⊢
  have hr:=ZeP c last d hc hl1 (by omega)
  generalize qr c last d=r at hr hsn
  obtain ⟨th,he⟩:=r
  simp only at hr hsn
  refine zh (za (zi (za (ze [] (zn e0 hc1) ?_))))
  refine za (zb ?_)
  refine zA hr ?_
  refine za (zb ?_)
  refine ⟨by omega,?_⟩
  refine zb ?_
  refine zb ?_
  exact zq (k+1,w+1) [] hc1 (by simp;omega) (by simp [zt k (by omega),hsn]) rfl (by simp [hsn])
 ·simp at hc1
  obtain rfl:k=ds.length:=by omega
  rw [List.take_length]
  refine zu (zX 1 rfl ?_)
  refine za (zb ?_)
  exact zg (zk hd (by simp;rfl) rfl)
structure Stp where
 r:Bool
 k:Int
 l:Int
 deriving DecidableEq
instance:Inhabited Stp:=⟨⟨false,0,0⟩⟩
instance:Enc Stp:=⟨fun s=>[B s.r,I s.k,I s.l],3,fun _=>rfl,fun _=>rfl⟩
@[simp] theorem ZqZ (s:Stp):Enc.enc s=[B s.r,I s.k,I s.l]:=rfl
@[simp high] theorem Zm9 (l:List Stp):(l.flatMap Enc.enc).length=l.length*3:=j8 l
@[simp high] theorem Zq0 (l:List Stp):(l.flatMap Enc.enc).take (l.length*3)=l.flatMap Enc.enc:=uM l
def zs:Stp:=⟨false,0,0⟩
def Yl (c:Cust) (n:Nat) (cap:Int) (price:List Int) (tab:List Stp) (d:Nat) (last:Int):Int :=
 let k1:=if 0<=last then W ((qr c last d).2+(tab.getD last.toNat zs).k) else (qr c last d).2
 if d<n then W (k1+Qf price d) else k1
def ZJ (c:Cust) (n:Nat) (cap:Int) (tab:List Stp) (d:Nat) (last:Int):Prop :=
 ¬(0<=last/\tab.getD last.toNat zs=zs)/\¬((qr c last d).1<0\/(d<n/\x7 c (qr c last d).1 cap=0))
instance (c:Cust) (n:Nat) (cap:Int) (tab:List Stp) (d:Nat) (last:Int):Decidable (ZJ c n cap tab d last):=by unfold ZJ;exact inferInstance
def Jm (c:Cust) (n:Nat) (cap:Int) (price:List Int) (tab:List Stp) (d:Nat) (best:Stp) (last:Int):Stp :=
 if ZJ c n cap tab d last then (if best=zs\/Yl c n cap price tab d last<best.k then ⟨true,Yl c n cap price tab d last,last⟩ else best) else best
def jP (c:Cust) (n:Nat) (cap:Int) (price:List Int) (tab:List Stp) (d:Nat) (j:Nat):Stp:=(List.range j).foldl (fun b (i:Nat)=>Jm c n cap price tab d b ((i:Int)-1)) zs
theorem ZeR (c:Cust) (n:Nat) (cap:Int) (price:List Int) (tab:List Stp) (d:Nat) (j:Nat):jP c n cap price tab d (j+1)=Jm c n cap price tab d (jP c n cap price tab d j) ((j:Int)-1):=by simp [jP,List.range_succ]
def qT (c:Cust) (n:Nat) (cap:Int) (price:List Int):Nat->List Stp
 | 0=>[]
 | k+1=>qT c n cap price k++[jP c n cap price (qT c n cap price k) k (k+1)]
theorem Jn (c:Cust) (n:Nat) (cap:Int) (price:List Int):∀k,(qT c n cap price k).length=k
 | 0=>rfl
 | k+1=>by simp [qT,Jn c n cap price k]
def wA (tab:List Stp):Nat->Nat->Int->Nat
 | 0,s,_=>s
 | f+1,s,d=>if d<0 then s else wA tab f (jW s d) (tab.getD d.toNat zs).l
def ZK (c:Cust) (n:Nat) (cap:Int) (price:List Int):List Visit × Bool :=
 if (qT c n cap price (n+1)).getD n zs=zs then ([],false)
 else ((je c (yq (wA (qT c n cap price (n+1)) 65 0 ((qT c n cap price (n+1)).getD n zs).l) 0 64)).1,true)
def Zna (tab:List Stp):Prop:=∀(d:Nat) (e:Stp),tab[d]?=some e->e=zs\/(e.r=true/\-1<=e.l/\e.l<d/\(0<=e.l->tab.getD e.l.toNat zs≠zs))
theorem XY (c:Cust) (n:Nat) (cap:Int) (price:List Int) (tab:List Stp) (d:Nat):∀j:Nat,jP c n cap price tab d j=zs\/((jP c n cap price tab d j).r=true/\-1<=(jP c n cap price tab d j).l/\(jP c n cap price tab d j).l+1<j/\ZJ c n cap tab d (jP c n cap price tab d j).l)
 | 0=>.inl rfl
 | j+1=>by
  have ih:=XY c n cap price tab d j
  rw [ZeR]
  unfold Jm
  split
  ·rename_i hok
   split
   ·exact .inr ⟨rfl,by dsimp only;omega,by dsimp only;omega,hok⟩
   ·rcases ih with ih | ⟨h1,h2,h3,h4⟩
    ·exact .inl ih
    ·exact .inr ⟨h1,h2,by omega,h4⟩
  ·rcases ih with ih | ⟨h1,h2,h3,h4⟩
   ·exact .inl ih
   ·exact .inr ⟨h1,h2,by omega,h4⟩
theorem ZaA (c:Cust) (n:Nat) (cap:Int) (price:List Int):∀k,Zna (qT c n cap price k)
 | 0=>by intro d e h;cases h
 | k+1=>by
  have ih:=ZaA c n cap price k
  have hl:=Jn c n cap price k
  have he:=XY c n cap price (qT c n cap price k) k (k+1)
  intro d e h
  simp only [qT] at h ⊢
  have hget:∀(i:Nat),i<k->(qT c n cap price k++[jP c n cap price (qT c n cap price k) k (k+1)]).getD i zs=(qT c n cap price k).getD i zs:=by
   intro i hi
   rw [List.getD_eq_getElem?_getD,List.getD_eq_getElem?_getD,List.getElem?_append_left (by omega)]
  by_cases hd:d<k
  ·rw [List.getElem?_append_left (by omega)] at h
   rcases ih d e h with q | ⟨q1,q2,q3,q4⟩
   ·exact .inl q
   ·refine .inr ⟨q1,q2,q3,fun q=>?_⟩
    rw [hget _ (by omega)];exact q4 q
  ·rw [List.getElem?_append_right (by omega),hl] at h
   obtain rfl:d=k:=by
    rcases Nat.lt_or_ge (d-k) 1 with q | q
    ·omega
    ·rw [List.getElem?_eq_none (by simpa using q)] at h;cases h
   rw [Nat.sub_self] at h
   simp only [List.getElem?_cons_zero,Option.some.injEq] at h
   subst h
   rcases he with q | ⟨q1,q2,q3,q4⟩
   ·exact .inl q
   ·refine .inr ⟨q1,q2,by omega,fun q=>?_⟩
    rw [hget _ (by omega)]
    exact fun hz=>q4.1 ⟨q,hz⟩
open Go Go.Proofs Hp
def qe (tab:List Stp) (b:Stp):List Stp:=tab++b :: List.replicate (64-tab.length) zs
theorem ZeS (tab:List Stp) (b:Stp) (h:tab.length<=64):(qe tab b).length=65:=by simp [qe];omega
theorem XZ (tab:List Stp) (b:Stp) (i:Nat) (h:i<tab.length):(qe tab b)[i]?=some (tab.getD i zs):=by
 unfold qe
 rw [List.getElem?_append_left h,List.getD_eq_getElem?_getD,List.getElem?_eq_getElem h];rfl
theorem Znb (tab:List Stp) (b:Stp):(qe tab b)[tab.length]?=some b:=by
 unfold qe
 rw [List.getElem?_append_right (Nat.le_refl _)];simp
theorem Znc (tab:List Stp) (b e:Stp):(qe tab b).set tab.length e=qe tab e:=by
 unfold qe
 rw [List.set_append_right _ _ (Nat.le_refl _)];simp
theorem Znd (tab:List Stp) (b:Stp) (h:tab.length<64):qe tab b=qe (tab++[b]) zs:=by
 unfold qe
 rw [List.append_assoc,List.length_append,List.length_singleton,show 64-tab.length=(64-(tab.length+1))+1 from by omega,List.replicate_succ]
 rfl
@[simp] theorem Zq1:Program.zeroOf Tryz.prog 260=some (.agg #[.bool false,.int .i64 0,.int .i64 0,.bool false,.int .i64 0,.int .i64 0,.bool false,.int .i64 0,.int .i64 0,.bool false,.int .i64 0,.int .i64 0,.bool false,.int .i64 0,.int .i64 0,.bool false,.int .i64 0,.int .i64 0,.bool false,.int .i64 0,.int .i64 0,.bool false,.int .i64 0,.int .i64 0,.bool false,.int .i64 0,.int .i64 0,.bool false,.int .i64 0,.int .i64 0,.bool false,.int .i64 0,.int .i64 0,.bool false,.int .i64 0,.int .i64 0,.bool false,.int .i64 0,.int .i64 0,.bool false,.int .i64 0,.int .i64 0,.bool false,.int .i64 0,.int .i64 0,.bool false,.int .i64 0,.int .i64 0,.bool false,.int .i64 0,.int .i64 0,.bool false,.int .i64 0,.int .i64 0,.bool false,.int .i64 0,.int .i64 0,.bool false,.int .i64 0,.int .i64 0,.bool false,.int .i64 0,.int .i64 0,.bool false,.int .i64 0,.int .i64 0,.bool false,.int .i64 0,.int .i64 0,.bool false,.int .i64 0,.int .i64 0,.bool false,.int .i64 0,.int .i64 0,.bool false,.int .i64 0,.int .i64 0,.bool false,.int .i64 0,.int .i64 0,.bool false,.int .i64 0,.int .i64 0,.bool false,.int .i64 0,.int .i64 0,.bool false,.int .i64 0,.int .i64 0,.bool false,.int .i64 0,.int .i64 0,.bool false,.int .i64 0,.int .i64 0,.bool false,.int .i64 0,.int .i64 0,.bool false,.int .i64 0,.int .i64 0,.bool false,.int .i64 0,.int .i64 0,.bool false,.int .i64 0,.int .i64 0,.bool false,.int .i64 0,.int .i64 0,.bool false,.int .i64 0,.int .i64 0,.bool false,.int .i64 0,.int .i64 0,.bool false,.int .i64 0,.int .i64 0,.bool false,.int .i64 0,.int .i64 0,.bool false,.int .i64 0,.int .i64 0,.bool false,.int .i64 0,.int .i64 0,.bool false,.int .i64 0,.int .i64 0,.bool false,.int .i64 0,.int .i64 0,.bool false,.int .i64 0,.int .i64 0,.bool false,.int .i64 0,.int .i64 0,.bool false,.int .i64 0,.int .i64 0,.bool false,.int .i64 0,.int .i64 0,.bool false,.int .i64 0,.int .i64 0,.bool false,.int .i64 0,.int .i64 0,.bool false,.int .i64 0,.int .i64 0,.bool false,.int .i64 0,.int .i64 0,.bool false,.int .i64 0,.int .i64 0,.bool false,.int .i64 0,.int .i64 0,.bool false,.int .i64 0,.int .i64 0,.bool false,.int .i64 0,.int .i64 0,.bool false,.int .i64 0,.int .i64 0,.bool false,.int .i64 0,.int .i64 0,.bool false,.int .i64 0,.int .i64 0,.bool false,.int .i64 0,.int .i64 0,.bool false,.int .i64 0,.int .i64 0,.bool false,.int .i64 0,.int .i64 0,.bool false,.int .i64 0,.int .i64 0,.bool false,.int .i64 0,.int .i64 0]):=by kernel_rfl
theorem ZeT {α:Type} [Enc α]:∀(l:List α) (k:Nat),(l.flatMap Enc.enc).take (k*Enc.sz α)=(l.take k).flatMap Enc.enc
 | [],k=>by simp
 | a :: l,0=>by simp
 | a :: l,k+1=>by
  have ih:=ZeT l k
  rw [List.flatMap_cons,List.take_succ_cons,List.flatMap_cons,Nat.add_mul,Nat.one_mul,List.take_append,Enc.len,<-ih,Nat.add_sub_cancel,List.take_of_length_le (by rw [Enc.len];omega)]
theorem Zne {α:Type} [Enc α] (n:Nat) (hn:Enc.sz α=n) (l:List α) (k:Nat) (v:α) (h:k<l.length):yb (l.flatMap Enc.enc) (k*n) (Enc.enc v)=(l.set k v).flatMap Enc.enc:=by
 subst hn
 have h1:=Wx h
 have h2:(l.flatMap Enc.enc).drop (k*Enc.sz α+Enc.sz α)=(l.drop (k+1)).flatMap Enc.enc:=by
  rw [<-List.drop_drop,h1,List.drop_append,List.drop_of_length_le (by rw [Enc.len];exact Nat.le_refl _),Enc.len,Nat.sub_self]
  simp
 rw [yb,Enc.len,ZeT,h2,List.set_eq_take_append_cons_drop,if_pos h]
 simp
theorem ZeU (tab:List Stp):∀(f s:Nat) (d:Int),s<2 ^ 64->wA tab f s d<2 ^ 64
 | 0,_,_,h=>h
 | f+1,s,d,h=>by
  unfold wA
  split
  ·exact h
  ·exact ZeU tab f _ _ (VU _ _ h)
theorem Znf (tab:List Stp) (f s:Nat) {d:Int} (h:d<0):wA tab f s d=s:=by
 cases f with
 | zero=>rfl
 | succ f=>unfold wA;rw [if_pos h]
theorem Zng {S:Store} {pl:PV} {price:List Int} (c:Cust) (n:Nat) (cap:Int) (hR:RowOf S pl price) (hc:CustFits c) (hn:n<=60) :
  Spec Tryz.prog 152 [.agg (zM c),I n,I cap,pl] S (fun q S'=>q=.tup [L (ZK c n cap price).1,B (ZK c n cap price).2]/\S'=S):=by
 have hmin:vk (n:Int) 64=n:=by unfold vk;split<;>omega
 have hmax:j4 (n:Int) 0=n:=by unfold j4;split<;>omega
 have hpr:=fun S (h:RowOf S pl price) d=>ZeJ d h
 have hrest:=fun (last d:Int) (h1:-1<=last/\last<=64) (h2:0<=d/\d<=64)=>ZeP c last d hc h1 h2
 have hmost:=fun (th:Int) (h:-4611686018427387904<=th/\th<=4611686018427387904)=>Zax c th cap hc.size h
 unfold ZK
 refine qO Tryz.func152 Tryz.ntmps152 Tryz.results152 fun nx hd=>?_
 refine za (zb ?_)
 intro v0
 refine za (ze [] (zn hmin hmax) ?_)
 refine za (zb ?_)
 intro v1
 have hw:IntKind.i64.wrap ((n:Int)+1)=((n+1:Nat):Int):=zt n (by omega)
 repeat apply za
 refine ze [] hw ?_
 refine zi (zB (fun d:Nat=>d<=n+1) (fun d=>[(1,I n),(2,I cap),(3,pl),(4,.ptr nx v0 0),(10,.ptr (nx+1) v1 0),(22,I (n+1:Nat)),(23,I d)]) (fun d=>[.cells v0 65 (zM c),.cells v1 260 ((qe (qT c n cap price d) zs).flatMap Enc.enc)]) (fun d=>n+1-d) 0 [] (by simp) (by simp) (by simp [qT];rfl) ?_)
 rintro d hd1
 have htl:=Jn c n cap price d
 have htok:=ZaA c n cap price d
 have htn:qT c n cap price (d+1)=qT c n cap price d++[jP c n cap price (qT c n cap price d) d (d+1)]:=rfl
 by_cases hdn:d<n+1
 case neg =>
  obtain rfl:d=n+1:=by omega
  clear htn
  generalize qT c n cap price (n+1)=tab at *
  have hml:=ZeS tab zs (by omega)
  obtain ⟨s,tl,a1,-,-,e1,e0⟩:=el 3 rfl (qe tab zs) n (by omega)
  have hs:tab.getD n zs=s:=by have:=XZ tab zs n (by omega);rw [a1] at this;exact (Option.some.inj this).symm
  have hs2:tab[n]?=some s:=by rw [<-hs,List.getD_eq_getElem?_getD,List.getElem?_eq_getElem (by omega)];rfl
  have e12:=e1 2 (by omega)
  have hn65:(n:Int)<65:=by omega
  have z1:3<=195-n*3:=by omega
  have z2:1<=195-(n*3+2):=by omega
  rw [hs]
  refine za (zb ?_)
  refine za (zo (by simp) ?_)
  refine zu ?_
  rcases htok n s hs2 with q | ⟨hr,hl1,hl2,hl3⟩
  ·subst q
   rw [if_pos rfl]
   have e0':((qe tab zs).flatMap Enc.enc).drop (n*3)=[B false,I 0,I 0]++tl:=e0
   repeat apply za
   refine ze [] (zP e0' hn65 hml z1) ?_
   refine zm rfl (za (zb ?_))
   refine xz 8 rfl ?_
   exact zg ⟨_,S,rfl,⟨by simp [zp],rfl⟩,zU hd⟩
  ·have hne:s≠zs:=fun e=>by rw [e] at hr;cases hr
   rw [if_neg hne]
   obtain ⟨sr,sk,sl⟩:=s
   simp only at hr hl1 hl2 hl3 ⊢
   subst hr
   repeat apply za
   refine ze [] (zP e0 hn65 hml z1) ?_
   refine zo rfl (zh (za (zb ?_)))
   repeat apply za
   refine ze [] (zP e12 hn65 hml z2) ?_
   generalize hres:wA tab 65 0 sl=res
   have hrlt:res<2 ^ 64:=hres ▸ ZeU tab 65 0 sl (by decide)
   have hfil:=Zm8 c res hrlt hc
   generalize (je c (yq res 0 64)).1=vv at hfil ⊢
   refine zi (zB (fun st:Nat × Nat × Int=>wA tab st.1 st.2.1 st.2.2=res/\-1<=st.2.2/\st.2.2<st.1/\st.2.2<n/\st.2.1<2 ^ 64/\(0<=st.2.2->tab.getD st.2.2.toNat zs≠zs)) (fun (f,s,l)=>[(4,.ptr nx v0 0),(10,.ptr (nx+1) v1 0),(16,U s),(17,I l)]) (fun _=>[.cells v0 65 (zM c),.cells v1 260 ((qe tab zs).flatMap Enc.enc)]) (fun st=>st.1) (65,0,sl) [] ⟨hres,hl1,by dsimp only;omega,by dsimp only;omega,by show (0:Nat)<2 ^ 64;decide,hl3⟩ (by simp) (by simp) ?_)
   rintro ⟨f,s,l⟩ ⟨p1,p2,p3,p4,p5,p6⟩
   simp only at p1 p2 p3 p4 p5 p6 ⊢
   by_cases hl:l<0
   ·have hl':¬0<=l:=by omega
    rw [Znf tab f s hl] at p1
    subst p1
    repeat apply za
    refine ze [] hl' ?_
    refine zo rfl (zu (za (zb ?_)))
    refine zA hfil ?_
    exact zg ⟨_,S,(by simp;rfl),⟨by simp [zp],rfl⟩,zU hd⟩
   ·have hl':0<=l:=by omega
    obtain ⟨i,rfl⟩:=Int.eq_ofNat_of_zero_le hl'
    obtain ⟨f,rfl⟩:∃g,f=g+1:=⟨f-1,by omega⟩
    have p6:=p6 hl'
    rw [Int.toNat_natCast] at p6
    have hi:i<tab.length:=by omega
    obtain ⟨e,tl2,b1,-,-,f1,f0⟩:=el 3 rfl (qe tab zs) i (by omega)
    have he:tab.getD i zs=e:=by have:=XZ tab zs i hi;rw [b1] at this;exact (Option.some.inj this).symm
    have he2:tab[i]?=some e:=by rw [<-he,List.getD_eq_getElem?_getD,List.getElem?_eq_getElem hi];rfl
    have f12:=f1 2 (by omega)
    have hi65:(i:Int)<65:=by omega
    have y2:1<=195-(i*3+2):=by omega
    rw [he] at p6
    rcases htok i e he2 with q | ⟨er,el1',el2',el3'⟩
    ·exact absurd q p6
    have p1':wA tab f (jW s i) e.l=res:=by
     rw [<-p1];unfold wA;rw [if_neg (by omega),Int.toNat_natCast,he]
     cases f<;>rfl
    repeat apply za
    refine ze [] hl' ?_
    refine zm rfl (zh (za (zi (zb ?_))))
    refine zA (ZkZ s i p5) ?_
    refine ze [] (zP f12 hi65 hml y2) ?_
    exact zq (f,jW s i,e.l) [] ⟨p1',el1',by dsimp only;omega,by dsimp only;omega,VU _ _ p5,el3'⟩ (by simp) (by simp) rfl (by simp)
 generalize qT c n cap price d=tab at *
 refine za (zb ?_)
 refine za (zm (by simp;omega) ?_)
 refine zh (za (zi (za (zb ?_))))
 refine za (zb ?_)
 refine zi (zB (fun j:Nat=>j<=d+1) (fun j=>[(1,I n),(2,I cap),(3,pl),(4,.ptr nx v0 0),(10,.ptr (nx+1) v1 0),(11,I d),(12,I ((j:Int)-1)),(22,I (n+1:Nat)),(23,I d)]) (fun j=>[.cells v0 65 (zM c),.cells v1 260 ((qe tab (jP c n cap price tab d j)).flatMap Enc.enc)]) (fun j=>d+1-j) 0 [] (by simp) (by simp) (by simp [jP]) ?_)
 rintro j hj
 have hesucc:=ZeR c n cap price tab d j
 have heok:=XY c n cap price tab d j
 have hdd:jP c n cap price tab d (d+1)=jP c n cap price tab d (d+1):=rfl
 by_cases hjd:j<d+1
 case neg =>
  obtain rfl:j=d+1:=by omega
  repeat apply za
  refine zb ?_
  refine zo (by simp) ?_
  refine zu (zb ?_)
  exact zq (d+1) [] hdn (by omega) (by simp [zt d (by omega)]) rfl (by rw [htn,<-Znd tab _ (by omega)];simp)
 clear hdd htn
 generalize jP c n cap price tab d j=b at *
 obtain ⟨last,hlast⟩:∃last:Int,last=(j:Int)-1:=⟨_,rfl⟩
 rw [<-hlast] at hesucc ⊢
 have hwl:IntKind.i64.wrap (last+1)=((j+1:Nat):Int)-1:=by rw [wr _ (by omega) (by omega)];omega
 have hml:=ZeS tab b (by omega)
 have hd65:(d:Int)<65:=by omega
 have zd3:3<=195-d*3:=by omega
 have zd1:1<=195-(d*3+1):=by omega
 have hr:=hrest last d (by omega) (by omega)
 have hrbd:-4611686018427387904<=(qr c last d).1/\(qr c last d).1<=4611686018427387904:=by
  have h1:=hc.rate
  have h2:=hc.size
  have h3:=hc.start
  unfold qr
  simp only
  have hp:0<=c.rate*((if last<0 then (d:Int) else d-last).toNat:Int)/\c.rate*((if last<0 then (d:Int) else d-last).toNat:Int)<=2147483648*65 :=
   ⟨Int.mul_nonneg h1.1 (by omega),Int.mul_le_mul h1.2 (by split<;>omega) (by omega) (by omega)⟩
  generalize c.rate*((if last<0 then (d:Int) else d-last).toNat:Int)=pp at hp ⊢
  split<;>omega
 have hm:=hmost _ hrbd
 have hks:∀(k1:Int),k1=(if 0<=last then W ((qr c last d).2+(tab.getD last.toNat zs).k) else (qr c last d).2)->Yl c n cap price tab d last=if d<n then W (k1+Qf price d) else k1:=fun k1 h=>by unfold Yl;rw [h]
 have hokd:ZJ c n cap tab d last=(¬(0<=last/\tab.getD last.toNat zs=zs)/\¬((qr c last d).1<0\/(d<n/\x7 c (qr c last d).1 cap=0))):=rfl
 have hstay:¬ZJ c n cap tab d last->jP c n cap price tab d (j+1)=b:=fun h=>by rw [hesucc];unfold Jm;rw [if_neg h]
 have hgo:ZJ c n cap tab d last->jP c n cap price tab d (j+1)=if b=zs\/Yl c n cap price tab d last<b.k then ⟨true,Yl c n cap price tab d last,last⟩ else b:=fun h=>by rw [hesucc];unfold Jm;rw [if_pos h]
 clear hesucc
 generalize qr c last d=rr at hr hm hks hokd
 obtain ⟨th,he⟩:=rr
 simp only at hr hm hks hokd
 generalize x7 c th cap=mo at hm hokd
 generalize ZJ c n cap tab d last=OK at hokd hstay hgo
 generalize Yl c n cap price tab d last=kk at hks hgo
 generalize hb'e:jP c n cap price tab d (j+1)=b' at hstay hgo
 subst hokd
 repeat apply za
 refine zb ?_
 refine zm (by simp;omega) ?_
 refine zh (za (zi (za (yk (nx:=nx) (σ:=Unit) (fun _=>¬(0<=last/\tab.getD last.toNat zs=zs)) (fun _=>[(1,I n),(2,I cap),(3,pl),(4,.ptr nx v0 0),(10,.ptr (nx+1) v1 0),(11,I d),(12,I last),(22,I (n+1:Nat)),(23,I d)]) (fun _=>S) (fun _=>[.cells v0 65 (zM c),.cells v1 260 ((qe tab b).flatMap Enc.enc)]) ?_ ?_))))
 ·by_cases hl:0<=last
  ·obtain ⟨i,hi⟩:=Int.eq_ofNat_of_zero_le hl
   have hit:i<tab.length:=by omega
   obtain ⟨e,tl2,b1,-,-,-,f0⟩:=el 3 rfl (qe tab b) i (by omega)
   have hee:tab.getD i zs=e:=by have:=XZ tab b i hit;rw [b1] at this;exact (Option.some.inj this).symm
   have he2:tab[i]?=some e:=by rw [<-hee,List.getD_eq_getElem?_getD,List.getElem?_eq_getElem hit];rfl
   have hi65:(i:Int)<65:=by omega
   have y3:3<=195-i*3:=by omega
   have hlt:last.toNat=i:=by omega
   rcases htok i e he2 with q | ⟨er,-,-,-⟩
   ·subst q
    have f0':((qe tab b).flatMap Enc.enc).drop (i*3)=[B false,I 0,I 0]++tl2:=f0
    have hb':=hstay fun h=>h.1 ⟨hl,by rw [hlt];exact hee⟩
    subst hb'
    subst hi
    refine za (ze [(2,33)] (yD hl f0' hi65 hml y3) ?_)
    refine zm rfl (zu (ze [] hwl ?_))
    exact zq (j+1) [] (by omega) (by omega) (by simp) rfl (by simp [hb'e])
   ·obtain ⟨r1,r2,r3⟩:=e
    simp only at er
    subst er
    subst hi
    refine za (ze [(2,33)] (yD hl f0 hi65 hml y3) ?_)
    exact zo rfl (zh (zD () [] (by rw [hlt,hee];rintro ⟨-,q⟩;cases q) (by simp) rfl (by simp)))
  ·refine za (ze [(2,33)] (zn hl zx) ?_)
   exact zo rfl (zh (zD () [] (fun q=>hl q.1) (by simp) rfl (by simp)))
 intro _ hA
 refine za (zb ?_)
 refine zA hr ?_
 refine za (yk (nx:=nx) (σ:=Unit) (fun _=>¬(th<0\/(d<n/\mo=0))) (fun _=>[(1,I n),(2,I cap),(3,pl),(4,.ptr nx v0 0),(10,.ptr (nx+1) v1 0),(11,I d),(12,I last),(14,I he),(22,I (n+1:Nat)),(23,I d)]) (fun _=>S) (fun _=>[.cells v0 65 (zM c),.cells v1 260 ((qe tab b).flatMap Enc.enc)]) ?_ ?_)
 ·by_cases h1:th<0
  ·have hb':=hstay fun h=>h.2 (.inl h1)
   subst hb'
   refine za (ze [(2,49),(6,53)] (zn h1 zx) ?_)
   refine zm rfl (zu (ze [] hwl ?_))
   exact zq (j+1) [] (by omega) (by omega) (by simp) rfl (by simp [hb'e])
  ·by_cases h2:d<n
   ·by_cases h3:mo=0
    ·have hb':=hstay fun h=>h.2 (.inr ⟨h2,h3⟩)
     subst hb'
     refine za (ze [(2,49),(6,53)] (zE h1 h2 h3) ?_)
     refine qZ [(2,49),(6,53)] hm (zE h1 h2 h3) ?_
     refine zm rfl (zu (ze [] hwl ?_))
     exact zq (j+1) [] (by omega) (by omega) (by simp) rfl (by simp [hb'e])
    ·refine za (ze [(2,49),(6,53)] (zE h1 h2 h3) ?_)
     refine qZ [(2,49),(6,53)] hm (zE h1 h2 h3) ?_
     exact zo rfl (zh (zD () [] (by omega) (by simp) rfl (by simp)))
   ·refine za (ze [(2,49),(6,53)] (zE h1 h2 zx) ?_)
    exact zo rfl (zh (zD () [] (by omega) (by simp) rfl (by simp)))
 intro _ hB
 have hgo:=hgo ⟨hA,hB⟩
 clear hstay hm hr
 refine za (zb ?_)
 intro v2
 obtain ⟨k1,hk1⟩:∃k1,k1=(if 0<=last then W (he+(tab.getD last.toNat zs).k) else he):=⟨_,rfl⟩
 have hks:=hks k1 hk1
 refine za (yk (nx:=nx) (σ:=Unit) (fun _=>True) (fun _=>[(1,I n),(2,I cap),(3,pl),(4,.ptr nx v0 0),(10,.ptr (nx+1) v1 0),(11,I d),(12,I last),(15,.ptr (nx+2) v2 0),(22,I (n+1:Nat)),(23,I d)]) (fun _=>S) (fun _=>[.cells v0 65 (zM c),.cells v1 260 ((qe tab b).flatMap Enc.enc),.cells v2 259 [B true,I k1,I last]]) ?_ ?_)
 ·refine za (zb ?_)
  by_cases hl:0<=last
  ·rw [if_pos hl] at hk1
   obtain ⟨i,hi⟩:=Int.eq_ofNat_of_zero_le hl
   have hit:i<tab.length:=by omega
   obtain ⟨e,tl2,b1,-,-,f1,f0⟩:=el 3 rfl (qe tab b) i (by omega)
   have hee:tab.getD i zs=e:=by have:=XZ tab b i hit;rw [b1] at this;exact (Option.some.inj this).symm
   have f11:=f1 1 (by omega)
   have hi65:(i:Int)<65:=by omega
   have y1:1<=195-(i*3+1):=by omega
   have hlt:last.toNat=i:=by omega
   rw [hlt,hee] at hk1
   subst hi
   refine zm (by simp) ?_
   refine zF (some [nx+1]) (Row.pures [0,2,3,4,5] (.alt 1 (Row.pures [6,7] (.alt 8 (.done) .stop)) .stop)) mixed (zP f11 hi65 hml y1) ?_
   exact zD () [] trivial (by simp) rfl (by simp [hk1])
  ·rw [if_neg hl] at hk1
   refine zo (by simp;omega) ?_
   exact zh (zD () [] trivial (by simp) rfl (by simp [hk1]))
 intro _ _
 clear hk1
 refine za (yk (nx:=nx) (σ:=Unit) (fun _=>True) (fun _=>[(1,I n),(2,I cap),(3,pl),(4,.ptr nx v0 0),(10,.ptr (nx+1) v1 0),(11,I d),(12,I last),(15,.ptr (nx+2) v2 0),(22,I (n+1:Nat)),(23,I d)]) (fun _=>S) (fun _=>[.cells v0 65 (zM c),.cells v1 260 ((qe tab b).flatMap Enc.enc),.cells v2 259 [B true,I kk,I last]]) ?_ ?_)
 ·refine za (zb ?_)
  by_cases h2:d<n
  ·rw [if_pos h2] at hks
   refine zm (by simp [h2]) ?_
   refine wG (some [nx+1]) (Row.pures [0,2,3] (.alt 1 (.alt 4 (Row.pures [5,6] (.alt 7 (.done) .stop)) .stop) (.alt 4 (.alt 1 (Row.pures [5,6] (.alt 7 (.done) .stop)) .stop) .stop))) mixed (by rfl) (by rfl) (by rfl) fun K Gp Gc Gh hK hGp hGc hGh X hX0 hX1 hX2 hX=>?_
   simp -implicitDefEqProofs [hX0,hX1,hX2,hX]
   try clear hX0 hX1 hX2 hX X
   refine ⟨?_,?_⟩
   ·refine hGc _ _ _ _ _ _ _ (((hpr _ (hR.ext hd _) _).mono ?_).v)
    rintro _ _ ⟨rfl,rfl⟩
    refine ⟨by simp [yB],?_⟩
    clear hGp hGc hGh
    clear Gp Gc Gh
    refine jm fun Gp Gc Gh hGp hGc hGh X hX0 hX1 hX2 hX=>?_
    simp -implicitDefEqProofs [hX0,hX1,hX2,hX]
    try clear hX0 hX1 hX2 hX X
    refine hK _ _ _ ?_
    clear hK hGp hGc hGh
    clear K Gp Gc Gh
    exact zD () [] trivial (by simp) rfl (by simp [hks])
   ·refine hGc _ _ _ _ _ _ _ (((hpr _ (hR.ext hd _) _).mono ?_).v)
    rintro _ _ ⟨rfl,rfl⟩
    refine ⟨by simp [yB],?_⟩
    clear hGp hGc hGh
    clear Gp Gc Gh
    refine jm fun Gp Gc Gh hGp hGc hGh X hX0 hX1 hX2 hX=>?_
    simp -implicitDefEqProofs [hX0,hX1,hX2,hX]
    try clear hX0 hX1 hX2 hX X
    refine hK _ _ _ ?_
    clear hK hGp hGc hGh
    clear K Gp Gc Gh
    exact zD () [] trivial (by simp) rfl (by simp [hks])
  ·rw [if_neg h2] at hks
   refine zo (by simp;omega) ?_
   exact zh (zD () [] trivial (by simp) rfl (by simp [hks]))
 intro _ _
 clear hks
 obtain ⟨e,tl2,b1,-,-,f1,f0⟩:=el 3 rfl (qe tab b) d (by omega)
 have hee:b=e:=by have:=Znb tab b;rw [htl,b1] at this;exact (Option.some.inj this).symm
 subst hee
 have f11:=f1 1 (by omega)
 have hsp:=Zne 3 rfl (qe tab b) d ⟨true,kk,last⟩ (by omega)
 have hms:=Znc tab b ⟨true,kk,last⟩
 rw [htl] at hms
 rw [hms] at hsp
 have hsp':yb ((qe tab b).flatMap Enc.enc) (d*3) [B true,I kk,I last]=(qe tab ⟨true,kk,last⟩).flatMap Enc.enc:=hsp
 clear hsp hms
 have hmf:((qe tab b).flatMap Enc.enc:List PV).length=195:=by rw [Zm9,hml]
 rcases heok with q | ⟨hbr,-,-,-⟩
 ·subst q
  rw [if_pos (.inl rfl)] at hgo
  subst hgo
  have f0':((qe tab zs).flatMap Enc.enc).drop (d*3)=[B false,I 0,I 0]++tl2:=f0
  refine za (zF none (Row.pures [0,1,2,3,4,5,6,7,8,9,10,11,12,13] .done) mixed (yD f0' hd65 hml zd3 zx) ?_)
  refine zm rfl (ze [] (zP hd65 hmf hsp' hml) ?_)
  refine ⟨by omega,?_⟩
  refine ze [] hwl ?_
  exact zq (j+1) [_] (by omega) (by omega) (by simp) rfl (by simp [hb'e];rfl)
 ·obtain ⟨r1,r2,r3⟩:=b
  simp only at hbr
  subst hbr
  have hnz:¬((⟨true,r2,r3⟩:Stp)=zs):=fun e=>by cases e
  by_cases hlt:kk<r2
  ·rw [if_pos (.inr hlt)] at hgo
   subst hgo
   refine za (zF none (Row.pures [0,1,2,3,4,5,6,7,8,9,10,11,12,13] .done) mixed (zL f0 f11 hd65 hml zd3 (zn zd1 hlt)) ?_)
   refine zm rfl (ze [] (zP hd65 hmf hsp' hml) ?_)
   refine ⟨by omega,?_⟩
   refine ze [] hwl ?_
   exact zq (j+1) [_] (by omega) (by omega) (by simp) rfl (by simp [hb'e];rfl)
  ·rw [if_neg (by rintro (q | q);exact hnz q;exact hlt q)] at hgo
   subst hgo
   refine za (zF none (Row.pures [0,1,2,3,4,5,6,7,8,9,10,11,12,13] .done) mixed (zL f0 f11 hd65 hml zd3 (zn zd1 hlt)) ?_)
   refine zo rfl (zh (ze [] hwl ?_))
   exact zq (j+1) [_] (by omega) (by omega) (by simp) rfl (by simp [hb'e];rfl)
open Go Go.Proofs Hp
section
variable {P:Program} {r:Rd} {n N:Nat} {Q:Exit->(Nat->PV)->Store->Prop} {F:Nat->PV} {c:Code}
theorem Znh {S:Store} {nx:Nat} {obs:List Ob} (j:Nat) {ver e:Nat} {cs:List PV} (hj:obs[j]?=some (.cells ver e cs)) {id v e2:Nat} {ds:List PV} (hlt:id<nx) (hs:S id=.cells v e2 ds)
  (h:PW P r n N c Q F (ext (S.set id (.cells v e2 (ds.map (yU (nx+j) ver cs)))) nx (obs.set j .dead))):PW P r n N c Q F (ext S nx obs):=by
 have hjl:j<obs.length:=(List.getElem?_eq_some_iff.1 hj).1
 refine ZlK (id:=nx+j) (ver:=ver) (e:=e) (cs:=cs) (G:=F) (by rw [yS,List.getD_eq_getElem?_getD,hj];rfl) (by rw [yS,List.getD_eq_getElem?_getD,List.getElem?_set_self hjl];rfl) (fun o=>?_) (fun _=>.inl rfl) h
 by_cases ho:o<nx
 ·rw [zH ho,zH ho]
  by_cases hoi:o=id
  ·subst hoi;rw [Store.set_same,hs];exact .inr (.inr rfl)
  ·rw [Store.set_other _ _ _ _ hoi];exact .inr (.inl rfl)
 ·simp only [ext]
  rw [if_neg ho,if_neg ho,List.getD_eq_getElem?_getD,List.getD_eq_getElem?_getD,List.getElem?_set]
  split
  ·simp [hjl]
  ·exact .inr (.inl rfl)
theorem X0 {S T:Store} {nx nz:Nat} {obs:List Ob} (hd:zQ nx S) (hle:nx<=nz) (h:∀o,o<nx->T o=S o) (o:Nat):S o=ext T nz obs o\/S o=.dead:=by
 by_cases ho:o<nx
 ·rw [zH (by omega),h o ho];exact .inl rfl
 ·exact .inr (hd o (by omega))
end
def ZL (x:Inst) (sol:Cust->List Int->List Visit × Bool) (b:Int) (n:Nat):Nat->List (List Int)->zJ × Int
 | 0,_=>([],15)
 | k+1,pr =>
  if (jx x sol pr).2≠0 then ([],15)
  else if jk (qQ x (jx x sol pr).1 b n)=0 then (jY x (jx x sol pr).1 b n,0)
  else if (qQ x (jx x sol pr).1 b n).any Za=true then ([],15)
  else ZL x sol b n k (Qe (qQ x (jx x sol pr).1 b n) pr n)
def Jo (x:Inst) (sol:Cust->List Int->List Visit × Bool) (b:Int) (n:Nat):zJ × Int:=ZL x sol b n 8 (qS x n 0)
def ZeV (x:Inst) (n:Nat) (sol:Cust->List Int->List Visit × Bool):Prop:=∀pr,u9 x.cust.length n pr->(jx x sol pr).2=0->VsOk x.cust.length n (jx x sol pr).1
theorem Zni {x:Inst} {sol:Cust->List Int->List Visit × Bool} {b:Int} {n:Nat} (hx:InstH x) (hn:x.days=n) (hn2:n<=1000) (hs:Zau x n sol) (hv:ZeV x n sol) (hb:b<=9223372036854775807) :
  Pure Tryz.prog 31 [.agg (zv x),I b] (.tup [.agg [L (Jo x sol b n).1],I (Jo x sol b n).2]):=by
 have hm:=hx.cust
 unfold Jo
 have hPo:=ZmN x n
 refine zz Tryz.func31 Tryz.ntmps31 Tryz.results31 fun S nx hd=>?_
 refine za (zb ?_)
 intro v0 v1
 refine za (zF (some [nx]) (Row.pures [0,1,2,3,4] (.alt 5 (Row.pures [6] (.alt 7 (Row.pures [8] .done) .stop)) .stop)) mixed trivial ?_)
 refine ⟨by omega,?_⟩
 intro v2 v3
 rw [ZlR]
 refine ZlM (α:=Int) (nx+2) v2 45 (nx+4) 3 1 x.cust.length (by simp) (qN (obs:=[_,_,_,_])) fun T ws hR hT hdT=>?_
 have hT0:T nx=.cells v0 25 (zv x):=by rw [hT nx (by omega) (by omega)];simp
 have hT1:T (nx+1)=.cells v1 38 [.sc (.slice none 0 0)]:=by rw [hT (nx+1) (by omega) (by omega)];simp
 have hT3:T (nx+3)=.cells v3 89 (jE x (.sc (.slice none 0 0)) b (.sc (.slice none 0 0)) (.sc (.slice none 0 0)) (.sl (nx+2) v2 1 0 x.cust.length)):=by rw [hT (nx+3) (by omega) (by omega)];simp
 have hTS:∀o,o<nx->T o=S o:=fun o ho=>by rw [hT o (by omega) (by omega),zH ho]
 clear hT
 obtain ⟨nz,hnz⟩:∃nz,nz=nx+4+x.cust.length:=⟨_,rfl⟩
 rw [<-hnz] at hdT
 rw [show List.replicate x.cust.length ([]:List Int)=qS x 0 0 from (List.ext_getElem? fun j=>by
  by_cases h:j<x.cust.length
  ·simp [qS,h]
  ·rw [List.getElem?_eq_none (by simp;omega),List.getElem?_eq_none (by rw [ux];omega)])] at hR
 rw [<-yX hdT]
 refine za (z8 [] (by rfl) (by rfl) fun K Gc Gh hK hGc hGh X hX0 hX=>?_)
 simp -implicitDefEqProofs [hX0,hX]
 try clear hX0 hX X
 refine hGc _ _ _ _ _ _ _ fun hsuf=>(Spec.mono (ZeE (nx:=nz) (by rw [yX hdT];exact hdT) x _ _ _ _ _ _ _ n hn hn2 (by rw [yX hdT];exact hT3)
  (fun k T'=>(∃ws',RowsAt T' (nx+2) v2 45 (nx+4) 3 1 ws' (qS x k 0))/\(∀o,o≠nx+2->(o<nx+4\/nx+4+x.cust.length<=o)->T' o=T o)) ⟨⟨ws,by rw [yX hdT];exact hR⟩,fun o _ _=>by rw [yX hdT]⟩
  (fun k T' h o ho=>by rw [h.2 o (by omega) (.inr (by omega))];exact hdT o ho) (fun k hk T' h=>?_)) ?_).v
 ·obtain ⟨⟨ws',h1⟩,h2⟩:=h
  refine (ZmI k hm (by omega) (by omega) (by omega) ((h2 (nx+3) (by omega) (.inl (by omega))).trans hT3) h1).mono ?_
  rintro _ T2 ⟨g1,g2⟩
  exact ⟨g1,fun o o1 o2=>(g2 o o1 o2).trans (h2 o o1 o2)⟩
 rintro _ T' ⟨⟨ws',hR'⟩,hT'⟩
 have hdT':zQ nz T':=fun o ho=>by rw [hT' o (by omega) (.inr (by omega))];exact hdT o ho
 refine ⟨T',[],(yX hdT').symm,?_⟩
 clear hGc hGh
 clear Gc Gh
 refine zW hsuf (D:=[]) (by rfl) fun Gc Gh hGc hGh X hX0 hX=>?_
 simp -implicitDefEqProofs [hX0,hX]
 clear hX0 hX X
 refine hK _ _ _ ?_
 clear hK hGc hGh
 clear K Gc Gh
 replace hT0:=(hT' nx (by omega) (.inl (by omega))).trans hT0
 replace hT1:=(hT' (nx+1) (by omega) (.inl (by omega))).trans hT1
 replace hT3:=(hT' (nx+3) (by omega) (.inl (by omega))).trans hT3
 replace hTS:∀o,o<nx->T' o=S o:=fun o ho=>(hT' o (by omega) (.inl (by omega))).trans (hTS o ho)
 clear hT' hR hdT
 generalize qS x n 0=pr0 at *
 repeat apply za
 refine zb ?_
 refine zi (yP (σ:=Nat × Store × List (List Int)) (fun s=>s.1<=8/\u9 x.cust.length n s.2.2/\ZL x sol b n 8 pr0=ZL x sol b n (8-s.1) s.2.2/\(∃ws',RowsAt s.2.1 (nx+2) v2 45 (nx+4) 3 1 ws' s.2.2)/\s.2.1 nx=.cells v0 25 (zv x)/\s.2.1 (nx+1)=.cells v1 38 [.sc (.slice none 0 0)] /\
  (∃vP pP fP,s.2.1 (nx+3)=.cells v3 89 (jE x vP b pP fP (.sl (nx+2) v2 1 0 x.cust.length)))/\(∀o,o<nx->s.2.1 o=S o)/\zQ nz s.2.1)
  (fun s=>[(2,.ptr nx v0 0),(4,.ptr (nx+1) v1 0),(6,.ptr (nx+3) v3 0),(21,I s.1)]) (fun s=>s.2.1) (fun _=>[]) (fun s=>8-s.1) (zD (0,T',pr0) [] ⟨by simp,hPo,rfl,⟨ws',hR'⟩,hT0,hT1,⟨_,_,_,hT3⟩,hTS,hdT'⟩ (by simp) rfl (by simp)) ?_)
 clear hR' hT0 hT1 hT3 hTS hdT' hPo T'
 rintro ⟨k,T,pr⟩ ⟨hk,hP,hst,⟨ws,hR⟩,hT0,hT1,⟨vP,pP,fP,hT3⟩,hTS,hdT⟩
 simp only at hk hP hst hR hT0 hT1 hT3 hTS hdT ⊢
 have x0:=fun obs=>(zH (S:=T) (nx:=nz) (obs:=obs) (i:=nx) (by omega)).trans hT0
 have x3:=fun obs=>(zH (S:=T) (nx:=nz) (obs:=obs) (i:=nx+3) (by omega)).trans hT3
 have g1:¬nz<=nx+1:=by omega
 have x1:=fun obs=>(zH (S:=T) (nx:=nz) (obs:=obs) (i:=nx+1) (by omega)).trans hT1
 refine za (zb ?_)
 refine za (zr rfl (fun hc=>?_) (fun hc=>?_))
 ·simp at hc
  rw [show 8-k=(7-k)+1 from by omega] at hst
  have hvs:=hv pr hP
  have hch:=ZmU (S:=T) hm hP hR hs
  rw [show ZL x sol b n (7-k+1) pr=(if (jx x sol pr).2≠0 then ([],15) else if jk (qQ x (jx x sol pr).1 b n)=0 then (jY x (jx x sol pr).1 b n,0) else if (qQ x (jx x sol pr).1 b n).any Za=true then ([],15) else ZL x sol b n (7-k) (Qe (qQ x (jx x sol pr).1 b n) pr n)) from rfl] at hst
  generalize jx x sol pr=cz at hst hvs hch
  obtain ⟨v,e⟩:=cz
  simp only at hst hvs hch
  refine zh (za (zi (za (wG none (Row.pures [0,1,2,3,4] (.alt 5 (Row.pures [6,7,8,9,10] .done) .stop)) mixed (by rfl) (by rfl) (by rfl) fun K Gp Gc Gh hK hGp hGc hGh X hX0 hX1 hX2 hX=>?_))))
  simp -implicitDefEqProofs [hX0,hX1,hX2,hX,x0,x3]
  try clear hX0 hX1 hX2 hX X
  refine hGc _ _ _ _ _ _ _ (Spec.mono (by rw [yX hdT];exact hch) ?_).v
  rintro _ S2 ⟨rfl,hS2⟩
  have hS3:S2=ext T nz []:=hS2.trans (yX hdT).symm
  subst hS3
  clear hS2
  refine ⟨by simp [yB],?_⟩
  clear hGp hGc hGh
  clear Gp Gc Gh
  refine jm fun Gp Gc Gh hGp hGc hGh X hX0 hX1 hX2 hX=>?_
  simp -implicitDefEqProofs [hX0,hX1,hX2,hX]
  try clear hX0 hX1 hX2 hX X
  refine hK _ _ _ ?_
  clear hK hGp hGc hGh
  clear K Gp Gc Gh
  repeat apply za
  refine zb ?_
  by_cases he:e=0
  case neg =>
   rw [if_pos he] at hst
   rw [hst]
   refine zm (by simp [he]) ?_
   refine za (ze [] (zE x0 x1 g1) ?_)
   show PW _ _ _ _ _ _ _ (ext _ _ _)
   refine Xk (o:=nx+1) 0 (by rw [zH (by omega)];first | exact Store.set_same _ _ _ | exact hT1) rfl ?_
   rw [vr _ (by omega)]
   try rw [Store.set_set]
   refine zg ⟨_,S,(by simp [zH (show nx+1<nz from by omega),Store.set_same];rfl),⟨by simp [zp],rfl⟩,?_⟩
   exact X0 hd (by omega) fun o ho=>by rw [Store.set_other _ _ _ _ (by omega)];exact hTS o ho
  rw [if_neg (by simpa using he)] at hst
  have hvs:=hvs he
  refine zo (by simp [he]) ?_
  refine zh ?_
  repeat apply za
  refine z8 [] (by rfl) (by rfl) fun K Gc Gh hK hGc hGh X hX0 hX=>?_
  simp -implicitDefEqProofs [hX0,hX]
  try clear hX0 hX X
  refine hGc _ _ _ _ _ _ _ fun hsuf=>(Spec.mono (ZlQ (nx:=nz) (n:=n) (by rw [yX hdT];exact hdT) (by rw [yX hdT];exact hT3) hx hn hn2 hvs hb) ?_).v
  rintro _ _ ⟨rfl,vD,vF,rfl⟩
  rw [yX hdT]
  refine ⟨_,_,rfl,?_⟩
  clear hGc hGh
  clear Gc Gh
  refine zW hsuf (D:=[]) (by rfl) fun Gc Gh hGc hGh X hX0 hX=>?_
  simp -implicitDefEqProofs [hX0,hX]
  clear hX0 hX X
  refine hK _ _ _ ?_
  clear hK hGc hGh
  clear K Gc Gh
  have hfl:=Zed x v b n
  have hpl:=Zec x v b n
  generalize qQ x v b n=fs at *
  generalize jY x v b n=pl at *
  by_cases hf:jk fs=0
  ·rw [if_pos hf] at hst
   rw [hst]
   refine zm (by simp [hf]) ?_
   show PW _ _ _ _ _ _ _ (ext _ _ _)
   refine Znh 0 (id:=nx+3) rfl (by omega) (Store.set_same _ _ _) ?_
   rw [Store.set_set]
   have hfz:([I x.days,I x.veh,I x.cap,I x.len,L x.cust,L x.dist,L v,I b,.sl nz vD 1 0 pl.length,.sl (nz+1) vF 1 0 fs.length,.sl (nx+2) v2 1 0 x.cust.length]:List PV).map (yU (nz+0) vD (pl.flatMap Enc.enc))=jE x (L v) b (L pl) (.sl (nz+1) vF 1 0 fs.length) (.sl (nx+2) v2 1 0 x.cust.length):=by
    simp [yU]
    omega
   rw [hfz]
   have y3:=fun (o:Ob) obs=>(zH (S:=T.set (nx+3) o) (nx:=nz) (obs:=obs) (i:=nx+3) (by omega)).trans (Store.set_same _ _ _)
   have y1:=fun (o:Ob) obs=>(zH (S:=T.set (nx+3) o) (nx:=nz) (obs:=obs) (i:=nx+1) (by omega)).trans ((Store.set_other _ _ _ _ (by omega)).trans hT1)
   refine za (ze [] (zE y3 y1 g1) ?_)
   refine zg ⟨_,S,(by simp [zH (show nx+1<nz from by omega),Store.set_same];rfl),⟨by simp [zp],rfl⟩,?_⟩
   exact X0 hd (by omega) fun o ho=>by rw [Store.set_other _ _ _ _ (by omega),Store.set_other _ _ _ _ (by omega)];exact hTS o ho
  rw [if_neg hf] at hst
  refine zo (by simp [hf]) ?_
  refine zh ?_
  have y3:=fun (o:Ob) obs=>(zH (S:=T.set (nx+3) o) (nx:=nz) (obs:=obs) (i:=nx+3) (by omega)).trans (Store.set_same _ _ _)
  have y1:=fun (o:Ob) obs=>(zH (S:=T.set (nx+3) o) (nx:=nz) (obs:=obs) (i:=nx+1) (by omega)).trans ((Store.set_other _ _ _ _ (by omega)).trans hT1)
  repeat apply za
  refine z8 [] (by rfl) (by rfl) fun K Gc Gh hK hGc hGh X hX0 hX=>?_
  simp -implicitDefEqProofs [hX0,hX,y3]
  try clear hX0 hX X
  refine hGc _ _ _ _ _ _ _ fun hsuf=>((ZmR (idF:=nz+1) (vF:=vF) fs (by rw [yS];rfl) (by omega)).mono ?_).v
  rintro _ _ ⟨rfl,rfl⟩
  refine ⟨_,_,rfl,?_⟩
  clear hGc hGh
  clear Gc Gh
  refine zW hsuf (D:=[]) (by rfl) fun Gc Gh hGc hGh X hX0 hX=>?_
  simp -implicitDefEqProofs [hX0,hX]
  clear hX0 hX X
  refine hK _ _ _ ?_
  clear hK hGc hGh
  clear K Gc Gh
  cases hbad:fs.any Za with
  | true =>
   rw [if_pos hbad] at hst
   rw [hst]
   refine zm rfl (za (ze [] (zn y1 g1) ?_))
   show PW _ _ _ _ _ _ _ (ext _ _ _)
   refine Xk (o:=nx+1) 0 (by rw [zH (by omega)];first | exact Store.set_same _ _ _ | exact (Store.set_other _ _ _ _ (by omega)).trans hT1) rfl ?_
   rw [vr _ (by omega)]
   try rw [Store.set_set]
   refine zg ⟨_,S,(by simp [zH (show nx+1<nz from by omega),Store.set_same];rfl),⟨by simp [zp],rfl⟩,?_⟩
   exact X0 hd (by omega) fun o ho=>by rw [Store.set_other _ _ _ _ (by omega),Store.set_other _ _ _ _ (by omega)];exact hTS o ho
  | false =>
   rw [if_neg (by rw [hbad];decide)] at hst
   refine zo rfl (zh ?_)
   generalize hT2:ext (T.set (nx+3) (.cells v3 89 (jE x (L v) b (.sl nz vD 1 0 pl.length) (.sl (nz+1) vF 1 0 fs.length) (.sl (nx+2) v2 1 0 x.cust.length)))) nz [.cells vD 58 (pl.flatMap Enc.enc),.cells vF 39 (fs.flatMap Enc.enc)]=T2
   have q3:T2 (nx+3)=.cells v3 89 (jE x (L v) b (.sl nz vD 1 0 pl.length) (.sl (nz+1) vF 1 0 fs.length) (.sl (nx+2) v2 1 0 x.cust.length)):=by rw [<-hT2,zH (by omega),Store.set_same]
   have qF:T2 (nz+1)=.cells vF 39 (fs.flatMap Enc.enc):=by rw [<-hT2,yS];rfl
   have qo:∀o,o<nz->o≠nx+3->T2 o=T o:=fun o h1 h2=>by rw [<-hT2,zH h1,Store.set_other _ _ _ _ h2]
   have qd:zQ (nz+2) T2:=by rw [<-hT2];exact qN (obs:=[_,_])
   have qR:RowsAt T2 (nx+2) v2 45 (nx+4) 3 1 ws pr:=hR.other fun o ho=>by
    rw [hP.1] at ho
    exact qo o (by omega) (by omega)
   clear hT2
   rw [<-yX qd]
   refine z8 [] (by rfl) (by rfl) fun K Gc Gh hK hGc hGh X hX0 hX=>?_
   simp -implicitDefEqProofs [hX0,hX]
   try clear hX0 hX X
   refine hGc _ _ _ _ _ _ _ fun hsuf=>(Spec.mono (ZeE (nx:=nz+2) (by rw [yX qd];exact qd) x _ _ _ _ _ _ _ n hn hn2 (by rw [yX qd];exact q3)
    (fun k T'=>RowsAt T' (nx+2) v2 45 (nx+4) 3 1 ws (Qe fs pr k)/\(∀o,(o<nx+4\/nx+4+x.cust.length<=o)->T' o=T2 o)) ⟨by rw [yX qd];exact qR,fun o _=>by rw [yX qd]⟩
    (fun k T' h o ho=>by rw [h.2 o (.inr (by omega))];exact qd o ho) (fun j hj T' h=>?_)) ?_).v
   ·obtain ⟨h1,h2⟩:=h
    refine (ZmO (n:=n) j hm hn2 hj (by omega) (by omega) ((h2 (nz+1) (.inr (by omega))).trans qF) hfl ((h2 (nx+3) (.inl (by omega))).trans q3) (XW fs hP j) h1).mono ?_
    rintro _ T3 ⟨r1,r2⟩
    exact ⟨r1,fun o o1=>(r2 o o1).trans (h2 o o1)⟩
   rintro _ T3 ⟨hR3,hT3'⟩
   have hd3:zQ (nz+2) T3:=fun o ho=>by rw [hT3' o (.inr (by omega))];exact qd o ho
   refine ⟨T3,[],(yX hd3).symm,?_⟩
   clear hGc hGh
   clear Gc Gh
   refine zW hsuf (D:=[]) (by rfl) fun Gc Gh hGc hGh X hX0 hX=>?_
   simp -implicitDefEqProofs [hX0,hX]
   clear hX0 hX X
   refine hK _ _ _ ?_
   clear hK hGc hGh
   clear K Gc Gh
   rw [yX hd3]
   refine Zbs (T':=fun o=>if o<nz then T3 o else .dead) (fun o=>by by_cases ho:o<nz<;>simp [ho]) ?_
   generalize hT4:(fun o=>if o<nz then T3 o else Ob.dead)=T4
   have q4:∀o,o<nz->T4 o=T3 o:=fun o ho=>by rw [<-hT4];simp [ho]
   have qd4:zQ nz T4:=fun o ho=>by rw [<-hT4];simp;omega
   clear hT4
   rw [<-yX qd4]
   refine zb ?_
   refine zq (k+1,T4,Qe fs pr n) [] ⟨by dsimp only;omega,XW fs hP n,by rw [hst,show 8-(k+1)=7-k from by omega],⟨ws,hR3.other fun o ho=>q4 o (by rw [(XW fs hP n).1] at ho;omega)⟩,?_,?_,⟨L v,.sl nz vD 1 0 pl.length,.sl (nz+1) vF 1 0 fs.length,?_⟩,fun o ho=>?_,qd4⟩ (by simp;omega) (by simp [zt k (by omega)]) rfl (by simp)
   ·dsimp only;rw [q4 _ (by omega),hT3' _ (.inl (by omega)),qo _ (by omega) (by omega)];exact hT0
   ·dsimp only;rw [q4 _ (by omega),hT3' _ (.inl (by omega)),qo _ (by omega) (by omega)];exact hT1
   ·dsimp only;rw [q4 _ (by omega),hT3' _ (.inl (by omega))];exact q3
   ·dsimp only;rw [q4 _ (by omega),hT3' _ (.inl (by omega)),qo _ (by omega) (by omega)];exact hTS o ho
 ·simp at hc
  obtain rfl:k=8:=by omega
  rw [hst]
  refine zu (za (ze [] (zn x1 g1) ?_))
  show PW _ _ _ _ _ _ _ (ext _ _ _)
  refine Xk (o:=nx+1) 0 (by rw [zH (by omega)];first | exact Store.set_same _ _ _ | exact hT1) rfl ?_
  rw [vr _ (by omega)]
  try rw [Store.set_set]
  refine zg ⟨_,S,(by simp [zH (show nx+1<nz from by omega),Store.set_same];rfl),⟨by simp [zp,ZL],rfl⟩,?_⟩
  exact X0 hd (by omega) fun o ho=>by rw [Store.set_other _ _ _ _ (by omega)];exact hTS o ho
open Go Go.Proofs Hp
def ZM:List Int->Int
 | []=>-1
 | d :: ds=>(d :: ds).getLast (by simp)
theorem ZaB (ds:List Int) (d:Int):ZM (ds++[d])=d:=by
 cases ds with
 | nil=>rfl
 | cons a ds=>show (a :: (ds++[d])).getLast _=d;rw [List.getLast_cons (by simp),List.getLast_append_of_ne_nil _ (by simp)];rfl
def ZeW (c:Cust) (cap:Int) (last d:Int):Prop:=0<=(qr c last d).1/\x7 c (qr c last d).1 cap≠0
inductive FilS (c:Cust) (cap:Int) (n:Nat):List Int->Prop where
 | nil:FilS c cap n []
 | snoc {ds:List Int} {d:Int} (h:FilS c cap n ds) (h1:ZM ds<d) (h2:d<n) (h3:ZeW c cap (ZM ds) d):FilS c cap n (ds++[d])
theorem FilS.lo {c:Cust} {cap:Int} {n:Nat} {ds:List Int} (h:FilS c cap n ds):-1<=ZM ds/\(∀d∈ds,0<=d/\d<n/\d<=ZM ds):=by
 induction h with
 | nil=>exact ⟨by decide,by simp⟩
 | snoc h h1 h2 h3 ih =>
  rw [ZaB]
  refine ⟨by omega,fun d hd=>?_⟩
  rcases List.mem_append.1 hd with hd | hd
  ·have:=ih.2 d hd;omega
  ·rw [List.mem_singleton.1 hd];omega
theorem FilS.inc {c:Cust} {cap:Int} {n:Nat} {ds:List Int} (h:FilS c cap n ds):ds.Pairwise (· < ·):=by
 induction h with
 | nil=>exact .nil
 | snoc h h1 h2 h3 ih =>
  rw [List.pairwise_append]
  refine ⟨ih,by simp,fun a ha b hb=>?_⟩
  rw [List.mem_singleton.1 hb]
  have:=h.lo.2 a ha;omega
theorem Znj (c:Cust) (ds:List Int):(je c ds).2=ZM ds:=by
 rcases List.eq_nil_or_concat ds with rfl | ⟨l,d,rfl⟩
 ·rfl
 ·rw [List.concat_eq_append,XX,ZaB];rfl
theorem Znk (c:Cust):∀ds:List Int,(je c ds).1.map (·.d)=ds:=by
 have:∀(ds:List Int) (st:List Visit × Int),(ds.foldl (Zc c) st).1.map (·.d)=st.1.map (·.d)++ds:=by
  intro ds
  induction ds with
  | nil=>intro st;simp
  | cons d ds ih=>intro st;rw [List.foldl_cons,ih];simp [Zc]
 intro ds
 unfold je;rw [this];simp
theorem Znl {c:Cust} (hc:CustFits c) {cap last d:Int} (h:ZeW c cap last d):W (c.size-(qr c last d).1)=c.size-(qr c last d).1/\1<=c.size-(qr c last d).1/\c.size-(qr c last d).1<=2147483648/\(c.rule=1->c.size-(qr c last d).1<=cap):=by
 obtain ⟨h1,h2⟩:=h
 have hs:=hc.size
 generalize (qr c last d).1=th at *
 unfold x7 at h2
 split at h2
 ·exact absurd rfl h2
 rename_i h3
 refine ⟨wr _ (by omega) (by omega),by omega,by omega,fun hr=>?_⟩
 split at h2
 ·assumption
 ·first | exact absurd rfl h2 | exact absurd hr (by assumption) | (rw [if_pos hr] at h2;exact absurd rfl h2)
theorem Znm {c:Cust} (hc:CustFits c) {cap:Int} {n:Nat} (hn:n<=60) {ds:List Int} (h:FilS c cap n ds):GoodV n (je c ds).1:=by
 have hlen:ds.length<=64:=by
  have h1:=Zaq (m:=n) ds (h.inc.imp fun h=>Int.ne_of_lt h) (fun d hd=>by have:=h.lo.2 d hd;omega)
  omega
 refine ⟨by rw [ZeQ];exact hlen,?_,by rw [Znk];exact h.inc.imp fun h=>Int.ne_of_lt h⟩
 induction h with
 | nil=>intro s hs;cases hs
 | @snoc ds d h h1 h2 h3 ih =>
  intro s hs
  rw [XX] at hs
  simp only [Zc] at hs
  rcases List.mem_append.1 hs with hs | hs
  ·exact ih (by simp at hlen;omega) s hs
  ·rw [List.mem_singleton.1 hs]
   rw [Znj]
   obtain ⟨q1,q2,q3,-⟩:=Znl hc h3
   have:=h.lo.1
   refine ⟨by dsimp only;omega,?_⟩
   dsimp only
   rw [q1];omega
def ZN (tab:List Stp):Nat->Int->List Int
 | 0,_=>[]
 | f+1,d=>if d<0 then [] else d :: ZN tab f (tab.getD d.toNat zs).l
def X1 (c:Cust) (n:Nat) (cap:Int) (tab:List Stp):Prop:=∀(d:Nat) (e:Stp),tab[d]?=some e->e≠zs->-1<=e.l/\e.l<d/\(0<=e.l->tab.getD e.l.toNat zs≠zs)/\0<=(qr c e.l d).1/\(d<n->x7 c (qr c e.l d).1 cap≠0)
theorem ZeX (c:Cust) (n:Nat) (cap:Int) (price:List Int):∀k,X1 c n cap (qT c n cap price k)
 | 0=>by intro d e h;cases h
 | k+1=>by
  have ih:=ZeX c n cap price k
  have hl:=Jn c n cap price k
  have he:=XY c n cap price (qT c n cap price k) k (k+1)
  have hok:=ZaA c n cap price (k+1)
  intro d e h hne
  have hok:=hok d e h
  simp only [qT] at h hok ⊢
  rcases hok with q | ⟨-,q2,q3,q4⟩
  ·exact absurd q hne
  refine ⟨q2,q3,q4,?_⟩
  by_cases hd:d<k
  ·rw [List.getElem?_append_left (by omega)] at h
   exact (ih d e h hne).2.2.2
  ·rw [List.getElem?_append_right (by omega),hl] at h
   obtain rfl:d=k:=by
    rcases Nat.lt_or_ge (d-k) 1 with q | q
    ·omega
    ·rw [List.getElem?_eq_none (by simpa using q)] at h;cases h
   rw [Nat.sub_self] at h
   simp only [List.getElem?_cons_zero,Option.some.injEq] at h
   subst h
   rcases he with q | ⟨-,-,-,p4⟩
   ·exact absurd q hne
   ·have:=p4.2
    exact ⟨by omega,fun hdn hm=>this (.inr ⟨hdn,hm⟩)⟩
theorem ZaC {c:Cust} {n:Nat} {cap:Int} {tab:List Stp} (h:X1 c n cap tab):∀(f:Nat) (d:Int),-1<=d->d<f->d<n->(0<=d->tab.getD d.toNat zs≠zs)->FilS c cap n (ZN tab f d).reverse/\ZM (ZN tab f d).reverse=d
 | 0,d,h1,h2,_,_=>by
  obtain rfl:d=-1:=by omega
  exact ⟨.nil,rfl⟩
 | f+1,d,h1,h2,h3,h4=>by
  unfold ZN
  by_cases hd:d<0
  ·rw [if_pos hd]
   obtain rfl:d=-1:=by omega
   exact ⟨.nil,rfl⟩
  ·rw [if_neg hd,List.reverse_cons]
   have h4:=h4 (by omega)
   obtain ⟨i,rfl⟩:=Int.eq_ofNat_of_zero_le (show 0<=d by omega)
   rw [Int.toNat_natCast] at h4 ⊢
   have he:∃e,tab[i]?=some e/\tab.getD i zs=e:=by
    cases hq:tab[i]? with
    | none=>exfalso;apply h4;rw [List.getD_eq_getElem?_getD,hq];rfl
    | some e=>exact ⟨e,rfl,by rw [List.getD_eq_getElem?_getD,hq];rfl⟩
   obtain ⟨e,he1,he2⟩:=he
   rw [he2] at h4 ⊢
   obtain ⟨g1,g2,g3,g4,g5⟩:=h i e he1 h4
   obtain ⟨p1,p2⟩:=ZaC h f e.l g1 (by omega) (by omega) g3
   exact ⟨.snoc p1 (by rw [p2];exact g2) h3 (by rw [p2];exact ⟨g4,g5 (by omega)⟩),ZaB _ _⟩
theorem Znn (s:Nat) (d i:Nat) (hd:d<64):yJ (jW s d) i=1<->yJ s i=1\/i=d:=by
 have h:((jW s d).testBit i)=(s.testBit i || decide (d=i)):=by
  unfold jW
  rw [if_pos (by omega),Int.toNat_natCast,Nat.testBit_or,Nat.testBit_two_pow]
 rw [Je,Je] at h
 have h2:decide (yJ (jW s d) i=1)=(decide (yJ s i=1) || decide (d=i)):=by simpa using h
 constructor
 ·intro q
  rw [decide_eq_true q] at h2
  have:=h2.symm
  rw [Bool.or_eq_true,decide_eq_true_eq,decide_eq_true_eq] at this
  omega
 ·intro q
  have:(decide (yJ s i=1) || decide (d=i))=true:=by
   rw [Bool.or_eq_true,decide_eq_true_eq,decide_eq_true_eq];omega
  rw [this] at h2
  exact of_decide_eq_true h2
theorem ZeY {c:Cust} {n:Nat} {cap:Int} {tab:List Stp} (h:X1 c n cap tab) (hn:n<=60):∀(f s:Nat) (d:Int),-1<=d->d<n->(0<=d->tab.getD d.toNat zs≠zs)->∀i:Nat,yJ (wA tab f s d) i=1<->yJ s i=1\/(i:Int)∈ZN tab f d
 | 0,s,d,_,_,_=>fun i=>by simp [wA,ZN]
 | f+1,s,d,h1,h3,h4=>fun i=>by
  unfold wA ZN
  by_cases hd:d<0
  ·rw [if_pos hd,if_pos hd];simp
  ·rw [if_neg hd,if_neg hd]
   have h4:=h4 (by omega)
   obtain ⟨k,rfl⟩:=Int.eq_ofNat_of_zero_le (show 0<=d by omega)
   rw [Int.toNat_natCast] at h4 ⊢
   have he:∃e,tab[k]?=some e/\tab.getD k zs=e:=by
    cases hq:tab[k]? with
    | none=>exfalso;apply h4;rw [List.getD_eq_getElem?_getD,hq];rfl
    | some e=>exact ⟨e,rfl,by rw [List.getD_eq_getElem?_getD,hq];rfl⟩
   obtain ⟨e,he1,he2⟩:=he
   rw [he2] at h4 ⊢
   obtain ⟨g1,g2,g3,-⟩:=h k e he1 h4
   rw [ZeY h hn f _ e.l g1 (by omega) g3 i,Znn s k i (by omega),List.mem_cons,Int.natCast_inj,or_assoc]
theorem Zno:∀{a b:List Int},a.Pairwise (· < ·)->b.Pairwise (· < ·)->(∀z,z∈a<->z∈b)->a=b:=by
 intro a b ha hb h
 have hp:a.Perm b:=(List.perm_ext_iff_of_nodup (ha.imp fun h=>Int.ne_of_lt h) (hb.imp fun h=>Int.ne_of_lt h)).2 h
 exact Zc8 hp (ha.imp fun h=>Int.le_of_lt h) (hb.imp fun h=>Int.le_of_lt h)
theorem Znp (s a k:Nat):(yq s a k).Pairwise (· < ·):=by
 unfold yq
 rw [List.pairwise_map]
 have h:(List.range k).Pairwise (· < ·):=List.pairwise_lt_range
 exact (h.sublist List.filter_sublist).imp fun h=>by omega
theorem Znq {c:Cust} {n:Nat} {cap:Int} {tab:List Stp} (h:X1 c n cap tab) (hn:n<=60) {d:Int} (h1:-1<=d) (h3:d<n) (h4:0<=d->tab.getD d.toNat zs≠zs):yq (wA tab 65 0 d) 0 64=(ZN tab 65 d).reverse:=by
 obtain ⟨hf,-⟩:=ZaC h 65 d h1 (by omega) h3 h4
 refine Zno (Znp _ _ _) hf.inc fun z=>?_
 have hb:=ZeY h hn 65 0 d h1 h3 h4
 have h0:∀i,¬yJ 0 i=1:=by intro i;simp [yJ]
 rw [List.mem_reverse]
 constructor
 ·intro hz
  obtain ⟨i,rfl,_,hi⟩:=XP hz
  exact ((hb i).1 hi).resolve_left (h0 i)
 ·intro hz
  have hlo:=hf.lo.2 z (List.mem_reverse.2 hz)
  obtain ⟨i,rfl⟩:=Int.eq_ofNat_of_zero_le hlo.1
  simp only [yq,List.mem_map,List.mem_filter,List.mem_range,Bool.and_eq_true,decide_eq_true_eq]
  exact ⟨i,⟨by omega,by omega,(hb i).2 (.inr hz)⟩,rfl⟩
theorem Znr {c:Cust} {n:Nat} (hn:n<=60) {cap:Int} {price:List Int} (h:(ZK c n cap price).2=true):∃ds,FilS c cap n ds/\0<=(qr c (ZM ds) n).1/\(ZK c n cap price).1=(je c ds).1:=by
 have hfit:=ZeX c n cap price (n+1)
 have hl:=Jn c n cap price (n+1)
 unfold ZK at h ⊢
 generalize qT c n cap price (n+1)=tab at *
 split at h
 ·cases h
 rename_i hne
 rw [if_neg hne]
 have he:∃e,tab[n]?=some e/\tab.getD n zs=e:=⟨_,List.getElem?_eq_getElem (by omega),by rw [List.getD_eq_getElem?_getD,List.getElem?_eq_getElem (by omega)];rfl⟩
 obtain ⟨e,he1,he2⟩:=he
 rw [he2] at hne ⊢
 obtain ⟨g1,g2,g3,g4,-⟩:=hfit n e he1 hne
 obtain ⟨p1,p2⟩:=ZaC hfit 65 e.l g1 (by omega) g2 g3
 exact ⟨_,p1,by rw [p2];exact g4,by rw [Znq hfit hn g1 g2 g3]⟩
def wB (n:Nat) (cap:Int) (c:Cust) (price:List Int):List Visit × Bool :=
 if c.kind=1 then wT c cap price else if c.rule=1 then ZK c n cap price else Qj c n cap price
theorem Zns {S:Store} {pl:PV} {price:List Int} (c:Cust) (n:Nat) (cap:Int) (hR:RowOf S pl price) (hp:∀z∈price,zR z) (hpl:price.length<=1000) (hm:CustMade c n) (hpc:c.pats.length<=1000) (hn:n<=60) :
  Spec Tryz.prog 111 [.agg (zM c),I n,I cap,pl] S (fun q S'=>q=.tup [L (wB n cap c price).1,B (wB n cap c price).2]/\S'=S):=by
 unfold wB
 by_cases hk:c.kind=1
 ·rw [if_pos hk]
  exact ZeH c n cap hk hR hp hpl hpc hm.pats
 rw [if_neg hk]
 by_cases hr:c.rule=1
 ·rw [if_pos hr]
  have hs:=fun S (hR:RowOf S pl price)=>Zng c n cap hR hm.fits hn
  generalize ZK c n cap price=r at *
  obtain ⟨v,ok⟩:=r
  simp only at hs ⊢
  refine qO Tryz.func111 Tryz.ntmps111 Tryz.results111 fun nx hd=>?_
  refine za (zb ?_)
  intro v0
  refine za (zi (za (ze [] hk ?_)))
  refine zo (by simp [hk]) ?_
  refine za (ze [] hr ?_)
  refine zm (by simp [hr]) ?_
  refine za (z8 [] (by rfl) (by rfl) fun K Gc Gh hK hGc hGh X hX0 hX=>?_)
  simp -implicitDefEqProofs [hX0,hX]
  try clear hX0 hX X
  refine hGc _ _ _ _ _ _ _ fun hsuf=>((hs _ (hR.ext hd _)).mono ?_).v
  rintro _ _ ⟨rfl,rfl⟩
  refine ⟨_,_,rfl,?_⟩
  clear hGc hGh
  clear Gc Gh
  refine zW hsuf (D:=[]) (by rfl) fun Gc Gh hGc hGh X hX0 hX=>?_
  simp -implicitDefEqProofs [hX0,hX]
  clear hX0 hX X
  refine hK _ _ _ ?_
  clear hK hGc hGh
  clear K Gc Gh
  exact zg ⟨_,S,(by simp;rfl),⟨by simp [zp],rfl⟩,zU hd⟩
 ·rw [if_neg hr]
  have hs:=fun S (hR:RowOf S pl price)=>Zm7 c n cap hR hm.fits (by omega)
  generalize Qj c n cap price=r at *
  obtain ⟨v,ok⟩:=r
  simp only at hs ⊢
  refine qO Tryz.func111 Tryz.ntmps111 Tryz.results111 fun nx hd=>?_
  refine za (zb ?_)
  intro v0
  refine za (zi (za (ze [] hk ?_)))
  refine zo (by simp [hk]) ?_
  refine za (ze [] hr ?_)
  refine zo (by simp [hr]) ?_
  refine zh (za (z8 [] (by rfl) (by rfl) fun K Gc Gh hK hGc hGh X hX0 hX=>?_))
  simp -implicitDefEqProofs [hX0,hX]
  try clear hX0 hX X
  refine hGc _ _ _ _ _ _ _ fun hsuf=>((hs _ (hR.ext hd _)).mono ?_).v
  rintro _ _ ⟨rfl,rfl⟩
  refine ⟨_,_,rfl,?_⟩
  clear hGc hGh
  clear Gc Gh
  refine zW hsuf (D:=[]) (by rfl) fun Gc Gh hGc hGh X hX0 hX=>?_
  simp -implicitDefEqProofs [hX0,hX]
  clear hX0 hX X
  refine hK _ _ _ ?_
  clear hK hGc hGh
  clear K Gc Gh
  exact zg ⟨_,S,(by simp;rfl),⟨by simp [zp],rfl⟩,zU hd⟩
theorem Znt {c:Cust} {n:Nat} (hm:CustMade c n) (hk:c.kind=1) {p:Nat} (hp:p∈c.pats):GoodV n (jM c p):=by
 obtain ⟨h1,h2⟩:=hm.per hk
 refine ⟨by simp only [jM,List.length_map];exact uZ _ _ _,fun s hs=>?_,by simp only [jM,List.map_map];exact (by simpa [Function.comp_def] using Zeu p 0 64)⟩
 simp only [jM,List.mem_map] at hs
 obtain ⟨d,hd,rfl⟩:=hs
 have h0:0<=d:=by
  simp only [yq,List.mem_map] at hd
  obtain ⟨i,_,rfl⟩:=hd;omega
 exact ⟨⟨h0,h1 p hp d hd⟩,h2⟩
theorem Znu {c:Cust} {cap:Int} {price:List Int} (h:(wT c cap price).2=true):∃p∈c.pats,(p=0\/c.demand<=cap)/\(wT c cap price).1=jM c p:=by
 unfold wT at h ⊢
 split at h
 ·cases h
 rename_i hn
 rw [if_neg hn]
 have hb:=Zaw price (jG c cap) (jG c cap).length
 have hlt:(qE price (jG c cap) (jG c cap).length).1.toNat<(jG c cap).length:=by omega
 have hm:(jG c cap).getD (qE price (jG c cap) (jG c cap).length).1.toNat 0∈jG c cap:=by
  rw [List.getD_eq_getElem?_getD,List.getElem?_eq_getElem hlt];exact List.getElem_mem hlt
 obtain ⟨h1,h2⟩:=List.mem_filter.1 hm
 exact ⟨_,h1,by simpa using h2,rfl⟩
theorem ZeZ {c:Cust} {n:Nat} (hm:CustMade c n) (hn:n<=60) (cap:Int) (price:List Int) (h:(wB n cap c price).2=true):GoodV n (wB n cap c price).1:=by
 unfold wB at h ⊢
 by_cases hk:c.kind=1
 ·rw [if_pos hk] at h ⊢
  obtain ⟨p,hp,-,e⟩:=Znu h
  rw [e];exact Znt hm hk hp
 rw [if_neg hk] at h ⊢
 by_cases hr:c.rule=1
 ·rw [if_pos hr] at h ⊢
  obtain ⟨ds,h1,-,e⟩:=Znr hn h
  rw [e];exact Znm hm.fits hn h1
 ·rw [if_neg hr] at h ⊢
  have hD:GoodV n (yt 0 (vR c n cap).1):=Ji (Qh hm.fits (Zay hm.fits cap) n).2 (Nat.le_of_eq (Qg _ _ _)) (by omega)
  have hL:GoodV n (yt 0 (uz c n cap).1):=Ji (Qh hm.fits (Zaz hm.fits cap) n).2 (Nat.le_of_eq (Qg _ _ _)) (by omega)
  unfold Qj at h ⊢
  split
  ·exact hL
  ·rename_i h1
   rw [if_neg h1] at h
   split
   ·exact hD
   ·rename_i h2;rw [if_neg h2] at h;cases h
structure InstA (x:Inst) (n:Nat):Prop where
 h:InstH x
 days:x.days=n
 n60:n<=60
 made:∀c∈x.cust,CustMade c n
 pats:∀c∈x.cust,c.pats.length<=1000
theorem Znv (x:Inst) (c l:Int):InstA (Qc x 6 c l) (yp x).days.toNat:=by
 have hd:=XT x
 refine ⟨⟨Nat.le_trans (Zja x) (by decide),ZkM x,ZkG x,by show (0:Int)<=6;decide⟩,?_,by omega,fun c hc=>?_,fun c hc=>?_⟩
 ·show (yp x).days=_;omega
 ·obtain ⟨c0,rfl⟩:=XU x hc
  exact Zey c0 _ hd.1 hd.2
 ·obtain ⟨c0,rfl⟩:=XU x hc
  unfold jo
  split
  ·simp
  ·simp only [uP];split
   ·simp
   ·simp;omega
end Go.Proofs.YtcnbiofjmioaiaaGreat.Pv
