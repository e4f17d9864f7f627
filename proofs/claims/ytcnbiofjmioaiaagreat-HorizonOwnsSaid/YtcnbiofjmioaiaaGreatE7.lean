/- Part of a proof, packed. -/
import Derived.Test.YtcnbiofjmioaiaaGreatE6
set_option maxRecDepth 100000
set_option maxHeartbeats 3200000
namespace Go.Proofs.YtcnbiofjmioaiaaGreat.Pv
open Go Go.Proofs Hp
structure PlanS (n K:Nat) (p:zJ):Prop where
 len:p.length=n
 ok:∀d∈p,DayOk d/\d.flatten.length<=K/\d.length<=K
theorem ZaD {x:Inst} {d:zj} {s:Stop} {K:Nat} (hx:x.cust.length<=1048576) (h1:DayOk d) (h2:d.flatten.length<=K) (h3:d.length<=K) (hK:K<=100000):DayOk (yE x d s).1/\(yE x d s).1.flatten.length<=K+1/\(yE x d s).1.length<=K+1:=by
 refine ⟨Zdl hx h1 (by omega) (by omega),?_,?_⟩
 ·cases hi:(yE x d s).2 with
  | true=>rw [(Vn hi).length_eq,List.length_cons];omega
  | false=>rw [ZcT hi];omega
 ·unfold yE
  cases (xU (yM x d s)).2 with
  | false=>show d.length<=K+1;omega
  | true =>
   show (qP d (xU (yM x d s)).1 s).length<=K+1
   unfold qP;split<;>simp<;>omega
theorem Znw (x:Inst) (p:zJ) (c:Nat) {n K:Nat} (hn1:n<=1000) (hK:K<=100000) (hx:x.cust.length<=1000) (hc:c<x.cust.length) (hp:PlanS n K p):Pure Tryz.prog 26 [.agg (zv x),.agg [L p],I c] (L (p.map (xK x (x4 x c)))):=by
 have hth:=ZeA x c
 rw [show (decide (0<=(c:Int)) && decide ((c:Int)<x.cust.length))=true from by simp;omega] at hth
 obtain ⟨cu,tlc,a1,-,-,e1,e0⟩:=el 8 rfl x.cust c hc
 have e11:=e1 1 (by omega)
 have hq:x4 x c=⟨c,if cu.kind=1 then cu.demand else 1⟩:=by unfold x4;rw [List.getD_eq_getElem?_getD,a1];rfl
 have hplen:p.length<=1000:=by have:=hp.len;omega
 refine zz Tryz.func26 Tryz.ntmps26 Tryz.results26 fun S nx hd=>?_
 refine za (zb ?_)
 intro v0 v1
 refine za (zb ?_)
 intro v2
 refine za (yk (nx:=nx) (σ:=Unit) (fun _=>True) (fun _=>[(3,.ptr nx v0 0),(4,.ptr (nx+1) v1 0),(7,.ptr (nx+2) v2 0)]) (fun _=>S) (fun _=>[.cells v0 25 (zv x),.cells v1 38 [L p],.cells v2 35 [I c,I (x4 x c).q]]) ?_ ?_)
 ·by_cases hk:cu.kind=1
  ·rw [if_pos hk] at hq
   refine za (ze [(3,19)] (zE e0 hc hk) ?_)
   refine qZ [(3,19)] hth (zE e0 hc hk) ?_
   refine zm (by simp [hk]) ?_
   refine ze [] (zn e11 hc) ?_
   exact zD () [] trivial (by simp) rfl (by simp [hq])
  ·rw [if_neg hk] at hq
   refine za (ze [(3,19)] (zE e0 hc hk) ?_)
   refine qZ [(3,19)] hth (zE e0 hc hk) ?_
   refine zo (by simp [hk]) ?_
   exact zh (zD () [] trivial (by simp) rfl (by simp [hq]))
 intro _ _
 have hsc:(x4 x c).c=c:=rfl
 generalize hst:x4 x c=s at hsc
 clear hq
 refine za (zb ?_)
 refine za (yT 8 3 1 rfl fun v3=>?_)
 refine za (zb ?_)
 refine zi (zB (fun st:Nat × List Int × Nat=>st.1<=p.length/\st.2.1=(p.take st.1).map (xK x s)) (fun (k,out,w)=>[(3,.ptr nx v0 0),(7,.ptr (nx+2) v2 0),(8,.sl (nx+3) w 1 0 out.length),(36,L p),(37,I p.length),(38,I k)]) (fun (k,out,w)=>[.cells v0 25 (zv x),.cells v1 38 [L p],.cells v2 35 [I c,I s.q],.cells w 3 (out.flatMap Enc.enc)]) (fun st=>p.length-st.1) (0,[],v3) [] (by simp) (by simp) (by simp) ?_)
 rintro ⟨k,out,w⟩ ⟨hk,ho⟩
 simp only at hk ho ⊢
 have hol:out.length=k:=by rw [ho];simp;omega
 refine za (zb ?_)
 refine za (zr rfl (fun hc1=>?_) (fun hc1=>?_))
 ·simp at hc1
  obtain ⟨d,tl,b1,b2,b3,f0⟩:=zC rfl p k hc1
  obtain ⟨g1,g3,g4⟩:=hp.ok d (List.mem_of_getElem? b1)
  have g5:=(ZaD (x:=x) (s:=s) (by omega) g1 g3 g4 hK).1
  have hins:=Vv x d s (by omega) g1 (by omega)
  have hc2:=YM x d g1
  have hc3:=YM x _ g5
  have hpr:xK x s d=if (yE x d s).2=true then max 0 (W (W (yi x (yE x d s).1)-W (yi x d))) else 4294967296:=rfl
  rw [hsc] at hins
  generalize yE x d s=r at *
  obtain ⟨e,ok⟩:=r
  simp only at hins hc3 hpr
  generalize W (yi x d)=z1 at *
  generalize W (yi x e)=z2 at *
  have h1p:1<=p.length-k:=by omega
  refine zh (za (zi (za (ze [] (zE f0 hc1 h1p) ?_))))
  intro v4
  refine za (zb ?_)
  repeat apply za
  refine zb ?_
  refine zA hins ?_
  intro v5
  refine za (zb ?_)
  cases ok with
  | true =>
   rw [if_pos rfl] at hpr
   have hmax:j4 (0:Int) (W (z2-z1))=xK x s d:=by rw [hpr];unfold j4;split<;>omega
   refine zm rfl (zF (some [nx,nx+4,nx+5]) (Row.pures [0,1,2,3,4,5,6,7,8] .done) mixed trivial ?_)
   refine zN (hc3) hmax ?_
   refine zN (hc2) hmax ?_
   refine zb ?_
   refine ⟨by omega,?_⟩
   refine zb ?_
   exact zq (k+1,out++[xK x s d],w+1) [_,_] ⟨hc1,by rw [b3,List.map_append,ho];rfl⟩ (by simp;omega) (by simp [zt k (by omega)]) rfl (by simp [hpr];exact ⟨rfl,rfl⟩)
  | false =>
   rw [if_neg (by decide)] at hpr
   refine zo rfl (zh (zb ?_))
   refine ⟨by omega,?_⟩
   refine zb ?_
   exact zq (k+1,out++[xK x s d],w+1) [_,_] ⟨hc1,by rw [b3,List.map_append,ho];rfl⟩ (by simp;omega) (by simp [zt k (by omega)]) rfl (by simp [hpr];exact ⟨rfl,rfl⟩)
 ·simp at hc1
  obtain rfl:k=p.length:=by omega
  rw [List.take_length] at ho
  refine zu (zX 3 rfl ?_)
  refine za (zb ?_)
  exact zg (zk hd (by simp;rfl) (by simp [zp,ho]))
def uA (x:Inst) (p:zJ):Bool:=p.all fun d=>decide (yh x d=0)
theorem Znx (x:Inst) (p:zJ) {n K:Nat} (hn1:n<=1000) (hK:K<=100000) (hx:x.cust.length<=1000) (hp:PlanS n K p):Pure Tryz.prog 119 [.agg (zv x),.agg [L p]] (B (uA x p)):=by
 have hplen:p.length<=1000:=by have:=hp.len;omega
 refine zz Tryz.func119 Tryz.ntmps119 Tryz.results119 fun S nx hd=>?_
 refine za (zb ?_)
 intro v0 v1
 repeat apply za
 refine zb ?_
 refine zi (zB (fun k:Nat=>k<=p.length/\∀d∈p.take k,yh x d=0) (fun k=>[(2,.ptr nx v0 0),(8,L p),(9,I p.length),(10,I k)]) (fun _=>[.cells v0 25 (zv x),.cells v1 38 [L p]]) (fun k=>p.length-k) 0 [] (by simp) (by simp) (by simp) ?_)
 rintro k ⟨hk,hE⟩
 refine za (zb ?_)
 refine za (zr rfl (fun hc=>?_) (fun hc=>?_))
 ·simp at hc
  obtain ⟨d,tl,a1,a2,a3,e0⟩:=zC rfl p k hc
  obtain ⟨g1,g2,g3⟩:=hp.ok d (List.mem_of_getElem? a1)
  have hD:=Zcc x d (by omega) g1.n g1.t (by omega)
  have hk1:1<=p.length-k:=by omega
  refine zh (za (zi (za (ze [] (zE e0 hc hk1) ?_))))
  intro v2
  by_cases h0:yh x d=0
  ·rw [h0] at hD
   refine za (zb ?_)
   refine zA hD ?_
   refine zo (by simp) ?_
   refine zh (zb ?_)
   exact zq (k+1) [_] ⟨hc,fun e he=>by rw [a3] at he;rcases List.mem_append.1 he with q | q;exact hE e q;rw [List.mem_singleton.1 q];exact h0⟩ (by omega) (by simp [zt k (by omega)]) rfl (by simp;rfl)
  ·have ho:uA x p=false:=by
    unfold uA;rw [List.all_eq_false];exact ⟨d,List.mem_of_getElem? a1,by simpa using h0⟩
   rw [ho]
   generalize yh x d=z at *
   refine za (zb ?_)
   refine zA hD ?_
   refine zm (by simp [h0]) ?_
   refine za (zb ?_)
   exact zg (zk hd rfl rfl)
 ·simp at hc
  obtain rfl:k=p.length:=by omega
  rw [List.take_length] at hE
  have ho:uA x p=true:=by
   unfold uA;rw [List.all_eq_true];intro d hd;simpa using hE d hd
  rw [ho]
  refine zu (za (zb ?_))
  exact zg (zk hd rfl rfl)
def vS (x:Inst) (c:Nat) (st:zJ × Bool) (w:Visit):zJ × Bool :=
 if st.2=true then (if (yE x (st.1.getD w.d.toNat []) ⟨c,w.q⟩).2=true then (st.1.set w.d.toNat (yE x (st.1.getD w.d.toNat []) ⟨c,w.q⟩).1,true) else ([],false)) else st
def uB (x:Inst) (n:Nat) (p:zJ) (c:Nat):zJ × Bool :=
 if (wB n x.cap (x.cust.getD c default) (p.map (xK x (x4 x c)))).2=true then (wB n x.cap (x.cust.getD c default) (p.map (xK x (x4 x c)))).1.foldl (vS x c) (p,true) else ([],false)
theorem ZaE (x:Inst) (c:Nat):∀v:List Visit,v.foldl (vS x c) ([],false)=([],false)
 | []=>rfl
 | w :: v=>by rw [List.foldl_cons];exact ZaE x c v
theorem Zny (x:Inst) (s:Stop) (p:zJ):∀z∈p.map (xK x s),zR z:=by
 intro z hz
 obtain ⟨d,-,rfl⟩:=List.mem_map.1 hz
 unfold xK
 split
 ·have:=Zat (W (yi x (yE x d s).1)-W (yi x d))
  unfold zR at *;omega
 ·unfold zR;omega
theorem PlanS.sizes {n K:Nat} {p:zJ} (h:PlanS n K p) (hn1:n<=1000) (hK:K<=1000):p.length<=1000/\(∀d∈p,d.length<=1000)/\∀d∈p,∀t∈d,t.length<=1000:=by
 refine ⟨by have:=h.len;omega,fun d hd=>by have:=(h.ok d hd).2.2;omega,fun d hd t ht=>?_⟩
 have:=Yj d t ht
 have:=(h.ok d hd).2.1
 omega
theorem PlanS.set {n K:Nat} {p:zJ} (h:PlanS n K p) {k:Nat} {e:zj} (he:DayOk e/\e.flatten.length<=K+1/\e.length<=K+1):PlanS n (K+1) (p.set k e):=by
 refine ⟨by rw [List.length_set];exact h.len,fun d hd=>?_⟩
 rcases List.mem_or_eq_of_mem_set hd with q | q
 ·obtain ⟨g1,g2,g3⟩:=h.ok d q;exact ⟨g1,by omega,by omega⟩
 ·rw [q];exact he
theorem Znz {x:Inst} {n:Nat} (h:InstA x n) {p:zJ} {K:Nat} (hK:K<=10000) (hp:PlanS n K p) {c:Nat} (hc:c<x.cust.length) (h0:(uB x n p c).2=true):PlanS n (K+64) (uB x n p c).1:=by
 have hx:=h.h.cust
 unfold uB at h0 ⊢
 split at h0
 ·rename_i h1
  rw [if_pos h1]
  have hcm:x.cust.getD c default∈x.cust:=by rw [List.getD_eq_getElem?_getD,List.getElem?_eq_getElem hc];exact List.getElem_mem hc
  have hg:=ZeZ (h.made _ hcm) h.n60 x.cap _ h1
  have hl:=hg.len
  generalize (wB n x.cap (x.cust.getD c default) (p.map (xK x (x4 x c)))).1=v at *
  clear hg h1
  have key:∀(v:List Visit) (q:zJ) (K:Nat),K+v.length<=10100->PlanS n K q->(v.foldl (vS x c) (q,true)).2=true->PlanS n (K+v.length) (v.foldl (vS x c) (q,true)).1:=by
   intro v
   induction v with
   | nil=>intro q K _ hq _;exact hq
   | cons w v ih =>
    intro q K hKl hq hz
    rw [List.length_cons] at hKl ⊢
    rw [List.foldl_cons] at hz ⊢
    have hs:vS x c (q,true) w=if (yE x (q.getD w.d.toNat []) ⟨c,w.q⟩).2=true then (q.set w.d.toNat (yE x (q.getD w.d.toNat []) ⟨c,w.q⟩).1,true) else ([],false):=rfl
    rw [hs] at hz ⊢
    split at hz
    ·rename_i hi
     rw [if_pos hi]
     rw [show K+(v.length+1)=(K+1)+v.length by omega]
     refine ih _ _ (by omega) (hq.set ?_) hz
     have hd:DayOk (q.getD w.d.toNat [])/\(q.getD w.d.toNat []).flatten.length<=K/\(q.getD w.d.toNat []).length<=K:=by
      rw [List.getD_eq_getElem?_getD]
      cases e:q[w.d.toNat]? with
      | none=>exact ⟨⟨by simp,by simp,by simp⟩,by simp,by simp⟩
      | some d=>exact hq.ok d (List.mem_of_getElem? e)
     exact ZaD (by omega) hd.1 hd.2.1 hd.2.2 (by omega)
    ·rw [ZaE] at hz;cases hz
  have:=key v p K (by omega) hp h0
  exact ⟨this.len,fun d hd=>by obtain ⟨g1,g2,g3⟩:=this.ok d hd;exact ⟨g1,by omega,by omega⟩⟩
 ·cases h0
open Go Go.Proofs Hp
theorem PlanS.wo {n K:Nat} {p:zJ} (h:PlanS n K p) (c:Int):PlanS n K (vM c p):=by
 refine ⟨by unfold vM;rw [List.length_map];exact h.len,fun e he=>?_⟩
 obtain ⟨d,hd,rfl⟩:=List.mem_map.1 he
 obtain ⟨g1,g2,g3⟩:=h.ok d hd
 have hl:=Vx c d
 have hm:∀t∈qj c d,∃u∈d,t=qw c u:=fun t ht=>by
  obtain ⟨u,hu,e⟩:=List.mem_map.1 (List.mem_filter.1 ht).1
  exact ⟨u,hu,e.symm⟩
 refine ⟨⟨by have:=g1.n;omega,fun t ht=>?_,fun t ht s hs=>?_⟩,?_,by omega⟩
 ·obtain ⟨u,hu,rfl⟩:=hm t ht
  exact Nat.le_trans (Q5 c u) (g1.t u hu)
 ·obtain ⟨u,hu,rfl⟩:=hm t ht
  exact g1.s u hu s (List.mem_filter.1 hs).1
 ·rw [Zmu];exact Nat.le_trans (List.length_filter_le _ _) g2
structure PlanG (x:Inst) (n:Nat) (p:zJ):Prop where
 a:InstA x n
 six:x.cust.length<=6
 len:p.length=n
 may:∀d∈p,yh x d=0
theorem PlanG.m {x:Inst} {n:Nat} {p:zJ} (h:PlanG x n p):PlanM x p:=⟨by have:=h.six;omega,h.a.h,by have:=h.len;have:=h.a.n60;omega,h.may⟩
theorem PlanG.s {x:Inst} {n:Nat} {p:zJ} (h:PlanG x n p):PlanS n 6 p:=by
 refine ⟨h.len,fun d hd=>?_⟩
 obtain ⟨h1,h2,h3⟩:=Jk (by have:=h.six;omega) (h.may d hd)
 have:=h.six
 exact ⟨h3.ok,by omega,by omega⟩
theorem PlanG.serves {x:Inst} {n:Nat} {p:zJ} (h:PlanG x n p):Serves x p:=by
 have hs:=h.s
 have hn:=h.a.n60
 have hl:=hs.len
 have hcn:jN p<=1000*p.length:=by
  have:∀p:zJ,(∀d∈p,d.flatten.length<=1000)->jN p<=1000*p.length:=by
   intro p
   induction p with
   | nil=>intro _;simp [jN]
   | cons d p ih =>
    intro h
    have:=ih fun e he=>h e (by simp [he])
    have:=h d (by simp)
    simp only [jN,List.map_cons,List.sum_cons,List.length_cons] at *
    omega
  exact this p fun d hd=>by have:=(hs.ok d hd).2.1;omega
 refine ⟨⟨by omega,fun d hd=>by have:=(hs.ok d hd).2.2;omega,fun d hd=>(hs.ok d hd).1.t,by rw [Zao];omega⟩,fun s hst=>?_,by omega⟩
 obtain ⟨d,hd,hsd⟩:=Zaa p 0 s hst
 have:=Zab (h.may d hd) s.1 hsd
 simp [qu] at this
 omega
theorem PlanG.cost {x:Inst} {n:Nat} {p:zJ} (h:PlanG x n p):Pure Tryz.prog 84 [.agg (zv x),.agg [L p]] (I (ut x p)) :=
 Zl7 x p h.serves (by have:=h.six;omega) (fun c hc=>(h.a.made c hc).fits) fun d hd=>(h.s.ok d hd).1
theorem PlanS.open {x:Inst} {n K:Nat} (h:InstA x n) (h6:x.cust.length<=6) {p:zJ} (hp:PlanS n K p) (ho:uA x p=true):PlanG x n p :=
 ⟨h,h6,hp.len,fun d hd=>by unfold uA at ho;have:=List.all_eq_true.1 ho d hd;simpa using this⟩
def vg (cs:List Nat) (p:zJ):zJ:=cs.foldl (fun q (c:Nat)=>vM c q) p
def X2 (x:Inst) (n:Nat) (st:zJ × Bool) (c:Nat):zJ × Bool:=if st.2=true then uB x n st.1 c else st
def vT (x:Inst) (n:Nat) (cs:List Nat) (q:zJ):zJ × Bool:=cs.foldl (X2 x n) (q,true)
def Ym (x:Inst) (n:Nat) (p:zJ) (cs:List Nat):zJ × Bool :=
 if (vT x n cs (vg cs p)).2=true then
  (if uA x (vT x n cs (vg cs p)).1=true/\¬ut x p<=ut x (vT x n cs (vg cs p)).1 then ((vT x n cs (vg cs p)).1,true) else (p,false))
 else (p,false)
theorem Ze0 (x:Inst) (n:Nat) (q:zJ):∀cs:List Nat,cs.foldl (X2 x n) (q,false)=(q,false)
 | []=>rfl
 | c :: cs=>by rw [List.foldl_cons];exact Ze0 x n q cs
open Go Go.Proofs Hp
def nO (low:Nat) (e:zJ × Bool):PV:=if e.2=true then nQ low e.1 else L e.1
theorem ZnA {low:Nat} {x:Inst} {n:Nat} (h:InstA x n) {p:zJ} {K:Nat} (hK:K<=900) (hp:PlanS n K p) (c:Nat) (hc:c<x.cust.length):NewC Tryz.prog low 118 [.agg (zv x),.agg [L p],I c] (.tup [.agg [nO low (uB x n p c)],B (uB x n p c).2]):=by
 have hx:=h.h.cust
 have hn60:=h.n60
 have hxd:=h.days
 have hpl:=hp.len
 obtain ⟨hs1,hs2,hs3⟩:=hp.sizes (by omega) (by omega)
 obtain ⟨cu,tlc,a1,-,-,e1,e0⟩:=el 8 rfl x.cust c hc
 have hcm:=List.mem_of_getElem? a1
 have hgc:x.cust.getD c default=cu:=by rw [List.getD_eq_getElem?_getD,a1];rfl
 have hPr:=Znw x p c (n:=n) (K:=K) (by omega) (by omega) hx hc hp
 have hI:=Zny x (x4 x c) p
 have hlen:(p.map (xK x (x4 x c))).length<=1000:=by rw [List.length_map];omega
 have hput:uB x n p c=if (wB n x.cap cu (p.map (xK x (x4 x c)))).2=true then (wB n x.cap cu (p.map (xK x (x4 x c)))).1.foldl (vS x c) (p,true) else ([],false):=by unfold uB;rw [hgc]
 have hgood:=ZeZ (h.made cu hcm) hn60 x.cap (p.map (xK x (x4 x c)))
 rw [hput]
 generalize p.map (xK x (x4 x c))=pr at *
 have hSo:Pure Tryz.prog 111 [.agg (zM cu),I x.days,I x.cap,L pr] (.tup [L (wB n x.cap cu pr).1,B (wB n x.cap cu pr).2]):=by
  rw [hxd]
  exact fun S=>Zns cu n x.cap (.inl rfl) hI hlen (h.made cu hcm) (h.pats cu hcm) hn60
 clear hput
 generalize wB n x.cap cu pr=r at *
 obtain ⟨v,ok⟩:=r
 simp only at hSo hgood ⊢
 refine u7 Tryz.func118 Tryz.ntmps118 Tryz.results118 fun S nx hd=>?_
 refine za (zb ?_)
 intro v0 v1 v2
 refine za (zF (some [nx,nx+1]) (Row.pures [0,1,2,3,4,5,6,7,8,9,10,11,12,13,14,15,16,17,18] .done) mixed (zn e0 hc) ?_)
 refine zN (hPr) (zn e0 hc) ?_
 refine zN (hSo) (zn e0 hc) ?_
 cases ok with
 | false =>
  rw [if_neg (by decide)]
  repeat apply za
  refine zb ?_
  refine zm rfl (za (zb ?_))
  refine uN 2 0 rfl rfl ?_
  exact zg (zk hd (by simp;rfl) rfl)
 | true =>
  have hg:=hgood rfl
  have hvl:=hg.len
  rw [if_pos rfl]
  repeat apply za
  refine zb ?_
  refine zo rfl (zh (za (z8 [] (by rfl) (by rfl) fun K Gc Gh hK hGc hGh X hX0 hX=>?_)))
  simp -implicitDefEqProofs [hX0,hX]
  try clear hX0 hX X
  refine hGc _ _ _ _ _ _ _ fun hsuf=>((ZeC p hs1 hs2 hs3 qN).mono ?_).v
  rintro _ _ ⟨v3,rfl,rfl⟩
  refine ⟨_,_,J6 3 _,?_⟩
  clear hGc hGh
  clear Gc Gh
  refine zW hsuf (D:=[]) (by rfl) fun Gc Gh hGc hGh X hX0 hX=>?_
  simp -implicitDefEqProofs [hX0,hX,Nat.add_assoc]
  clear hX0 hX X
  intro v4
  refine hK _ _ _ ?_
  clear hK hGc hGh
  clear K Gc Gh
  repeat apply za
  refine zb ?_
  refine zi (zB (fun s:Nat × zJ × Nat=>s.1<=v.length/\(v.take s.1).foldl (vS x c) (p,true)=(s.2.1,true)/\PlanS n (K+s.1) s.2.1) (fun (k,q,w)=>[(2,I c),(3,.ptr nx v0 0),(6,.ptr (nx+2) v2 0),(10,.ptr (nx+7) v4 0),(38,L v),(39,I v.length),(40,I k)]) (fun (k,q,w)=>[.cells v0 25 (zv x),.cells v1 38 [L p],.cells v2 38 [yy],.dead,.dead,.dead,.cells w 58 (q.flatMap Enc.enc),.cells v4 38 [.sl (nx+6) w 1 0 q.length]]) (fun s=>v.length-s.1) (0,p,v3) [] ⟨by simp,by simp,hp⟩ (by simp) (by simp) ?_)
  rintro ⟨k,q,w⟩ ⟨hk,hq,hqs⟩
  simp only at hk hq hqs ⊢
  have hql:=hqs.len
  refine za (zb ?_)
  refine za (zr rfl (fun hc1=>?_) (fun hc1=>?_))
  ·simp at hc1
   obtain ⟨u,tl,b1,b2,b3,f1,f0⟩:=el 2 rfl v k hc1
   have hu:=hg.ok u (List.mem_of_getElem? b1)
   obtain ⟨z,hz⟩:∃z:Nat,u.d=z:=⟨u.d.toNat,by omega⟩
   have hzl:z<q.length:=by omega
   obtain ⟨d,tld,d1,d2,d3,d0⟩:=zC rfl q z hzl
   obtain ⟨g1,g2,g3⟩:=hqs.ok d (List.mem_of_getElem? d1)
   have hins:=Vv x d ⟨c,u.q⟩ (by omega) g1 (by omega)
   have hsz:=ZaD (x:=x) (s:=⟨c,u.q⟩) (by omega) g1 g2 g3 (by omega)
   have hst:(v.take (k+1)).foldl (vS x c) (p,true)=if (yE x d ⟨c,u.q⟩).2=true then (q.set z (yE x d ⟨c,u.q⟩).1,true) else ([],false):=by
    rw [b3,List.foldl_append,hq]
    have e9:q.getD u.d.toNat []=d:=by rw [hz,Int.toNat_natCast,List.getD_eq_getElem?_getD,d1];rfl
    show vS x c (q,true) u=_
    unfold vS
    rw [if_pos rfl,e9,hz,Int.toNat_natCast]
   generalize yE x d ⟨c,u.q⟩=e at *
   obtain ⟨d',ok'⟩:=e
   simp only at hins hst hsz
   have hz1:1<=q.length-z:=by omega
   have hqf:(q.flatMap Enc.enc:List PV).length=q.length:=jg q
   have hsp:=XN (α:=zj) rfl q z d' hzl
   have hsp':yb (q.flatMap Enc.enc) z [L d']=(q.set z d').flatMap Enc.enc:=by simpa using hsp
   refine zh (za (zi (za (ze [] (zE f0 hc1 hz) ?_))))
   intro v5
   refine za (zb ?_)
   intro v6
   refine za (zF (some [nx,nx+6,nx+7,nx+8,nx+9]) (Row.pures [0,1,2,3,4,5,6,7,8,9,10,11] (.alt 12 (.alt 13 (Row.pures [14] .done) .stop) .stop)) mixed (zP d0 hzl hz1 hz) ?_)
   refine zN (hins) (zP d0 hzl hz1 hz) ?_
   intro v7
   cases ok' with
   | false =>
    rw [if_neg (by decide)] at hst
    have hall:v.foldl (vS x c) (p,true)=([],false):=by
     conv=>lhs;rw [<-List.take_append_drop (k+1) v,List.foldl_append,hst,ZaE]
    rw [hall]
    repeat apply za
    refine zb ?_
    refine zm rfl (za (zb ?_))
    refine uN 2 0 rfl rfl ?_
    exact zg (zk hd (by simp;rfl) rfl)
   | true =>
    rw [if_pos rfl] at hst
    repeat apply za
    refine zb ?_
    refine zo rfl (zh (ze [] (zP hzl hsp' hqf hz) ?_))
    refine ⟨by omega,?_⟩
    refine zb ?_
    exact zq (k+1,q.set z d',w) [_,_,_] ⟨hc1,hst,hqs.set hsz⟩ (by simp;omega) (by simp [zt k (by omega)]) rfl (by simp;exact ⟨rfl,rfl,rfl⟩)
  ·simp at hc1
   obtain rfl:k=v.length:=by omega
   rw [List.take_length] at hq
   rw [hq]
   refine zu (wR hd 6 rfl ?_)
   refine za (zb ?_)
   exact zg (zk hd (by simp;rfl) (by simp [zp,nO]))
theorem PlanG.cloneQ {low:Nat} {x:Inst} {n:Nat} {p:zJ} (h:PlanG x n p):NewC Tryz.prog low 61 [.agg [L p]] (.agg [nQ low p]):=by
 obtain ⟨h1,h2,h3⟩:=h.s.sizes (by have:=h.a.n60;omega) (by omega)
 exact ZmC (sz:=1) 3 (fun S nx hd=>(ZeC p h1 h2 h3 hd).v) (by rw [jg,Nat.mul_one])
theorem ZnB {low:Nat} {x:Inst} {n:Nat} {p:zJ} (h:PlanG x n p) (cs:List Nat) (hl:cs.length<=10) (hl0:0<cs.length) (hcs:∀c∈cs,c<x.cust.length):NewC Tryz.prog low 78 [.agg (zv x),.agg [L p],L (cs.map fun (c:Nat)=>(c:Int))] (.tup [.agg [nQ low (Ym x n p cs).1],B (Ym x n p cs).2]):=by
 have hA:=h.a
 have h6:=h.six
 have hn60:=hA.n60
 have hcl:=h.cloneQ (low:=low)
 have hps:=h.s
 have hcost:=h.cost
 obtain ⟨zs,hzs⟩:∃zs,zs=cs.map fun (c:Nat)=>(c:Int):=⟨_,rfl⟩
 have hzl:zs.length=cs.length:=by rw [hzs,List.length_map]
 have hat:∀(k c:Nat),cs[k]?=some c->zs[k]?=some (c:Int):=fun k c e=>by rw [hzs,List.getElem?_map,e];rfl
 have hanew:Ym x n p cs=if (vT x n cs (vg cs p)).2=true then (if uA x (vT x n cs (vg cs p)).1=true/\¬ut x p<=ut x (vT x n cs (vg cs p)).1 then ((vT x n cs (vg cs p)).1,true) else (p,false)) else (p,false):=rfl
 rw [<-hzs]
 clear hzs
 refine u7 Tryz.func78 Tryz.ntmps78 Tryz.results78 fun S nx hd=>?_
 refine za (zb ?_)
 intro v0 v1 v2
 refine za (zb ?_)
 intro v3
 repeat apply za
 refine zb ?_
 refine zi (zB (fun s:Nat × zJ=>s.1<=zs.length/\s.2=vg (cs.take s.1) p/\PlanS n 6 s.2) (fun (k,q)=>[(2,L zs),(3,.ptr nx v0 0),(4,.ptr (nx+1) v1 0),(6,.ptr (nx+2) v2 0),(8,.ptr (nx+3) v3 0),(9,B true),(15,L zs),(16,I zs.length),(17,I k)]) (fun (k,q)=>[.cells v0 25 (zv x),.cells v1 38 [L p],.cells v2 38 [yy],.cells v3 38 [L q]]) (fun s=>zs.length-s.1) (0,p) [] ⟨by simp,by simp [vg],hps⟩ (by simp) (by simp) ?_)
 ·rintro ⟨k,q⟩ ⟨hk,hq,hqs⟩
  simp only at hk hq hqs ⊢
  refine za (zb ?_)
  refine za (zr rfl (fun hc1=>?_) (fun hc1=>?_))
  ·simp at hc1
   obtain ⟨c,hc⟩:∃c,cs[k]?=some c:=⟨_,List.getElem?_eq_getElem (by omega)⟩
   have hcx:=hcs c (List.mem_of_getElem? hc)
   obtain ⟨z,tl,b1,b2,b3,f0⟩:=zC rfl zs k hc1
   obtain rfl:z=(c:Int):=by have:=hat k c hc;rw [b1] at this;exact Option.some.inj this
   have hth:=ZeA x c
   rw [show (decide (0<=(c:Int)) && decide ((c:Int)<x.cust.length))=true from by simp;omega] at hth
   obtain ⟨s1,s2,s3⟩:=hqs.sizes (by omega) (by omega)
   have hwo:=Zeo q c s1 (fun d hd=>by have:=s2 d hd;omega) (fun d hd t ht=>by have:=s3 d hd t ht;omega)
   have hnext:vM c q=vg (cs.take (k+1)) p:=by
    rw [hq,List.take_add_one,hc];simp [vg]
   have hqs2:=hqs.wo c
   have hqs2:=hqs.wo c
   generalize vM c q=q2 at *
   refine zh (za (zi (za (ze [] (zn f0 hc1) ?_))))
   repeat apply za
   refine zb ?_
   refine zA hth ?_
   refine zo (by simp) ?_
   refine zh (zb ?_)
   refine zA hwo ?_
   refine zb ?_
   exact zq (k+1,q2) [] ⟨hc1,hnext,hqs2⟩ (by simp;omega) (by simp [zt k (by omega)]) rfl (by simp)
  ·simp at hc1
   obtain rfl:k=zs.length:=by omega
   rw [hzl,List.take_length] at hq
   refine zu ?_
   repeat apply za
   refine zb ?_
   refine zi (zB (fun s:Nat × zJ × PV=>s.1<=zs.length/\(cs.take s.1).foldl (X2 x n) (q,true)=(s.2.1,true)/\PlanS n (6+64*s.1) s.2.1/\PV.Le s.2.2 (L s.2.1)/\(0<s.1->s.2.2=nQ low s.2.1)) (fun (k,q,pv)=>[(2,L zs),(3,.ptr nx v0 0),(4,.ptr (nx+1) v1 0),(6,.ptr (nx+2) v2 0),(8,.ptr (nx+3) v3 0),(31,L zs),(32,I zs.length),(33,I k)]) (fun (k,q,pv)=>[.cells v0 25 (zv x),.cells v1 38 [L p],.cells v2 38 [yy],.cells v3 38 [pv]]) (fun s=>zs.length-s.1) (0,q,L q) [] ⟨by simp,by simp,hqs,.rfl' _,fun h=>absurd h (Nat.lt_irrefl _)⟩ (by simp) (by simp) ?_)
   rw [<-hq] at hanew
   clear hqs hq hk hc1
   rintro ⟨k,r,pv⟩ ⟨hk,hr,hrs,hle0,hnew⟩
   simp only at hk hr hrs hle0 hnew ⊢
   refine za (zb ?_)
   refine za (zr rfl (fun hc1=>?_) (fun hc1=>?_))
   ·simp at hc1
    obtain ⟨c,hc⟩:∃c,cs[k]?=some c:=⟨_,List.getElem?_eq_getElem (by omega)⟩
    have hcx:=hcs c (List.mem_of_getElem? hc)
    obtain ⟨z,tl,b1,b2,b3,f0⟩:=zC rfl zs k hc1
    obtain rfl:z=(c:Int):=by have:=hat k c hc;rw [b1] at this;exact Option.some.inj this
    have hput:=(ZnA (low:=low) hA (K:=6+64*k) (by omega) hrs c hcx).arg (args':=[.agg (zv x),.agg [pv],I c]) (by rfl) (jO (.rfl' _) (jO (ZF hle0) (jO (.rfl' _) ZG)))
    have hsz:=Znz hA (K:=6+64*k) (by omega) hrs hcx
    have hst:(cs.take (k+1)).foldl (X2 x n) (q,true)=uB x n r c:=by
     rw [List.take_add_one,hc,List.foldl_append,hr];rfl
    generalize uB x n r c=e at *
    obtain ⟨r2,ok⟩:=e
    simp only at hput hsz
    refine zh (za (zi ?_))
    cases ok with
    | false =>
     change NewC _ _ _ _ (.tup [.agg [L r2],B false]) at hput
     have hall:vT x n cs q=(r2,false):=by
      unfold vT
      conv=>lhs;rw [<-List.take_append_drop (k+1) cs,List.foldl_append,hst,Ze0]
     rw [hall,if_neg (by simp)] at hanew
     rw [hanew]
     refine za (ze [] (zn f0 hc1) ?_)
     refine za (zb ?_)
     refine vJ [] (hput) trivial ?_
     refine za (zb ?_)
     refine zm rfl (za (zb ?_))
     refine vJ [] (hcl) trivial ?_
     exact zg (zk hd (by simp;rfl) rfl)
    | true =>
     change NewC _ _ _ _ (.tup [.agg [nQ low r2],B true]) at hput
     refine za (ze [] (zn f0 hc1) ?_)
     refine za (zb ?_)
     refine vJ [] (hput) trivial ?_
     refine za (zb ?_)
     refine zo rfl (zh (zb ?_))
     exact zq (k+1,r2,nQ low r2) [] ⟨hc1,hst,by have:=hsz rfl;rw [show 6+64*(k+1)=6+64*k+64 by omega];exact this,Zah low r2,fun _=>rfl⟩ (by simp;omega) (by simp [zt k (by omega)]) rfl (by simp)
   ·simp at hc1
    obtain rfl:k=zs.length:=by omega
    rw [hzl,List.take_length] at hr
    obtain rfl:=hnew (by omega)
    have hall:vT x n cs q=(r,true):=hr
    rw [hall,if_pos rfl] at hanew
    have hop:=(Znx x r (n:=n) (K:=6+64*zs.length) (by omega) (by omega) (by omega) hrs).arg (args':=[.agg (zv x),.agg [nQ low r]]) (by rfl) (jO (.rfl' _) (jO (ZF (Zah low r)) ZG))
    refine zu ?_
    cases ho:uA x r with
    | false =>
     rw [ho] at hop
     rw [ho,if_neg (by simp)] at hanew
     rw [hanew]
     repeat apply za
     refine zF (some [nx,nx+1,nx+3]) (Row.pures [0,1,2,3,4,5,6,7,8,9,10,11,12] .done) mixed zx ?_
     refine zN (hop) zx ?_
     refine zm rfl (za (zb ?_))
     refine vJ [] (hcl) trivial ?_
     exact zg (zk hd (by simp;rfl) rfl)
    | true =>
     rw [ho] at hop
     have hcr:=(hrs.open hA h6 ho).cost.arg (args':=[.agg (zv x),.agg [nQ low r]]) (by rfl) (jO (.rfl' _) (jO (ZF (Zah low r)) ZG))
     generalize ut x r=z2 at *
     generalize ut x p=z1 at *
     by_cases hle:z1<=z2
     ·rw [if_neg (fun q=>q.2 hle)] at hanew
      rw [hanew]
      repeat apply za
      refine zF (some [nx,nx+1,nx+3]) (Row.pures [0,1,2,3,4,5,6,7,8,9,10,11,12] .done) mixed hle ?_
      refine zN (hop) hle ?_
      refine zN (hcr) hle ?_
      refine zN (hcost) hle ?_
      refine zm rfl (za (zb ?_))
      refine vJ [] (hcl) trivial ?_
      exact zg (zk hd (by simp;rfl) rfl)
     ·rw [if_pos ⟨ho,hle⟩] at hanew
      rw [hanew]
      repeat apply za
      refine zF (some [nx,nx+1,nx+3]) (Row.pures [0,1,2,3,4,5,6,7,8,9,10,11,12] .done) mixed hle ?_
      refine zN (hop) hle ?_
      refine zN (hcr) hle ?_
      refine zN (hcost) hle ?_
      refine zo rfl (zh (za (zb ?_)))
      exact zg (zk hd (by simp;rfl) rfl)
theorem ZnC {low:Nat} {x:Inst} {n:Nat} {p:zJ} (h:PlanG x n p) (c:Nat) (hc:c<x.cust.length):NewC Tryz.prog low 37 [.agg (zv x),.agg [L p],I c] (.tup [.agg [nQ low (Ym x n p [c]).1],B (Ym x n p [c]).2]):=by
 have ha:=ZnB (low:=low) h [c] (by simp) (by simp) (by simpa using hc)
 simp only [List.map_cons,List.map_nil] at ha
 refine u7 Tryz.func37 Tryz.ntmps37 Tryz.results37 fun S nx hd=>?_
 refine za (zb ?_)
 intro v0 v1 v2
 refine za (zb ?_)
 refine vJ [] (ha) trivial ?_
 exact zg (zk hd (by simp;rfl) rfl)
open Go Go.Proofs Hp
def X3 (K:PV->PV):Prop:=∀(C:Ctx) (S:Store) (w:World) (p:PV) (v:Value),Rel C S w (K p) v->∃u,Rel C S w p u/\∀(C2:Ctx) (S2:Store) (w2:World) (p':PV),Rel C2 S2 w2 p' u->Rel C2 S2 w2 (K p') v
theorem Ze1:X3 fun p=>.agg [p]:=by
 intro C S w p v h
 cases h with
 | agg hl h1 h2 =>
  rename_i vs
  obtain ⟨u,hu⟩:∃u,vs[0]?=some u:=⟨vs[0]'(by simp at hl;omega),Array.getElem?_eq_getElem (by simp at hl;omega)⟩
  refine ⟨u,h2 0 p u rfl hu,fun C2 S2 w2 p' hp'=>.agg hl h1 fun i c v hc hv=>?_⟩
  match i,hc with
  | 0,hc=>rw [hu] at hv;cases hv;cases hc;exact hp'
theorem Ze2 (b:Bool):X3 fun p=>.tup [.agg [p],B b]:=by
 intro C S w p v h
 cases h with
 | tup hl h2 =>
  rename_i vs
  simp at hl
  obtain ⟨u,hu⟩:∃u,vs[0]?=some u:=⟨vs[0]'(by omega),Array.getElem?_eq_getElem (by omega)⟩
  obtain ⟨u2,hu2⟩:∃u,vs[1]?=some u:=⟨vs[1]'(by omega),Array.getElem?_eq_getElem (by omega)⟩
  obtain ⟨y,hy,hback⟩:=Ze1 C S w p u (h2 0 _ u rfl hu)
  refine ⟨y,hy,fun C2 S2 w2 p' hp'=>.tup (by simpa using hl) fun i c v hc hv=>?_⟩
  match i,hc with
  | 0,hc=>rw [hu] at hv;cases hv;cases hc;exact hback _ _ _ _ hp'
  | 1,hc =>
   have:=h2 1 _ u2 rfl hu2
   rw [hu2] at hv;cases hv;cases hc
   cases this
   exact .sc _
def T1 (T:Store) (lo hi:Nat):PV->Prop:=Tl T lo hi 2 fun r=>∃k:Int,r=I k
def T2 (T:Store) (lo hi:Nat):PV->Prop:=Tl T lo hi 1 (T1 T lo hi)
def T3 (T:Store) (lo hi:Nat):PV->Prop:=Tl T lo hi 1 (T2 T lo hi)
def TQ (T:Store) (lo hi:Nat):PV->Prop:=Tl T lo hi 1 fun _=>True
theorem ZnD (t:List Stop):∀(i:Nat) (p:PV),(t.flatMap Enc.enc:List PV)[i]?=some p->∃k:Int,p=I k:=by
 intro i p h
 obtain ⟨s,_,hs⟩:=List.mem_flatMap.1 (List.mem_of_getElem? h)
 have e:(Enc.enc s:List PV)=[I s.c,I s.q]:=rfl
 rw [e] at hs
 simp at hs
 rcases hs with rfl | rfl
 ·exact ⟨_,rfl⟩
 ·exact ⟨_,rfl⟩
theorem Ze3 {P:Program} {f:FuncId} {args:List PV} {K:PV->PV} {q:zJ} (hK:X3 K) (h:∀low,NewC P low f args (K (nP low q))) {S:Store} {nx:Nat} (hd:zQ nx S) :
  Spec P f args S (fun r S'=>∃p lo hi,r=K p/\T3 S' lo hi p/\nx<=lo/\lo<=hi/\(∀o,o<lo->S' o=S o)/\zQ hi S'):=by
 refine ⟨(h 0 S).1,fun C w vs hS hl hr=>?_⟩
 refine ((h w.heap.size (jF C w S)).2 C w vs (Zej hS) (Nat.le_refl _) hl fun i c v hc hv=>(hr i c v hc hv).mono Zei).mono ?_
 rintro e w' ⟨p,v,S',C',rfl,⟨rfl,rfl⟩,hrel,hsim,hst⟩
 obtain ⟨C2,S2,N,hi,pv,g1,g2,g3,g4,g5,g6,g7,g8,g9⟩:=Zel hd hS hsim hst
 obtain ⟨u,hu,hback⟩:=hK _ _ _ _ _ hrel
 refine ⟨K (pv u),v,S2,C2,rfl,⟨pv u,N,hi,rfl,?_,g3,g6,g4,g5⟩,hback _ _ _ _ (g7 u),g2,g1⟩
 refine g9 1 _ _ u _ hu fun i p u' hp hr=>?_
 rw [List.getElem?_map] at hp
 obtain ⟨d,_,rfl⟩:=Option.map_eq_some_iff.1 hp
 refine g9 1 _ _ u' _ hr fun i p u' hp hr=>?_
 rw [List.getElem?_map] at hp
 obtain ⟨t,_,rfl⟩:=Option.map_eq_some_iff.1 hp
 refine g9 2 _ _ u' _ hr fun i p u' hp hr=>?_
 obtain ⟨k,rfl⟩:=ZnD t i p hp
 cases hr
 exact ⟨k,g8 _ _⟩
theorem ZnE {P:Program} {f:FuncId} {args:List PV} {K:PV->PV} {q:zJ} (hK:X3 K) (h:∀low,NewC P low f args (K (nQ low q))) {S:Store} {nx:Nat} (hd:zQ nx S) :
  Spec P f args S (fun r S'=>∃p lo hi,r=K p/\TQ S' lo hi p/\nx<=lo/\lo<=hi/\(∀o,o<lo->S' o=S o)/\zQ hi S'):=by
 refine ⟨(h 0 S).1,fun C w vs hS hl hr=>?_⟩
 refine ((h w.heap.size (jF C w S)).2 C w vs (Zej hS) (Nat.le_refl _) hl fun i c v hc hv=>(hr i c v hc hv).mono Zei).mono ?_
 rintro e w' ⟨p,v,S',C',rfl,⟨rfl,rfl⟩,hrel,hsim,hst⟩
 obtain ⟨C2,S2,N,hi,pv,g1,g2,g3,g4,g5,g6,g7,g8,g9⟩:=Zel hd hS hsim hst
 obtain ⟨u,hu,hback⟩:=hK _ _ _ _ _ hrel
 exact ⟨K (pv u),v,S2,C2,rfl,⟨pv u,N,hi,rfl,g9 1 _ _ u _ hu fun _ _ _ _ _=>trivial,g3,g6,g4,g5⟩,hback _ _ _ _ (g7 u),g2,g1⟩
theorem Tl.keep {T T':Store} {lo hi sz:Nat} {A A':PV->Prop} (hT:∀o,lo<=o->o<hi->T' o=T o) (hA:∀r,A r->A' r) {p:PV} (h:Tl T lo hi sz A p):Tl T' lo hi sz A' p:=by
 rcases h with h | ⟨o,v,e,n,cs,h1,h2,h3,h4,h5,h6,h7⟩
 ·exact .inl h
 ·exact .inr ⟨o,v,e,n,cs,h1,h2,h3,(hT o h2 h3).trans h4,h5,h6,fun i hi=>by obtain ⟨r,a,b⟩:=h7 i hi;exact ⟨r,a,hA r b⟩⟩
theorem T1.keep {T T':Store} {lo hi:Nat} (hT:∀o,lo<=o->o<hi->T' o=T o) {p:PV} (h:T1 T lo hi p):T1 T' lo hi p:=Tl.keep hT (fun _ h=>h) h
theorem T2.keep {T T':Store} {lo hi:Nat} (hT:∀o,lo<=o->o<hi->T' o=T o) {p:PV} (h:T2 T lo hi p):T2 T' lo hi p:=Tl.keep hT (fun _ h=>T1.keep hT h) h
theorem T3.keep {T T':Store} {lo hi:Nat} (hT:∀o,lo<=o->o<hi->T' o=T o) {p:PV} (h:T3 T lo hi p):T3 T' lo hi p:=Tl.keep hT (fun _ h=>T2.keep hT h) h
theorem TQ.keep {T T':Store} {lo hi:Nat} (hT:∀o,lo<=o->o<hi->T' o=T o) {p:PV} (h:TQ T lo hi p):TQ T' lo hi p:=Tl.keep hT (fun _ h=>h) h
theorem Tl.set {T:Store} {lo hi sz:Nat} {A A':PV->Prop} {o v e off:Nat} {cs:List PV} {k m:PV} (hT:T o=.cells v e cs) (hk:cs[off]?=some k) (hA:∀r,A r->A' r) (hm:A k->A' m) {p:PV} (h:Tl T lo hi sz A p) :
  Tl (T.set o (.cells v e (cs.set off m))) lo hi sz A' p:=by
 rcases h with h | ⟨o',v',e',n,cs',h1,h2,h3,h4,h5,h6,h7⟩
 ·exact .inl h
 ·by_cases ho:o'=o
  ·subst ho
   rw [hT] at h4
   cases h4
   refine .inr ⟨o',v,e,n,_,h1,h2,h3,Store.set_same _ _ _,by simpa using h5,h6,fun i hi=>?_⟩
   obtain ⟨r,a,b⟩:=h7 i hi
   by_cases hio:off=i
   ·subst hio
    rw [hk] at a
    cases a
    exact ⟨m,by rw [List.getElem?_set_self (List.getElem?_eq_some_iff.1 hk).1],hm b⟩
   ·exact ⟨r,by rw [List.getElem?_set_ne hio];exact a,hA r b⟩
  ·exact .inr ⟨o',v',e',n,cs',h1,h2,h3,(Store.set_other _ _ _ _ ho).trans h4,h5,h6,fun i hi=>by obtain ⟨r,a,b⟩:=h7 i hi;exact ⟨r,a,hA r b⟩⟩
theorem Tl.no {T:Store} {lo hi sz:Nat} {A:PV->Prop} {k:Int} (h:Tl T lo hi sz A (I k)):False:=by
 rcases h with ⟨a,cap,h⟩ | ⟨o,v,e,n,cs,h,_⟩<;>cases h
theorem T1.set {T:Store} {lo hi o v e off:Nat} {cs:List PV} {k m:Int} (hT:T o=.cells v e cs) (hk:cs[off]?=some (I k)) {p:PV} (h:T1 T lo hi p):T1 (T.set o (.cells v e (cs.set off (I m)))) lo hi p:=Tl.set hT hk (fun _ h=>h) (fun _=>⟨m,rfl⟩) h
theorem T2.set {T:Store} {lo hi o v e off:Nat} {cs:List PV} {k m:Int} (hT:T o=.cells v e cs) (hk:cs[off]?=some (I k)) {p:PV} (h:T2 T lo hi p):T2 (T.set o (.cells v e (cs.set off (I m)))) lo hi p:=Tl.set (A:=T1 T lo hi) (A':=T1 (T.set o (.cells v e (cs.set off (I m)))) lo hi) hT hk (fun _ h=>T1.set hT hk h) (fun h=>(Tl.no h).elim) h
theorem T3.set {T:Store} {lo hi o v e off:Nat} {cs:List PV} {k m:Int} (hT:T o=.cells v e cs) (hk:cs[off]?=some (I k)) {p:PV} (h:T3 T lo hi p):T3 (T.set o (.cells v e (cs.set off (I m)))) lo hi p:=Tl.set (A:=T2 T lo hi) (A':=T2 (T.set o (.cells v e (cs.set off (I m)))) lo hi) hT hk (fun _ h=>T2.set hT hk h) (fun h=>(Tl.no h).elim) h
theorem TQ.set {T:Store} {lo hi o v e off:Nat} {cs:List PV} {k m:PV} (hT:T o=.cells v e cs) (hk:cs[off]?=some k) {p:PV} (h:TQ T lo hi p):TQ (T.set o (.cells v e (cs.set off m))) lo hi p:=Tl.set hT hk (fun _ h=>h) (fun _=>trivial) h
theorem ZaF {S T:Store} {nx hi:Nat} (hn:nx<=hi) (hS:∀o,o<nx->T o=S o) (hd:zQ hi T):T=ext S nx ((List.range (hi-nx)).map fun i=>T (nx+i)):=by
 funext o
 simp only [ext]
 by_cases h:o<nx
 ·rw [if_pos h];exact hS o h
 ·rw [if_neg h,List.getD_eq_getElem?_getD,List.getElem?_map]
  by_cases h2:o<hi
  ·rw [List.getElem?_range (by omega)]
   simp only [Option.map_some,Option.getD_some]
   rw [show nx+(o-nx)=o by omega]
  ·rw [List.getElem?_eq_none (by simp;omega)]
   exact hd o (by omega)
open Go Go.Proofs Hp
structure OwD where
 (nx i2 i3 ia ib ic v2 v3 va vb vc la ha lb hb lc hc n:Nat)
 (S:Store) (pl:zJ) (pa pb pc:PV)
structure OwO (D:OwD):Prop where
 o:(D.nx<=D.i2/\D.i2<D.la/\D.nx<=D.i3/\D.i3<D.la)/\(D.nx<=D.la/\D.la<=D.ha/\D.ha<=D.ia/\D.ia<D.lb)/\(D.lb<=D.hb/\D.hb<=D.ib/\D.ib<D.lc)/\D.lc<=D.hc/\D.hc<=D.ic/\D.ic<D.n
structure OwSt (D:OwD) (T:Store):Prop where
 old:∀o,o<D.nx->T o=D.S o
 p:T D.i2=.cells D.v2 38 [L D.pl]
 k:T D.i3=.cells D.v3 38 [L D.pl]
 a:T D.ia=.cells D.va 38 [D.pa]
 b:T D.ib=.cells D.vb 38 [D.pb]
 c:T D.ic=.cells D.vc 38 [D.pc]
 ta:TQ T D.la D.ha D.pa
 tb:T3 T D.lb D.hb D.pb
 tc:T3 T D.lc D.hc D.pc
theorem OwSt.setA {D:OwD} {T:Store} (h:OwSt D T) (ho:OwO D) {o v e off:Nat} {cs:List PV} {k m:PV} (hT:T o=.cells v e cs) (hk:cs[off]?=some k) (h1:D.la<=o) (h2:o<D.ha):OwSt D (T.set o (.cells v e (cs.set off m))):=by
 have ho:=ho.o
 refine ⟨fun i hi=>?_,?_,?_,?_,?_,?_,h.ta.set hT hk,h.tb.keep fun i q1 q2=>?_,h.tc.keep fun i q1 q2=>?_⟩
 ·rw [Store.set_other _ _ _ _ (by omega)];exact h.old i hi
 ·rw [Store.set_other _ _ _ _ (by omega)];exact h.p
 ·rw [Store.set_other _ _ _ _ (by omega)];exact h.k
 ·rw [Store.set_other _ _ _ _ (by omega)];exact h.a
 ·rw [Store.set_other _ _ _ _ (by omega)];exact h.b
 ·rw [Store.set_other _ _ _ _ (by omega)];exact h.c
 ·rw [Store.set_other _ _ _ _ (by omega)]
 ·rw [Store.set_other _ _ _ _ (by omega)]
theorem OwSt.setB {D:OwD} {T:Store} (h:OwSt D T) (ho:OwO D) {o v e off:Nat} {cs:List PV} {k m:Int} (hT:T o=.cells v e cs) (hk:cs[off]?=some (I k)) (h1:D.lb<=o) (h2:o<D.hb):OwSt D (T.set o (.cells v e (cs.set off (I m)))):=by
 have ho:=ho.o
 refine ⟨fun i hi=>?_,?_,?_,?_,?_,?_,h.ta.keep fun i q1 q2=>?_,h.tb.set hT hk,h.tc.keep fun i q1 q2=>?_⟩
 ·rw [Store.set_other _ _ _ _ (by omega)];exact h.old i hi
 ·rw [Store.set_other _ _ _ _ (by omega)];exact h.p
 ·rw [Store.set_other _ _ _ _ (by omega)];exact h.k
 ·rw [Store.set_other _ _ _ _ (by omega)];exact h.a
 ·rw [Store.set_other _ _ _ _ (by omega)];exact h.b
 ·rw [Store.set_other _ _ _ _ (by omega)];exact h.c
 ·rw [Store.set_other _ _ _ _ (by omega)]
 ·rw [Store.set_other _ _ _ _ (by omega)]
theorem OwSt.setC {D:OwD} {T:Store} (h:OwSt D T) (ho:OwO D) {o v e off:Nat} {cs:List PV} {k m:Int} (hT:T o=.cells v e cs) (hk:cs[off]?=some (I k)) (h1:D.lc<=o) (h2:o<D.hc):OwSt D (T.set o (.cells v e (cs.set off (I m)))):=by
 have ho:=ho.o
 refine ⟨fun i hi=>?_,?_,?_,?_,?_,?_,h.ta.keep fun i q1 q2=>?_,h.tb.keep fun i q1 q2=>?_,h.tc.set hT hk⟩
 ·rw [Store.set_other _ _ _ _ (by omega)];exact h.old i hi
 ·rw [Store.set_other _ _ _ _ (by omega)];exact h.p
 ·rw [Store.set_other _ _ _ _ (by omega)];exact h.k
 ·rw [Store.set_other _ _ _ _ (by omega)];exact h.a
 ·rw [Store.set_other _ _ _ _ (by omega)];exact h.b
 ·rw [Store.set_other _ _ _ _ (by omega)];exact h.c
 ·rw [Store.set_other _ _ _ _ (by omega)]
 ·rw [Store.set_other _ _ _ _ (by omega)]
section
variable {P:Program} {r:Rd} {n N nx:Nat} {Q:Exit->(Nat->PV)->Store->Prop} {F:Nat->PV} {S:Store} {obs:List Ob}
theorem ZaG {c:Code} {T:Store} {n1:Nat} (L:List (Nat × PV)) (hL:∀x∈L,F x.1=x.2) (hT:T=ext S nx obs) (hd:zQ n1 T) (h:PW P r n N c Q (fr L) (ext T n1 [])):PW P r n N c Q F (ext S nx obs):=by
 rw [yX hd,hT] at h
 exact Zbg (F':=fr L) (Wu hL) h
theorem ZaH {o:Nat} (x:Ob) (h:o<nx+obs.length):ext S nx (obs++[x]) o=ext S nx obs o:=by
 simp only [ext]
 by_cases h2:o<nx
 ·rw [if_pos h2,if_pos h2]
 ·rw [if_neg h2,if_neg h2,List.getD_eq_getElem?_getD,List.getD_eq_getElem?_getD,List.getElem?_append_left (by omega)]
theorem ZaI (x:Ob):ext S nx (obs++[x]) (nx+obs.length)=x:=by
 rw [yS,List.getD_eq_getElem?_getD];simp
end
def AtC (T:Store) (o v d:Nat) (r:PV):Prop:=∃e cs,T o=.cells v e cs/\cs[d]?=some r
theorem AtC.drop {T:Store} {o v d:Nat} {r:PV} (h:AtC T o v d r):∃e cs tl,T o=.cells v e cs/\cs.drop d=r :: tl/\d<cs.length:=by
 obtain ⟨e,cs,h1,h2⟩:=h
 obtain ⟨h3,h4⟩:=List.getElem?_eq_some_iff.1 h2
 exact ⟨e,cs,cs.drop (d+1),h1,by rw [List.drop_eq_getElem_cons h3,h4],h3⟩
theorem AtC.set {T:Store} {o v d:Nat} {r:PV} (h:AtC T o v d r) {o' v' e' off:Nat} {cs':List PV} {k m:Int} (hT:T o'=.cells v' e' cs') (hk:cs'[off]?=some (I k)) (hr:∀k:Int,r≠I k):AtC (T.set o' (.cells v' e' (cs'.set off (I m)))) o v d r:=by
 obtain ⟨e,cs,h1,h2⟩:=h
 by_cases ho:o=o'
 ·subst ho
  rw [h1] at hT
  cases hT
  refine ⟨_,_,Store.set_same _ _ _,?_⟩
  by_cases hd:off=d
  ·subst hd
   rw [hk] at h2
   cases h2
   exact absurd rfl (hr k)
  ·rw [List.getElem?_set_ne hd];exact h2
 ·exact ⟨e,cs,(Store.set_other _ _ _ _ ho).trans h1,h2⟩
theorem Tl.cell {T:Store} {lo hi sz o v n:Nat} {A:PV->Prop} (h:Tl T lo hi sz A (.sl o v sz 0 n)) {i:Nat} (hi':i<n*sz):∃r,A r/\AtC T o v i r:=by
 rcases h with ⟨_,_,h⟩ | ⟨o',v',e',n',cs',h,z1,z2,z3,z4,z5,z6⟩
 ·cases h
 ·cases h
  obtain ⟨r,a,b⟩:=z6 i hi'
  exact ⟨r,b,_,_,z3,a⟩
theorem Tl.range {T:Store} {lo hi sz o v n:Nat} {A:PV->Prop} (h:Tl T lo hi sz A (.sl o v sz 0 n)):lo<=o/\o<hi/\n<=9223372036854775807:=by
 rcases h with ⟨_,_,h⟩ | ⟨o',v',e',n',cs',h,z1,z2,z3,z4,z5,z6⟩
 ·cases h
 ·cases h
  exact ⟨z1,z2,z5⟩
theorem Tl.at {T:Store} {lo hi sz o v n:Nat} {A:PV->Prop} (h:Tl T lo hi sz A (.sl o v sz 0 n)) {i:Nat} (hi':i<n*sz) {r:PV} (hr:AtC T o v i r):A r:=by
 obtain ⟨r',h1,e',cs',h2,h3⟩:=h.cell hi'
 obtain ⟨e,cs,h4,h5⟩:=hr
 rw [h2] at h4
 cases h4
 rw [h3] at h5
 cases h5
 exact h1
theorem ZaJ (cs:List PV) (off:Nat) (a:PV) (h:off<cs.length):yb cs off [a]=cs.set off a:=by
 unfold yb
 rw [List.set_eq_take_append_cons_drop,if_pos h]
 simp
theorem ZnF (p:zJ) (h8:p.length<=8) (h6:∀d∈p,d.length<=6/\∀t∈d,t.length<=8):uu p=p:=by
 unfold uu
 rw [List.take_of_length_le h8]
 refine (List.map_congr_left fun d hd=>?_).trans (List.map_id _)
 obtain ⟨h1,h2⟩:=h6 d hd
 unfold vN
 rw [List.take_of_length_le h1]
 exact (List.map_congr_left fun t ht=>List.take_of_length_le (h2 t ht)).trans (List.map_id _)
open Go Go.Proofs Hp
def ZO:Cust:=⟨1,1,[1],0,0,0,0,0⟩
def x8:Inst:=⟨1,1,9,9,[ZO],[[0,3],[4,0]]⟩
def Yn (c:Cust) (l:List Int):List Visit × Bool:=wT c 9 l
theorem ZaK:InstH x8:=by
 refine ⟨by decide,by decide,Zdk fun row hr d hd=>?_,by decide⟩
 simp only [x8,List.mem_cons,List.not_mem_nil,or_false] at hr
 rcases hr with rfl | rfl<;>simp only [List.mem_cons,List.not_mem_nil,or_false] at hd<;>rcases hd with rfl | rfl<;>decide
theorem ZnG (l:List Int):wT ZO 9 l=([⟨0,1⟩],true):=by
 have h1:jG ZO 9=[1]:=by decide
 have h2:jM ZO 1=[⟨0,1⟩]:=by decide
 unfold wT
 rw [h1]
 have h3:(qE l [1] 1).1=0:=by
  unfold qE
  rw [if_pos (.inl (by simp [qE]))];rfl
 simp only [List.length_cons,List.length_nil,Nat.zero_add,h3]
 rw [if_neg (by decide)]
 show (jM ZO 1,true)=_
 rw [h2]
theorem ZnH:Zau x8 1 Yn:=by
 intro c hc l hl hi S pl hR
 have:c=ZO:=by simpa [x8] using hc
 subst this
 exact ZeH ZO 1 9 rfl hR hi (by omega) (by decide) (by decide)
theorem Ze4 (pr:List (List Int)):jx x8 Yn pr=([[⟨0,1⟩]],0):=by
 have h:vQ x8 Yn pr x8.cust.length=[([⟨0,1⟩],true)]:=by
  show [Yn ZO (pr.getD 0 [])]=_
  unfold Yn;rw [ZnG]
 unfold jx
 rw [h];rfl
theorem Ze5:VsOk 1 1 [[⟨0,1⟩]]:=by
 refine ⟨rfl,fun l hl w hw=>?_,fun l hl=>?_,fun l hl=>?_⟩
 ·simp at hl;subst hl;simp at hw;subst hw;decide
 ·simp at hl;subst hl;simp
 ·simp at hl;subst hl;simp
theorem ZnI:ZeV x8 1 Yn:=by
 intro pr _ _
 rw [Ze4];exact Ze5
theorem ZnJ {d:zj} {s:Stop} (h:d.flatten.Perm [s]) (hn:∀t∈d,t≠[]):d=[[s]]:=by
 have h1:d.flatten=[s]:=List.perm_singleton.1 h
 match d,h1,hn with
 | [],h1,_=>simp at h1
 | [t],h1,_=>simpa using h1
 | t :: u :: r,h1,hn =>
  exfalso
  have a:=hn t (by simp)
  have b:=hn u (by simp)
  have:=congrArg List.length h1
  simp only [List.flatten_cons,List.length_append,List.length_cons,List.length_nil] at this
  have:=List.length_pos_iff.2 a
  have:=List.length_pos_iff.2 b
  omega
theorem ZnK {x:Inst} {s:Stop} (h:SOk x [s]) (h0:arc x 0 0=0) (hf:jz x [s]=0) (hv:1<=x.veh) (b:Int):xn x b [s]=([[s]],0):=by
 have he:(xn x b [s]).2=0:=by
  apply Classical.byContradiction
  intro hne
  rcases (ZkT h b hne).2 with q | q
  ·exact q hf
  ·simp at q;omega
 obtain ⟨-,h2,h3,-⟩:=ZkS h h0 b he
 have:=ZnJ h3 (Vs h2)
 exact Prod.ext this he
theorem ZnL:Jo x8 Yn 0 1=([[[⟨0,1⟩]]],0):=by
 have hs:jd [[⟨0,1⟩]] (0:Nat) 1=[⟨0,1⟩]:=by decide
 have hk:=Zeb ZaK Ze5 0
 have hb:Yi x8 [[⟨0,1⟩]] 0 1=[([[⟨0,1⟩]],0)]:=by
  show [xn x8 0 (jd [[⟨0,1⟩]] (0:Nat) 1)]=_
  rw [hs]
  rw [show jd [[(⟨0,1⟩:Visit)]] 0 x8.cust.length=[⟨0,1⟩] from hs] at hk
  rw [ZnK hk ZaK.diag (by decide) (by decide) 0]
 have h1:qQ x8 [[⟨0,1⟩]] 0 1=[0]:=by unfold qQ;rw [hb];rfl
 have h2:jY x8 [[⟨0,1⟩]] 0 1=[[[⟨0,1⟩]]]:=by unfold jY;rw [hb];rfl
 unfold Jo ZL
 rw [Ze4]
 simp only [h1,h2]
 rfl
theorem ZnM:Pure Tryz.prog 31 [.agg (zv x8),I 0] (.tup [.agg [L ([[[⟨0,1⟩]]]:zJ)],I 0]):=by
 have h:=Zni (b:=0) ZaK (n:=1) rfl (by decide) ZnH ZnI (by decide)
 rw [ZnL] at h
 exact h
theorem ZnN:Pure Tryz.prog 20 [] (B true):=by
 have h1:=ZnM
 have h2:=Zeo [[[⟨0,1⟩]]] 0 (by decide) (by decide) (by decide)
 rw [show vM 0 [[[(⟨0,1⟩:Stop)]]]=[[]] from by decide] at h2
 refine zz Tryz.func20 Tryz.ntmps20 Tryz.results20 fun S nx hd=>?_
 refine za (zb ?_)
 refine za (zb ?_)
 intro v0
 refine za (zb ?_)
 refine zA h1 ?_
 intro v1
 refine za (ze [(2,18),(8,24),(17,33)] trivial ?_)
 refine qZ [(2,18),(8,24),(17,33)] h2 trivial ?_
 exact zg (zk hd (by simp;rfl) rfl)
open Go Go.Proofs Hp
theorem ZnO (x:Inst) (pick:List Int) (joins:List Bool) (cu day:Int) (hx:InstOk x) (hpk:∀z∈pick,zR z):Pure Tryz.prog 8 [.agg (zv x),L pick,L joins,I cu,I day] (B true):=by
 have hgd:=XT x
 have hgc:=Zmo x
 have hgn:=Zap x
 have hmade:=Zmj (Qc x 6 (yp x).cap 1000) (yp x).days.toNat pick joins (Zmp x _ _ _ (by omega)) hpk
 have hgood:=ZgU x hx
 have hgo:InstOk (Qc x 6 (yp x).cap 1000):=Zmq x 6 (yp x).cap 1000 (by unfold zR;omega) (by unfold zR;omega) (by unfold zR;omega)
 have hiA:=Znv x (yp x).cap 1000
 have hlv:=ZnN
 obtain ⟨y,hy⟩:∃y,y=Qc x 6 (yp x).cap 1000:=⟨_,rfl⟩
 have e1:PV.agg (zv y)=.agg [I (yp x).days,I 6,I (yp x).cap,I 1000,L (yp x).cust,L (yp x).dist]:=by rw [hy];rfl
 have hyv:y.veh=6:=by rw [hy];rfl
 rw [<-hy] at hmade hgo hiA
 have hyc:y.cust.length<=6:=by rw [hy];exact hgn
 have hycl:y.cust.length=(yp x).cust.length:=by rw [hy];rfl
 have hnn:(yp x).days.toNat<=7:=by omega
 generalize (yp x).days.toNat=n at hmade hnn hiA
 rw [e1] at hmade
 generalize yp x=g at *
 refine zz Tryz.func8 Tryz.ntmps8 Tryz.results8 fun S nx hd=>?_
 refine za (zb ?_)
 intro v0
 refine za (zb ?_)
 refine zA hgood ?_
 intro v1
 refine za (zb ?_)
 refine za (zb ?_)
 refine za (z8 [] (by rfl) (by rfl) fun K Gc Gh hK hGc hGh X hX0 hX=>?_)
 simp -implicitDefEqProofs [hX0,hX]
 try clear hX0 hX X
 refine hGc _ _ _ _ _ _ _ fun hsuf=>((hmade _).mono ?_).v
 rintro _ _ ⟨⟨pl,b,rfl,hg⟩,rfl⟩
 refine ⟨_,_,rfl,?_⟩
 clear hGc hGh
 clear Gc Gh
 refine zW hsuf (D:=[]) (by rfl) fun Gc Gh hGc hGh X hX0 hX=>?_
 simp -implicitDefEqProofs [hX0,hX]
 try clear hX0 hX X
 intro v2
 refine hK _ _ _ ?_
 clear hK hGc hGh
 clear K Gc Gh
 cases b with
 | false =>
  repeat apply za
  refine ze [(2,40),(8,46),(12,50)] zx ?_
  refine zm rfl (za (zb ?_))
  refine zA hlv ?_
  exact zg (zk hd (by simp;rfl) rfl)
 | true =>
  obtain ⟨hm,hcnt⟩:=hg rfl
  have hpl:=hm.len
  have hsz:=Zmr hm (by omega) (by omega) hcnt
  have hdo:=Zms hm (by omega)
  have hPR:=ZlA y pl hgo hsz
  simp only [e1] at hPR
  by_cases hpe:ZE y pl=0
  case neg =>
   repeat apply za
   refine ze [(2,40),(8,46),(12,50)] (zn hpe zx) ?_
   refine qZ [(2,40),(8,46),(12,50)] hPR (zn hpe zx) ?_
   refine zm rfl (za (zb ?_))
   refine zA hlv ?_
   exact zg (zk hd (by simp;rfl) rfl)
  by_cases h0:cu<0
  ·repeat apply za
   refine ze [(2,40),(8,46),(12,50)] (zE hpe h0 zx) ?_
   refine qZ [(2,40),(8,46),(12,50)] hPR (zE hpe h0 zx) ?_
   refine zm rfl (za (zb ?_))
   refine zA hlv ?_
   exact zg (zk hd (by simp;rfl) rfl)
  by_cases h1:(g.cust.length:Int)<=cu
  ·repeat apply za
   refine ze [(2,40),(8,46),(12,50)] (zP hpe h0 h1 zx) ?_
   refine qZ [(2,40),(8,46),(12,50)] hPR (zP hpe h0 h1 zx) ?_
   refine zm rfl (za (zb ?_))
   refine zA hlv ?_
   exact zg (zk hd (by simp;rfl) rfl)
  obtain ⟨c,rfl⟩:=Int.eq_ofNat_of_zero_le (show 0<=cu by omega)
  obtain ⟨-,-,hdm,-⟩:=Zmt hpe
  have hPG:PlanG y n pl:=⟨hiA,hyc,hpl,hdm⟩
  have hcut:uu pl=pl:=ZnF pl (by omega) fun d hd=>by
   obtain ⟨q1,q2,q3⟩:=Jk (by omega) (hdm d hd)
   exact ⟨by omega,fun t ht=>by have:=Yj d t ht;omega⟩
  have hC:=Zml pl
  rw [hcut] at hC
  have hRep:=fun low=>ZnC (low:=low) hPG c (by omega)
  have hPol:=fun low=>ZmF (low:=low) hPG.m day 5 (by omega)
  have hWo:=fun low=>Zmx (low:=low) pl c (by omega) (fun d hd=>(hdo d hd).n) (fun d hd=>(hdo d hd).t)
  have hS:=ZlJ pl pl (by omega) (fun d hd=>(hdo d hd).n) (fun d hd=>(hdo d hd).t)
  rw [decide_eq_true rfl] at hS
  simp only [e1] at hRep hPol
  generalize (Ym y n pl [c]).1=qa at hRep
  generalize (Ym y n pl [c]).2=ba at hRep
  generalize (uv y pl day 5).1=qb at hPol
  generalize (uv y pl day 5).2=bb at hPol
  generalize vM c pl=qc at hWo
  repeat apply za
  refine ze [(2,40),(8,46),(12,50)] (zP hpe h0 h1 zx) ?_
  refine qZ [(2,40),(8,46),(12,50)] hPR (zP hpe h0 h1 zx) ?_
  refine zo rfl (zh (za (zb ?_)))
  refine zA hC ?_
  intro v3
  clear hPR hC hmade hgood
  refine za (z8 [] (by rfl) (by rfl) fun K Gc Gh hK hGc hGh X hX0 hX=>?_)
  simp -implicitDefEqProofs [hX0,hX]
  try clear hX0 hX X
  refine hGc _ _ _ _ _ _ _ fun hsuf=>((ZnE (Ze2 ba) hRep qN).mono ?_).v
  rintro _ Ta ⟨pa,la,ha,rfl,hTa,hla,hla2,hSa,hda⟩
  simp only [List.length_cons,List.length_nil] at hla
  obtain ⟨ob1,hob1⟩:∃ob1,ob1=(List.range (ha-nx)).map fun i=>Ta (nx+i):=⟨_,rfl⟩
  have hxa:Ta=ext S nx ob1:=by rw [hob1];exact ZaF (by omega) (fun o ho=>(hSa o (by omega)).trans (zH ho)) hda
  obtain ⟨m1,hm1⟩:∃m1,m1=ha-nx:=⟨_,rfl⟩
  have hl1:ob1.length=m1:=by rw [hob1,hm1];simp
  refine ⟨_,_,hxa,?_⟩
  have g1:∀x:Ob,(ob1++[x])[m1]?=some x:=fun x=>by rw [<-hl1];simp
  have s1:∀x y:Ob,(ob1++[x]).set m1 y=ob1++[y]:=fun x y=>by rw [<-hl1];simp
  clear hGc hGh
  clear Gc Gh
  refine zW hsuf (D:=[]) (by rfl) fun Gc Gh hGc hGh X hX0 hX=>?_
  simp -implicitDefEqProofs [hX0,hX,hl1,g1,s1]
  clear hX0 hX X
  intro v4
  refine hK _ _ _ ?_
  clear hK hGc hGh
  clear K Gc Gh
  obtain ⟨T1',hT1⟩:∃T1',T1'=ext S nx (ob1++[.cells v4 38 [pa]]):=⟨_,rfl⟩
  obtain ⟨n1,hn1⟩:∃n1,n1=nx+m1+1:=⟨_,rfl⟩
  have d1:zQ n1 T1':=by rw [hT1,hn1,<-hl1];exact fun i hi=>qN i (by simp;omega)
  have t1:∀o,o<ha->T1' o=Ta o:=fun o ho=>by rw [hT1,ZaH _ (by omega),<-hxa]
  have y1:T1' (nx+1)=.cells v1 25 [I g.days,I 6,I g.cap,I 1000,L g.cust,L g.dist]:=by rw [t1 _ (by omega),hSa _ (by omega),yS];rfl
  have p1:T1' (nx+2)=.cells v2 38 [L pl]:=by rw [t1 _ (by omega),hSa _ (by omega),yS];rfl
  have k1:T1' (nx+3)=.cells v3 38 [L pl]:=by rw [t1 _ (by omega),hSa _ (by omega),yS];rfl
  have a1:T1' (nx+m1)=.cells v4 38 [pa]:=by rw [hT1,<-hl1,ZaI]
  have ta1:TQ T1' la ha pa:=hTa.keep fun o _ ho=>t1 o ho
  have o1:∀o,o<nx->T1' o=S o:=fun o ho=>by rw [t1 _ (by omega),hSa _ (by omega),zH ho]
  refine ZaG [(3,I c),(4,I day),(11,.ptr (nx+1) v1 0),(12,.ptr (nx+2) v2 0),(14,.ptr (nx+3) v3 0),(15,.ptr (nx+m1) v4 0)] (by simp) hT1 d1 ?_
  clear hxa s1 g1 hsuf hob1 hT1 hTa
  obtain ⟨i1,hi1⟩:∃i1,i1=nx+1:=⟨_,rfl⟩
  obtain ⟨i2,hi2⟩:∃i2,i2=nx+2:=⟨_,rfl⟩
  obtain ⟨i3,hi3⟩:∃i3,i3=nx+3:=⟨_,rfl⟩
  obtain ⟨ia,hia⟩:∃ia,ia=nx+m1:=⟨_,rfl⟩
  rw [<-hi1] at y1
  rw [<-hi2] at p1
  rw [<-hi3] at k1
  rw [<-hia] at a1
  rw [<-hi1,<-hi2,<-hi3,<-hia]
  have x1:=fun obs=>(zH (S:=T1') (obs:=obs) (nx:=n1) (i:=i1) (by omega)).trans y1
  have x2:=fun obs=>(zH (S:=T1') (obs:=obs) (nx:=n1) (i:=i2) (by omega)).trans p1
  refine za (z8 [] (by rfl) (by rfl) fun K Gc Gh hK hGc hGh X hX0 hX=>?_)
  simp -implicitDefEqProofs [hX0,hX,x1,x2]
  try clear hX0 hX X
  refine hGc _ _ _ _ _ _ _ fun hsuf=>((Ze3 (Ze2 bb) hPol qN).mono ?_).v
  rintro _ Tb ⟨pb,lb,hb,rfl,hTb,hlb,hlb2,hSb,hdb⟩
  simp only [List.length_nil] at hlb
  obtain ⟨ob2,hob2⟩:∃ob2,ob2=(List.range (hb-n1)).map fun i=>Tb (n1+i):=⟨_,rfl⟩
  have hxb:Tb=ext T1' n1 ob2:=by rw [hob2];exact ZaF (by omega) (fun o ho=>(hSb o (by omega)).trans (zH ho)) hdb
  obtain ⟨m2,hm2⟩:∃m2,m2=hb-n1:=⟨_,rfl⟩
  have hl2:ob2.length=m2:=by rw [hob2,hm2];simp
  refine ⟨_,_,hxb,?_⟩
  have g2:∀x:Ob,(ob2++[x])[m2]?=some x:=fun x=>by rw [<-hl2];simp
  have s2:∀x y:Ob,(ob2++[x]).set m2 y=ob2++[y]:=fun x y=>by rw [<-hl2];simp
  clear hGc hGh
  clear Gc Gh
  refine zW hsuf (D:=[]) (by rfl) fun Gc Gh hGc hGh X hX0 hX=>?_
  simp -implicitDefEqProofs [hX0,hX,hl2,g2,s2]
  clear hX0 hX X
  intro v5
  refine hK _ _ _ ?_
  clear hK hGc hGh
  clear K Gc Gh
  obtain ⟨T2',hT2⟩:∃T2',T2'=ext T1' n1 (ob2++[.cells v5 38 [pb]]):=⟨_,rfl⟩
  obtain ⟨n2,hn2⟩:∃n2,n2=n1+m2+1:=⟨_,rfl⟩
  have d2:zQ n2 T2':=by rw [hT2,hn2,<-hl2];exact fun i hi=>qN i (by simp;omega)
  have t2:∀o,o<hb->T2' o=Tb o:=fun o ho=>by rw [hT2,ZaH _ (by omega),<-hxb]
  have t2':∀o,o<n1->T2' o=T1' o:=fun o ho=>by rw [t2 _ (by omega),hSb _ (by omega),zH ho]
  have b2:T2' (n1+m2)=.cells v5 38 [pb]:=by rw [hT2,<-hl2,ZaI]
  have tb2:T3 T2' lb hb pb:=hTb.keep fun o _ ho=>t2 o ho
  refine ZaG [(3,I c),(11,.ptr i1 v1 0),(12,.ptr i2 v2 0),(14,.ptr i3 v3 0),(15,.ptr ia v4 0),(17,.ptr (n1+m2) v5 0)] (by simp) hT2 d2 ?_
  clear hxb s2 g2 hsuf hob2 hT2 hTb x1 x2
  obtain ⟨ib,hib⟩:∃ib,ib=n1+m2:=⟨_,rfl⟩
  rw [<-hib] at b2
  rw [<-hib]
  have x2:=fun obs=>(zH (S:=T2') (obs:=obs) (nx:=n2) (i:=i2) (by omega)).trans ((t2' i2 (by omega)).trans p1)
  refine za (z8 [] (by rfl) (by rfl) fun K Gc Gh hK hGc hGh X hX0 hX=>?_)
  simp -implicitDefEqProofs [hX0,hX,x2]
  try clear hX0 hX X
  refine hGc _ _ _ _ _ _ _ fun hsuf=>((Ze3 Ze1 hWo qN).mono ?_).v
  rintro _ Tc ⟨pc,lc,hc,rfl,hTc,hlc,hlc2,hSc,hdc⟩
  simp only [List.length_nil] at hlc
  obtain ⟨ob3,hob3⟩:∃ob3,ob3=(List.range (hc-n2)).map fun i=>Tc (n2+i):=⟨_,rfl⟩
  have hxc:Tc=ext T2' n2 ob3:=by rw [hob3];exact ZaF (by omega) (fun o ho=>(hSc o (by omega)).trans (zH ho)) hdc
  obtain ⟨m3,hm3⟩:∃m3,m3=hc-n2:=⟨_,rfl⟩
  have hl3:ob3.length=m3:=by rw [hob3,hm3];simp
  refine ⟨_,_,hxc,?_⟩
  have g3:∀x:Ob,(ob3++[x])[m3]?=some x:=fun x=>by rw [<-hl3];simp
  have s3:∀x y:Ob,(ob3++[x]).set m3 y=ob3++[y]:=fun x y=>by rw [<-hl3];simp
  clear hGc hGh
  clear Gc Gh
  refine zW hsuf (D:=[]) (by rfl) fun Gc Gh hGc hGh X hX0 hX=>?_
  simp -implicitDefEqProofs [hX0,hX,hl3,g3,s3]
  clear hX0 hX X
  intro v6
  refine hK _ _ _ ?_
  clear hK hGc hGh
  clear K Gc Gh
  obtain ⟨T,hT⟩:∃T,T=ext T2' n2 (ob3++[.cells v6 38 [pc]]):=⟨_,rfl⟩
  obtain ⟨n3,hn3⟩:∃n3,n3=n2+m3+1:=⟨_,rfl⟩
  have d3:zQ n3 T:=by rw [hT,hn3,<-hl3];exact fun i hi=>qN i (by simp;omega)
  have t3:∀o,o<hc->T o=Tc o:=fun o ho=>by rw [hT,ZaH _ (by omega),<-hxc]
  have t3':∀o,o<n2->T o=T2' o:=fun o ho=>by rw [t3 _ (by omega),hSc _ (by omega),zH ho]
  have c3:T (n2+m3)=.cells v6 38 [pc]:=by rw [hT,<-hl3,ZaI]
  have tc3:T3 T lc hc pc:=hTc.keep fun o _ ho=>t3 o ho
  refine ZaG [(12,.ptr i2 v2 0),(14,.ptr i3 v3 0),(15,.ptr ia v4 0),(17,.ptr ib v5 0),(19,.ptr (n2+m3) v6 0)] (by simp) hT d3 ?_
  clear hxc s3 g3 hsuf hob3 hT hTc x2
  have hSt:OwSt ⟨nx,i2,i3,ia,ib,n2+m3,v2,v3,v4,v5,v6,la,ha,lb,hb,lc,hc,n3,S,pl,pa,pb,pc⟩ T:=by
   have e1:∀o,o<n1->T o=T1' o:=fun o ho=>(t3' o (by omega)).trans (t2' o ho)
   exact ⟨fun o ho=>(e1 o (by have:o<nx:=ho;omega)).trans (o1 o ho),(e1 i2 (by omega)).trans p1,(e1 i3 (by omega)).trans k1,(e1 ia (by omega)).trans a1,(t3' ib (by omega)).trans b2,c3,
    ta1.keep fun o _ ho=>e1 o (by have:o<ha:=ho;omega),tb2.keep fun o _ ho=>t3' o (by have:o<hb:=ho;omega),tc3⟩
  have hOr:OwO ⟨nx,i2,i3,ia,ib,n2+m3,v2,v3,v4,v5,v6,la,ha,lb,hb,lc,hc,n3,S,pl,pa,pb,pc⟩:=by constructor;dsimp only;omega
  obtain ⟨D,hD⟩:∃D:OwD,D=⟨nx,i2,i3,ia,ib,n2+m3,v2,v3,v4,v5,v6,la,ha,lb,hb,lc,hc,n3,S,pl,pa,pb,pc⟩:=⟨_,rfl⟩
  rw [<-hD] at hSt hOr
  rw [show (fr [(12,.ptr i2 v2 0),(14,.ptr i3 v3 0),(15,.ptr ia v4 0),(17,.ptr ib v5 0),(19,.ptr (n2+m3) v6 0)]:Nat->PV)=fr [(12,.ptr D.i2 D.v2 0),(14,.ptr D.i3 D.v3 0),(15,.ptr D.ia D.va 0),(17,.ptr D.ib D.vb 0),(19,.ptr D.ic D.vc 0)] by rw [hD],show n3=D.n by rw [hD]]
  have hDS:D.S=S:=by rw [hD]
  have hDn:D.nx=nx:=by rw [hD]
  have hDp:D.pl=pl:=by rw [hD]
  clear hD hda hSa hSb hdb hSc hdc t1 t2 t3 t2' t3' y1 p1 k1 a1 ta1 o1 b2 tb2 c3 tc3 d1 d2 d3 hRep hPol hWo
  have hO:=hOr.o
  repeat apply za
  refine zb ?_
  refine yk (nx:=D.n) (σ:=Store) (fun T=>OwSt D T) (fun _=>[(12,.ptr D.i2 D.v2 0),(14,.ptr D.i3 D.v3 0),(15,.ptr D.ia D.va 0),(17,.ptr D.ib D.vb 0),(19,.ptr D.ic D.vc 0)]) (fun T=>T) (fun _=>[]) ?_ ?_
  ·rcases hSt.ta with ⟨a,cap,hpa⟩ | ⟨oa,wa,-,na,-,hpa,-,-,-,-,-,-⟩
   ·refine zi (yP (σ:=Store) (fun T=>OwSt D T) (fun _=>[(12,.ptr D.i2 D.v2 0),(14,.ptr D.i3 D.v3 0),(15,.ptr D.ia D.va 0),(17,.ptr D.ib D.vb 0),(19,.ptr D.ic D.vc 0),(20,I 0)]) (fun T=>T) (fun _=>[]) (fun _=>0) (zD T [] hSt (by simp) rfl (by simp)) ?_)
    intro T hSt
    have q:=hSt.a
    rw [hpa] at q
    have xa:=fun obs=>(zH (S:=T) (obs:=obs) (nx:=D.n) (i:=D.ia) (by omega)).trans q
    repeat apply za
    refine ze [] xa ?_
    refine zo (by simp) ?_
    exact zu (zD T [] hSt (by simp) rfl (by simp))
   ·refine zi (yP (σ:=Nat × Store) (fun s=>s.1<=na/\OwSt D s.2) (fun s=>[(12,.ptr D.i2 D.v2 0),(14,.ptr D.i3 D.v3 0),(15,.ptr D.ia D.va 0),(17,.ptr D.ib D.vb 0),(19,.ptr D.ic D.vc 0),(20,I s.1)]) (fun s=>s.2) (fun _=>[]) (fun s=>na-s.1) (zD (0,T) [] ⟨by simp,hSt⟩ (by simp) rfl (by simp)) ?_)
    rintro ⟨k,T⟩ ⟨hk,hSt⟩
    simp only at hk hSt ⊢
    have q:=hSt.a
    rw [hpa] at q
    have xa:=fun obs=>(zH (S:=T) (obs:=obs) (nx:=D.n) (i:=D.ia) (by omega)).trans q
    repeat apply za
    refine ze [] xa ?_
    refine zr rfl (fun hc1=>?_) (fun hc1=>?_)
    ·simp at hc1
     obtain ⟨e,cs,w1,w2,w3,w4,w5,w6⟩:∃e cs,T oa=.cells wa e cs/\na*1<=cs.length/\D.la<=oa/\oa<D.ha/\na<=9223372036854775807/\k<cs.length:=by
      have:=hSt.ta
      rw [hpa] at this
      rcases this with ⟨_,_,h⟩ | ⟨o',v',e',n',cs',h,z1,z2,z3,z4,z5,_⟩
      ·cases h
      ·cases h;exact ⟨e',cs',z3,z4,z1,z2,z5,by omega⟩
     have xo:=fun obs=>(zH (S:=T) (obs:=obs) (nx:=D.n) (i:=oa) (by omega)).trans w1
     have hnn:¬D.n<=oa:=by omega
     have hsp:=ZaJ cs k (.sc (.slice none 0 0)) w6
     refine zh (za (zi (ze [] (yD xa hc1 xo hnn hsp) ?_)))
     refine ⟨by omega,?_⟩
     refine zb ?_
     exact zq (k+1,T.set oa (.cells wa e (cs.set k (.sc (.slice none 0 0))))) [] ⟨hc1,hSt.setA hOr w1 (List.getElem?_eq_getElem w6) w3 w4⟩ (by simp;omega) (by simp [zt k (by omega)]) rfl (by simp)
    ·simp at hc1
     exact zu (zD T [] hSt (by simp) rfl (by simp))
  ·clear hSt
   clear T
   intro T hSt
   repeat apply za
   refine zb ?_
   refine yk (nx:=D.n) (σ:=Store) (fun T=>OwSt D T) (fun _=>[(12,.ptr D.i2 D.v2 0),(14,.ptr D.i3 D.v3 0),(15,.ptr D.ia D.va 0),(17,.ptr D.ib D.vb 0),(19,.ptr D.ic D.vc 0)]) (fun T=>T) (fun _=>[]) ?_ ?_
   ·rcases hSt.tb with ⟨a,cap,hp⟩ | ⟨o1,w1,-,n1,-,hp,-,-,-,-,-,-⟩
    ·refine zi (yP (σ:=Store) (fun T=>OwSt D T) (fun _=>[(12,.ptr D.i2 D.v2 0),(14,.ptr D.i3 D.v3 0),(15,.ptr D.ia D.va 0),(17,.ptr D.ib D.vb 0),(19,.ptr D.ic D.vc 0),(21,I 0)]) (fun T=>T) (fun _=>[]) (fun _=>0) (zD T [] hSt (by simp) rfl (by simp)) ?_)
     intro T hSt
     have q:=hSt.b
     rw [hp] at q
     have xb:=fun obs=>(zH (S:=T) (obs:=obs) (nx:=D.n) (i:=D.ib) (by omega)).trans q
     repeat apply za
     refine ze [] xb ?_
     refine zo (by simp) ?_
     exact zu (zD T [] hSt (by simp) rfl (by simp))
    ·refine zi (yP (σ:=Nat × Store) (fun s=>s.1<=n1/\OwSt D s.2) (fun s=>[(12,.ptr D.i2 D.v2 0),(14,.ptr D.i3 D.v3 0),(15,.ptr D.ia D.va 0),(17,.ptr D.ib D.vb 0),(19,.ptr D.ic D.vc 0),(21,I s.1)]) (fun s=>s.2) (fun _=>[]) (fun s=>n1-s.1) (zD (0,T) [] ⟨by simp,hSt⟩ (by simp) rfl (by simp)) ?_)
     clear hSt
     clear T
     rintro ⟨d,T⟩ ⟨hd1,hSt⟩
     simp only at hd1 hSt ⊢
     have q:=hSt.b
     rw [hp] at q
     have xb:=fun obs=>(zH (S:=T) (obs:=obs) (nx:=D.n) (i:=D.ib) (by omega)).trans q
     repeat apply za
     refine ze [] xb ?_
     refine zr rfl (fun hc1=>?_) (fun hc1=>?_)
     ·simp at hc1
      have tb:=hSt.tb
      rw [hp] at tb
      obtain ⟨u1,u2,u3⟩:=Tl.range tb
      obtain ⟨r,hr,hAt⟩:=Tl.cell tb (i:=d) (by omega)
      refine zh (za (zi (za (zb ?_))))
      rcases hr with ⟨a,cap,rfl⟩ | ⟨o2,w2,-,n2,-,rfl,-,-,-,-,-,-⟩
      ·refine zi (yP (σ:=Store) (fun T'=>T'=T) (fun _=>[(12,.ptr D.i2 D.v2 0),(14,.ptr D.i3 D.v3 0),(15,.ptr D.ia D.va 0),(17,.ptr D.ib D.vb 0),(19,.ptr D.ic D.vc 0),(21,I d),(22,I 0)]) (fun T=>T) (fun _=>[]) (fun _=>0) (zD T [] rfl (by simp) rfl (by simp)) ?_)
       rintro T' rfl
       obtain ⟨e1,c1,l1,y1,y2,y3⟩:=hAt.drop
       have x1:=fun obs=>(zH (S:=T') (obs:=obs) (nx:=D.n) (i:=o1) (by omega)).trans y1
       repeat apply za
       refine ze [] (yD xb hc1 x1 y2 y3) ?_
       refine zo (by simp) ?_
       refine zu (zb ?_)
       exact zq (d+1,T') [] ⟨hc1,hSt⟩ (by simp;omega) (by simp [zt d (by omega)]) rfl (by simp)
      ·refine zi (yP (σ:=Nat × Store) (fun s=>s.1<=n2/\OwSt D s.2/\AtC s.2 o1 w1 d (.sl o2 w2 1 0 n2)) (fun s=>[(12,.ptr D.i2 D.v2 0),(14,.ptr D.i3 D.v3 0),(15,.ptr D.ia D.va 0),(17,.ptr D.ib D.vb 0),(19,.ptr D.ic D.vc 0),(21,I d),(22,I s.1)]) (fun s=>s.2) (fun _=>[]) (fun s=>n2-s.1) (zD (0,T) [] ⟨by simp,hSt,hAt⟩ (by simp) rfl (by simp)) ?_)
       clear hAt xb q tb hSt
       clear T
       rintro ⟨t,T⟩ ⟨ht,hSt,hAt⟩
       simp only at ht hSt hAt ⊢
       have q:=hSt.b
       rw [hp] at q
       have xb:=fun obs=>(zH (S:=T) (obs:=obs) (nx:=D.n) (i:=D.ib) (by omega)).trans q
       obtain ⟨e1,c1,l1,y1,y2,y3⟩:=hAt.drop
       have x1:=fun obs=>(zH (S:=T) (obs:=obs) (nx:=D.n) (i:=o1) (by omega)).trans y1
       repeat apply za
       refine ze [] (yD xb hc1 x1 y2 y3) ?_
       refine zr rfl (fun hc2=>?_) (fun hc2=>?_)
       ·simp at hc2
        have tb:=hSt.tb
        rw [hp] at tb
        have tb2:=Tl.at tb (i:=d) (by omega) hAt
        obtain ⟨z1,z2,z3⟩:=Tl.range tb2
        obtain ⟨r2,hr2,hAt2⟩:=Tl.cell tb2 (i:=t) (by omega)
        refine zh (za (zi (za (zb ?_))))
        rcases hr2 with ⟨a,cap,rfl⟩ | ⟨o3,w3,-,n3,-,rfl,-,-,-,-,-,-⟩
        ·refine zi (yP (σ:=Store) (fun T'=>T'=T) (fun _=>[(12,.ptr D.i2 D.v2 0),(14,.ptr D.i3 D.v3 0),(15,.ptr D.ia D.va 0),(17,.ptr D.ib D.vb 0),(19,.ptr D.ic D.vc 0),(21,I d),(22,I t),(23,I 0)]) (fun T=>T) (fun _=>[]) (fun _=>0) (zD T [] rfl (by simp) rfl (by simp)) ?_)
         rintro T' rfl
         obtain ⟨e2,c2,l2,k1,k2,k3⟩:=hAt2.drop
         have x2:=fun obs=>(zH (S:=T') (obs:=obs) (nx:=D.n) (i:=o2) (by omega)).trans k1
         repeat apply za
         refine ze [] (zL xb hc1 x1 y2 y3 (zP hc2 x2 k2 k3)) ?_
         refine zo (by simp) ?_
         refine zu (zb ?_)
         exact zq (t+1,T') [] ⟨hc2,hSt,hAt⟩ (by simp;omega) (by simp [zt t (by omega)]) rfl (by simp)
        ·refine zi (yP (σ:=Nat × Store) (fun s=>s.1<=n3/\OwSt D s.2/\AtC s.2 o1 w1 d (.sl o2 w2 1 0 n2)/\AtC s.2 o2 w2 t (.sl o3 w3 2 0 n3)) (fun s=>[(12,.ptr D.i2 D.v2 0),(14,.ptr D.i3 D.v3 0),(15,.ptr D.ia D.va 0),(17,.ptr D.ib D.vb 0),(19,.ptr D.ic D.vc 0),(21,I d),(22,I t),(23,I s.1)]) (fun s=>s.2) (fun _=>[]) (fun s=>n3-s.1) (zD (0,T) [] ⟨by simp,hSt,hAt,hAt2⟩ (by simp) rfl (by simp)) ?_)
         clear hAt hAt2 xb q tb tb2 hSt y1 y2 y3 x1 e1 c1 l1
         clear T
         rintro ⟨i,T⟩ ⟨hi,hSt,hAt,hAt2⟩
         simp only at hi hSt hAt hAt2 ⊢
         have q:=hSt.b
         rw [hp] at q
         have xb:=fun obs=>(zH (S:=T) (obs:=obs) (nx:=D.n) (i:=D.ib) (by omega)).trans q
         obtain ⟨e1,c1,l1,y1,y2,y3⟩:=hAt.drop
         have x1:=fun obs=>(zH (S:=T) (obs:=obs) (nx:=D.n) (i:=o1) (by omega)).trans y1
         obtain ⟨e2,c2,l2,k1,k2,k3⟩:=hAt2.drop
         have x2:=fun obs=>(zH (S:=T) (obs:=obs) (nx:=D.n) (i:=o2) (by omega)).trans k1
         repeat apply za
         refine ze [] (zL xb hc1 x1 y2 y3 (zP hc2 x2 k2 k3)) ?_
         refine zr rfl (fun hc3=>?_) (fun hc3=>?_)
         ·simp at hc3
          have tb:=hSt.tb
          rw [hp] at tb
          have tb3:=Tl.at (Tl.at tb (i:=d) (by omega) hAt) (i:=t) (by omega) hAt2
          obtain ⟨j1,j2,j3⟩:=Tl.range tb3
          obtain ⟨r3,⟨kk,rfl⟩,e3,c3,m1,m2⟩:=Tl.cell tb3 (i:=i*2+1) (by omega)
          have m3:=(List.getElem?_eq_some_iff.1 m2).1
          have x3:=fun obs=>(zH (S:=T) (obs:=obs) (nx:=D.n) (i:=o3) (by omega)).trans m1
          have hnn:¬D.n<=o3:=by omega
          have hsp:=ZaJ c3 (i*2+1) (I 99) m3
          refine zh (za (zi (ze [] (zL xb hc1 x1 y2 y3 (zn (zL hc2 x2 k2 k3 hc3 x3) (zn hnn hsp))) ?_)))
          refine ⟨by omega,?_⟩
          refine zb ?_
          exact zq (i+1,T.set o3 (.cells w3 e3 (c3.set (i*2+1) (I 99)))) [] ⟨hc3,hSt.setB hOr m1 m2 j1 j2,hAt.set m1 m2 (fun _ h=>by cases h),hAt2.set m1 m2 (fun _ h=>by cases h)⟩ (by simp;omega) (by simp [zt i (by omega)]) rfl (by simp)
         ·simp at hc3
          refine zu (zb ?_)
          exact zq (t+1,T) [] ⟨hc2,hSt,hAt⟩ (by simp;omega) (by simp [zt t (by omega)]) rfl (by simp)
       ·simp at hc2
        refine zu (zb ?_)
        exact zq (d+1,T) [] ⟨hc1,hSt⟩ (by simp;omega) (by simp [zt d (by omega)]) rfl (by simp)
     ·simp at hc1
      exact zu (zD T [] hSt (by simp) rfl (by simp))
   ·clear hSt
    clear T
    intro T hSt
    repeat apply za
    refine zb ?_
    refine yk (nx:=D.n) (σ:=Store) (fun T=>OwSt D T) (fun _=>[(12,.ptr D.i2 D.v2 0),(14,.ptr D.i3 D.v3 0),(15,.ptr D.ia D.va 0),(17,.ptr D.ib D.vb 0),(19,.ptr D.ic D.vc 0)]) (fun T=>T) (fun _=>[]) ?_ ?_
    ·rcases hSt.tc with ⟨a,cap,hp⟩ | ⟨o1,w1,-,n1,-,hp,-,-,-,-,-,-⟩
     ·refine zi (yP (σ:=Store) (fun T=>OwSt D T) (fun _=>[(12,.ptr D.i2 D.v2 0),(14,.ptr D.i3 D.v3 0),(15,.ptr D.ia D.va 0),(17,.ptr D.ib D.vb 0),(19,.ptr D.ic D.vc 0),(24,I 0)]) (fun T=>T) (fun _=>[]) (fun _=>0) (zD T [] hSt (by simp) rfl (by simp)) ?_)
      intro T hSt
      have q:=hSt.c
      rw [hp] at q
      have xb:=fun obs=>(zH (S:=T) (obs:=obs) (nx:=D.n) (i:=D.ic) (by omega)).trans q
      repeat apply za
      refine ze [] xb ?_
      refine zo (by simp) ?_
      exact zu (zD T [] hSt (by simp) rfl (by simp))
     ·refine zi (yP (σ:=Nat × Store) (fun s=>s.1<=n1/\OwSt D s.2) (fun s=>[(12,.ptr D.i2 D.v2 0),(14,.ptr D.i3 D.v3 0),(15,.ptr D.ia D.va 0),(17,.ptr D.ib D.vb 0),(19,.ptr D.ic D.vc 0),(24,I s.1)]) (fun s=>s.2) (fun _=>[]) (fun s=>n1-s.1) (zD (0,T) [] ⟨by simp,hSt⟩ (by simp) rfl (by simp)) ?_)
      clear hSt
      clear T
      rintro ⟨d,T⟩ ⟨hd1,hSt⟩
      simp only at hd1 hSt ⊢
      have q:=hSt.c
      rw [hp] at q
      have xb:=fun obs=>(zH (S:=T) (obs:=obs) (nx:=D.n) (i:=D.ic) (by omega)).trans q
      repeat apply za
      refine ze [] xb ?_
      refine zr rfl (fun hc1=>?_) (fun hc1=>?_)
      ·simp at hc1
       have tb:=hSt.tc
       rw [hp] at tb
       obtain ⟨u1,u2,u3⟩:=Tl.range tb
       obtain ⟨r,hr,hAt⟩:=Tl.cell tb (i:=d) (by omega)
       refine zh (za (zi (za (zb ?_))))
       rcases hr with ⟨a,cap,rfl⟩ | ⟨o2,w2,-,n2,-,rfl,-,-,-,-,-,-⟩
       ·refine zi (yP (σ:=Store) (fun T'=>T'=T) (fun _=>[(12,.ptr D.i2 D.v2 0),(14,.ptr D.i3 D.v3 0),(15,.ptr D.ia D.va 0),(17,.ptr D.ib D.vb 0),(19,.ptr D.ic D.vc 0),(24,I d),(25,I 0)]) (fun T=>T) (fun _=>[]) (fun _=>0) (zD T [] rfl (by simp) rfl (by simp)) ?_)
        rintro T' rfl
        obtain ⟨e1,c1,l1,y1,y2,y3⟩:=hAt.drop
        have x1:=fun obs=>(zH (S:=T') (obs:=obs) (nx:=D.n) (i:=o1) (by omega)).trans y1
        repeat apply za
        refine ze [] (yD xb hc1 x1 y2 y3) ?_
        refine zo (by simp) ?_
        refine zu (zb ?_)
        exact zq (d+1,T') [] ⟨hc1,hSt⟩ (by simp;omega) (by simp [zt d (by omega)]) rfl (by simp)
       ·refine zi (yP (σ:=Nat × Store) (fun s=>s.1<=n2/\OwSt D s.2/\AtC s.2 o1 w1 d (.sl o2 w2 1 0 n2)) (fun s=>[(12,.ptr D.i2 D.v2 0),(14,.ptr D.i3 D.v3 0),(15,.ptr D.ia D.va 0),(17,.ptr D.ib D.vb 0),(19,.ptr D.ic D.vc 0),(24,I d),(25,I s.1)]) (fun s=>s.2) (fun _=>[]) (fun s=>n2-s.1) (zD (0,T) [] ⟨by simp,hSt,hAt⟩ (by simp) rfl (by simp)) ?_)
        clear hAt xb q tb hSt
        clear T
        rintro ⟨t,T⟩ ⟨ht,hSt,hAt⟩
        simp only at ht hSt hAt ⊢
        have q:=hSt.c
        rw [hp] at q
        have xb:=fun obs=>(zH (S:=T) (obs:=obs) (nx:=D.n) (i:=D.ic) (by omega)).trans q
        obtain ⟨e1,c1,l1,y1,y2,y3⟩:=hAt.drop
        have x1:=fun obs=>(zH (S:=T) (obs:=obs) (nx:=D.n) (i:=o1) (by omega)).trans y1
        repeat apply za
        refine ze [] (yD xb hc1 x1 y2 y3) ?_
        refine zr rfl (fun hc2=>?_) (fun hc2=>?_)
        ·simp at hc2
         have tb:=hSt.tc
         rw [hp] at tb
         have tb2:=Tl.at tb (i:=d) (by omega) hAt
         obtain ⟨z1,z2,z3⟩:=Tl.range tb2
         obtain ⟨r2,hr2,hAt2⟩:=Tl.cell tb2 (i:=t) (by omega)
         refine zh (za (zi (za (zb ?_))))
         rcases hr2 with ⟨a,cap,rfl⟩ | ⟨o3,w3,-,n3,-,rfl,-,-,-,-,-,-⟩
         ·refine zi (yP (σ:=Store) (fun T'=>T'=T) (fun _=>[(12,.ptr D.i2 D.v2 0),(14,.ptr D.i3 D.v3 0),(15,.ptr D.ia D.va 0),(17,.ptr D.ib D.vb 0),(19,.ptr D.ic D.vc 0),(24,I d),(25,I t),(26,I 0)]) (fun T=>T) (fun _=>[]) (fun _=>0) (zD T [] rfl (by simp) rfl (by simp)) ?_)
          rintro T' rfl
          obtain ⟨e2,c2,l2,k1,k2,k3⟩:=hAt2.drop
          have x2:=fun obs=>(zH (S:=T') (obs:=obs) (nx:=D.n) (i:=o2) (by omega)).trans k1
          repeat apply za
          refine ze [] (zL xb hc1 x1 y2 y3 (zP hc2 x2 k2 k3)) ?_
          refine zo (by simp) ?_
          refine zu (zb ?_)
          exact zq (t+1,T') [] ⟨hc2,hSt,hAt⟩ (by simp;omega) (by simp [zt t (by omega)]) rfl (by simp)
         ·refine zi (yP (σ:=Nat × Store) (fun s=>s.1<=n3/\OwSt D s.2/\AtC s.2 o1 w1 d (.sl o2 w2 1 0 n2)/\AtC s.2 o2 w2 t (.sl o3 w3 2 0 n3)) (fun s=>[(12,.ptr D.i2 D.v2 0),(14,.ptr D.i3 D.v3 0),(15,.ptr D.ia D.va 0),(17,.ptr D.ib D.vb 0),(19,.ptr D.ic D.vc 0),(24,I d),(25,I t),(26,I s.1)]) (fun s=>s.2) (fun _=>[]) (fun s=>n3-s.1) (zD (0,T) [] ⟨by simp,hSt,hAt,hAt2⟩ (by simp) rfl (by simp)) ?_)
          clear hAt hAt2 xb q tb tb2 hSt y1 y2 y3 x1 e1 c1 l1
          clear T
          rintro ⟨i,T⟩ ⟨hi,hSt,hAt,hAt2⟩
          simp only at hi hSt hAt hAt2 ⊢
          have q:=hSt.c
          rw [hp] at q
          have xb:=fun obs=>(zH (S:=T) (obs:=obs) (nx:=D.n) (i:=D.ic) (by omega)).trans q
          obtain ⟨e1,c1,l1,y1,y2,y3⟩:=hAt.drop
          have x1:=fun obs=>(zH (S:=T) (obs:=obs) (nx:=D.n) (i:=o1) (by omega)).trans y1
          obtain ⟨e2,c2,l2,k1,k2,k3⟩:=hAt2.drop
          have x2:=fun obs=>(zH (S:=T) (obs:=obs) (nx:=D.n) (i:=o2) (by omega)).trans k1
          repeat apply za
          refine ze [] (zL xb hc1 x1 y2 y3 (zP hc2 x2 k2 k3)) ?_
          refine zr rfl (fun hc3=>?_) (fun hc3=>?_)
          ·simp at hc3
           have tb:=hSt.tc
           rw [hp] at tb
           have tb3:=Tl.at (Tl.at tb (i:=d) (by omega) hAt) (i:=t) (by omega) hAt2
           obtain ⟨j1,j2,j3⟩:=Tl.range tb3
           obtain ⟨r3,⟨kk,rfl⟩,e3,c3,m1,m2⟩:=Tl.cell tb3 (i:=i*2+1) (by omega)
           have m3:=(List.getElem?_eq_some_iff.1 m2).1
           have x3:=fun obs=>(zH (S:=T) (obs:=obs) (nx:=D.n) (i:=o3) (by omega)).trans m1
           have hnn:¬D.n<=o3:=by omega
           have hsp:=ZaJ c3 (i*2+1) (I 98) m3
           refine zh (za (zi (ze [] (zL xb hc1 x1 y2 y3 (zn (zL hc2 x2 k2 k3 hc3 x3) (zn hnn hsp))) ?_)))
           refine ⟨by omega,?_⟩
           refine zb ?_
           exact zq (i+1,T.set o3 (.cells w3 e3 (c3.set (i*2+1) (I 98)))) [] ⟨hc3,hSt.setC hOr m1 m2 j1 j2,hAt.set m1 m2 (fun _ h=>by cases h),hAt2.set m1 m2 (fun _ h=>by cases h)⟩ (by simp;omega) (by simp [zt i (by omega)]) rfl (by simp)
          ·simp at hc3
           refine zu (zb ?_)
           exact zq (t+1,T) [] ⟨hc2,hSt,hAt⟩ (by simp;omega) (by simp [zt t (by omega)]) rfl (by simp)
        ·simp at hc2
         refine zu (zb ?_)
         exact zq (d+1,T) [] ⟨hc1,hSt⟩ (by simp;omega) (by simp [zt d (by omega)]) rfl (by simp)
      ·simp at hc1
       exact zu (zD T [] hSt (by simp) rfl (by simp))
    ·clear hSt
     clear T
     intro T hSt
     have x2:=fun obs=>(zH (S:=T) (obs:=obs) (nx:=D.n) (i:=D.i2) (by omega)).trans hSt.p
     have x3:=fun obs=>(zH (S:=T) (obs:=obs) (nx:=D.n) (i:=D.i3) (by omega)).trans hSt.k
     rw [hDp] at x2 x3
     refine za (ze [(3,184)] (zn x2 x3) ?_)
     refine qZ [(3,184)] hS (zn x2 x3) ?_
     refine qZ [(3,184)] hlv trivial ?_
     refine zg ⟨_,S,rfl,⟨by simp [zp],rfl⟩,fun o=>?_⟩
     rcases Nat.lt_or_ge o nx with ho | ho
     ·exact .inl (by rw [zH (by omega),hSt.old o (by omega),hDS])
     ·exact .inr (hd o ho)
end Go.Proofs.YtcnbiofjmioaiaaGreat.Pv
namespace Go.Proofs.YtcnbiofjmioaiaaGreat
open Go Go.ChangeShapes Go.WideShapes Go.ChangeAt Go.RowKit Pv
theorem ZnP {H:Type} {enc:TypeId × Value->H} {P:Program} {w:World} {base:Nat} {spare:Nat->Bool} {held:Bool} {t0 t1 t2 t3 t4:TypeId} {args:Array Value} {ds:List (DataW H)} {ps:List MemPlace} (h:DataW.TrodAll enc P w base spare held [t0,t1,t2,t3,t4] args.toList ds ps) :
  ∃v0 v1 v2 v3 v4 d0 d1 d2 d3 d4 p0 p1 p2 p3 p4,args=#[v0,v1,v2,v3,v4]/\ds=[d0,d1,d2,d3,d4]/\ps=p0++p1++p2++p3++p4/\DataW.Trod enc P w base spare held t0 v0 d0 p0/\DataW.Trod enc P w base spare held t1 v1 d1 p1/\DataW.Trod enc P w base spare held t2 v2 d2 p2/\DataW.Trod enc P w base spare held t3 v3 d3 p3/\DataW.Trod enc P w base spare held t4 v4 d4 p4:=by
 obtain ⟨v0,vs0,d0,ds0,p0,q0,hargs,rfl,rfl,h0,r0⟩:=trodAll_cons h
 obtain ⟨v1,vs1,d1,ds1,p1,q1,rfl,rfl,rfl,h1,r1⟩:=trodAll_cons r0
 obtain ⟨v2,vs2,d2,ds2,p2,q2,rfl,rfl,rfl,h2,r2⟩:=trodAll_cons r1
 obtain ⟨v3,vs3,d3,ds3,p3,q3,rfl,rfl,rfl,h3,r3⟩:=trodAll_cons r2
 obtain ⟨v4,vs4,d4,ds4,p4,q4,rfl,rfl,rfl,h4,r4⟩:=trodAll_cons r3
 obtain ⟨rfl,rfl,rfl⟩:=trodAll_nil r4
 exact ⟨v0,v1,v2,v3,v4,d0,d1,d2,d3,d4,p0,p1,p2,p3,p4,by cases args;simp_all,rfl,by simp,h0,h1,h2,h3,h4⟩
theorem ZnQ (os:Os) (started:os.Started) (H:Type) (enc:TypeId × Value->H) :
  ReturnsInHanded {} Tryz.checked os 8 .any (Rows.horizonOwnsSpec.pre6 enc Tryz.prog Tryz.f8 Rows.horizonOwnsRow.domain false) (Rows.horizonOwnsSpec.post enc Tryz.prog Tryz.f8 false true false false):=by
 refine returnsInHanded_of_change (C:=Tryz.checked) Zgm started (by kernel_rfl) Tryz.func8
  (ChangeSpec.witness6 (enc:=enc) (C:=Tryz.checked) false ⟨#[],#[.agg #[.int .i64 0,.int .i64 0,.int .i64 0,.int .i64 0,.slice none 0 0,.slice none 0 0],.slice none 0 0,.slice none 0 0,.int .i64 0,.int .i64 0],[]⟩ 8 (by kernel_rfl) (by kernel_rfl) (by kernel_rfl) (by kernel_rfl)) ?_
 intro W base args ds gs before hval0 hW hcnd _
 have hval:∀(j:Nat) t v,Tryz.f8.params[j]?=some t->args[j]?=some v->Value.okWide Tryz.prog W .any base t v:=hval0
 have hW':=hW
 obtain ⟨p,q,hA0,hV,rfl,hfz,hnd⟩:=hW
 have hA:DataW.TrodAll enc Tryz.prog W 0 (fun _=>true) true Tryz.f8.params.toList args.toList ds p:=hA0
 rw [Tryz.params8] at hA hval
 obtain ⟨v0,v1,v2,v3,v4,d0,d1,d2,d3,d4,p0,p1,p2,p3,p4,rfl,rfl,rfl,h0,h1,h2,h3,h4⟩:=ZnP hA
 obtain ⟨rfl,rfl⟩:=trodVars_none hV
 obtain ⟨c0,rfl,_⟩:=okWide_struct Tryz.underlying25 (hval 0 _ v0 rfl rfl)
 obtain ⟨a0,k0,r0⟩:=Zgl (ZgW W) h0
 obtain ⟨b1,n1,m1,rfl⟩:=okWide_slice Tryz.underlying45 (hval 1 _ v1 rfl rfl)
 obtain ⟨a1,k1,r1⟩:=J7 (ZgY W) rfl h1
 have r1:=r1 _ rfl
 obtain ⟨b2,n2,m2,rfl⟩:=okWide_slice Tryz.underlying46 (hval 2 _ v2 rfl rfl)
 obtain ⟨a2,k2,r2⟩:=J7 (ZgX W) rfl h2
 have r2:=r2 _ rfl
 obtain ⟨z3,rfl⟩:=okWide_int Tryz.underlying3 (hval 3 _ v3 rfl rfl)
 obtain ⟨a3,k3,r3⟩:=J7 ((xP Tryz.underlying3:wH Tryz.prog W 3 Int zR)) rfl h3
 have r3:=r3 _ rfl
 obtain ⟨z4,rfl⟩:=okWide_int Tryz.underlying3 (hval 4 _ v4 rfl rfl)
 obtain ⟨a4,k4,r4⟩:=J7 ((xP Tryz.underlying3:wH Tryz.prog W 3 Int zR)) rfl h4
 have r4:=r4 _ rfl
 refine (Zgo ((ZnO a0 a1 a2 a3 a4 k0 k1.2)) rfl (fun i c v hc hv=>?_)).mono fun e W' hq=>?_
 ·match i with
  | 0=>cases hc;cases hv;exact r0
  | 1=>cases hc;cases hv;exact r1
  | 2=>cases hc;cases hv;exact r2
  | 3=>cases hc;cases hv;exact r3
  | 4=>cases hc;cases hv;exact r4
  | i+5=>cases hc
 exact ⟨_,hq.1,Zgp rfl rfl (of_decide_eq_true (by kernel_rfl)) hW' rfl rfl rfl hq.2⟩
theorem ZnR:Rows.horizonOwnsRow.wf (OpenSpec.ofChange Rows.horizonOwnsSpec)=true:=by kernel_rfl
theorem ZnS:Tryz.f8.params.all (Tryz.pinned.checked.prog.readableRec ·)=true:=by kernel_rfl
theorem ZnT:namedTie Tryz.pinned.checked.prog Rows.horizonOwnsRow.named Rows.horizonOwnsSpec.vars=true:=by kernel_rfl
theorem ZnU:(Rows.horizonOwnsRow.inPlace == Tryz.pinned.checked.prog.inPlace 8)=true:=by kernel_rfl
theorem ZnV:(Rows.horizonOwnsRow.unfollowed == Tryz.pinned.checked.prog.unfollowed 8)=true:=by kernel_rfl
theorem ZnW:(Rows.horizonOwnsRow.recurses == Tryz.pinned.checked.prog.recurses 8)=true:=by kernel_rfl
theorem ZnX:(Rows.horizonOwnsRow.named == Tryz.pinned.checked.prog.varsNamed 8)=true:=by kernel_rfl
theorem ZnY:(Rows.horizonOwnsRow.maps == (Tryz.f8.params.toList++Rows.horizonOwnsSpec.plain.varTypes Tryz.pinned.checked.prog).any (Tryz.pinned.checked.prog.mapsRec ·))=true:=by kernel_rfl
theorem ZnZ:(Rows.horizonOwnsRow.ifaces == (Tryz.f8.params.toList++Rows.horizonOwnsSpec.plain.varTypes Tryz.pinned.checked.prog).any (Tryz.pinned.checked.prog.ifacesRec ·))=true:=by kernel_rfl
theorem Zn0:(Rows.horizonOwnsRow.mapsOut == Tryz.pinned.checked.prog.mapsAmong Tryz.f8.resultTypes.toList)=true:=by kernel_rfl
theorem Zn1:(Rows.horizonOwnsRow.loops == (Tryz.f8.params.toList++Rows.horizonOwnsSpec.plain.varTypes Tryz.pinned.checked.prog).any (Tryz.pinned.checked.prog.loopsFrom ·))=true:=by kernel_rfl
theorem Zn2:(Rows.horizonOwnsRow.wideKeys == (Tryz.f8.params.toList++Rows.horizonOwnsSpec.plain.varTypes Tryz.pinned.checked.prog++Tryz.f8.resultTypes.toList).any (Tryz.pinned.checked.prog.wideKeysFrom ·))=true:=by kernel_rfl
theorem Zn3:Rows.horizonOwnsSpec.vars.all (Tryz.pinned.checked.prog.varReadable ·)=true:=by kernel_rfl
theorem Zn4:Tryz.f8.resultTypes.all (fun t=>Tryz.pinned.checked.prog.readableRec t && decide (t<Tryz.pinned.checked.prog.types.size))=true:=by kernel_rfl
theorem Zn5:(Rows.horizonOwnsRow.ifacesOut == Tryz.f8.resultTypes.toList.any (Tryz.pinned.checked.prog.ifacesRec ·))=true:=by kernel_rfl
theorem Zn6:(Rows.horizonOwnsRow.loopsOut == Tryz.f8.resultTypes.toList.any (Tryz.pinned.checked.prog.loopsFrom ·))=true:=by kernel_rfl
theorem Zn7:(Rows.horizonOwnsRow.plainKeys == Tryz.pinned.checked.prog.plainKeys)=true:=by kernel_rfl
theorem Zn8:(Rows.horizonOwnsRow.lifted == Tryz.pinned.checked.prog.liftsFinal)=true:=by kernel_rfl
theorem Zn9:(Tryz.pinned.checked.prog.make == some Rows.horizonOwnsRow.make)=true:=by kernel_rfl
theorem Zoa:(Rows.horizonOwnsRow.kinds == (if Rows.horizonOwnsRow.domain.isEmpty then [] else Tryz.f8.params.toList.map fun t=>match Tryz.pinned.checked.prog.underlying t with | some (.int k)=>some k | _=>none))=true:=by kernel_rfl
theorem Zob:(Rows.horizonOwnsRow.veiled == (Tryz.f8.params.toList++Rows.horizonOwnsSpec.plain.varTypes Tryz.pinned.checked.prog++Tryz.f8.resultTypes.toList).any (Tryz.pinned.checked.prog.veiledRec ·))=true:=by kernel_rfl
theorem Zoc:Rows.horizonOwnsRow.veiledFits Tryz.pinned.checked.prog Tryz.f8.params.toList (Tryz.f8.params.toList++Rows.horizonOwnsSpec.plain.varTypes Tryz.pinned.checked.prog++Tryz.f8.resultTypes.toList)=true:=by kernel_rfl
theorem Zod:Tryz.pinned.checked.prog.funcNamed Rows.horizonOwnsRow.func=some 8:=by kernel_rfl
theorem Zoe:Tryz.f8.isInstance Tryz.pinned.checked.prog Rows.horizonOwnsRow.origin Rows.horizonOwnsRow.targs:=of_decide_eq_true (by kernel_rfl)
theorem Zof:Tryz.f8.isWrapper Tryz.pinned.checked.prog Rows.horizonOwnsRow.wrapper Rows.horizonOwnsRow.mainSum:=by unfold Func.isWrapper;first | (rw [if_pos (by decide +kernel)];kernel_rfl) | (rw [if_neg (by decide +kernel)];exact ⟨rfl,rfl⟩)
theorem horizonOwns_holds:Rows.HorizonOwnsSaid :=
 OpenClaim.holds_of_wide 8 Tryz.f8 rfl rfl rfl rfl rfl rfl rfl ⟨rfl,rfl,rfl,rfl,rfl⟩ rfl rfl rfl rfl rfl Zod Tryz.func8 (Zgq ZnR Zgr Zgs ZnS ZnT rfl Zgt rfl Zgu ZnU ZnV ZnW ZnX ZnY ZnZ Zn0 Zn1 Zn2 Zn3 Zn4 Zn5 Zn6 Zn7 rfl Zgv Zgw Zn8 Zn9 Zoa rfl Zob Zoc)
  Zoe Zof
  (fun os started H enc _=>ZnQ os started H enc)
end Go.Proofs.YtcnbiofjmioaiaaGreat
