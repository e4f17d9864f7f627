/- Part of a proof, packed. -/
import Derived.Test.YtcnbiofjmioaiaaGreatE2
set_option maxRecDepth 100000
set_option maxHeartbeats 3200000
namespace Go.Proofs.YtcnbiofjmioaiaaGreat.Pv
open Go
def yQ (x:Inst):Int->List Int->Int
 | a,[]=>arc x a 0
 | a,c :: l=>arc x a (c+1)+yQ x (c+1) l
def yc (x:Inst) (l:List Int):Int:=if l=[] then 0 else yQ x 0 l
def small (c:Int):Prop:=-4611686018427387904<=c/\c<=4611686018427387904
theorem vu {c:Int} (h:small c):IntKind.i64.wrap (c+1)=c+1:=wr _ (by unfold small at h;omega) (by unfold small at h;omega)
theorem ZbT (x:Inst) (l:List Int) (hl:l.length<=1048576) (hs:∀c∈l,small c):Pure Tryz.prog 110 [.agg (zv x),L l] (I (W (yc x l))):=by
 refine zz Tryz.func110 Tryz.ntmps110 Tryz.results110 fun S nx hd=>?_
 refine za (zb ?_)
 intro v0
 repeat apply za
 refine zb ?_
 refine zr rfl (fun hc=>?_) (fun hc=>?_)
 ·simp at hc
  subst hc
  refine za (zb ?_)
  exact zg (zk hd rfl rfl)
 refine zh ?_
 simp at hc
 refine za (zb ?_)
 repeat apply za
 refine zb ?_
 refine zi (zB (fun s:Nat × Int × Int × Nat=>s.1<=l.length/\s.2.1+yQ x s.2.2.1 (l.drop s.1)=yQ x 0 l) (fun (k,s,at',v)=>[(2,.ptr nx v 0),(5,I (W s)),(6,I at'),(12,L l),(13,I l.length),(14,I k)])
  (fun (k,s,at',v)=>[.cells v 25 (zv x)]) (fun s=>l.length-s.1) (0,0,0,v0) [] (by simp) (by simp) (by simp) ?_)
 rintro ⟨k,s,at',v⟩ ⟨hk,ho⟩
 simp only at hk ho ⊢
 refine za (zb ?_)
 refine za (zr rfl (fun hq=>?_) (fun hq=>?_))
 ·simp at hq
  obtain ⟨c,tl,a1,a2,a3,e0⟩:=zC rfl l k hq
  have hw:=vu (hs c (List.mem_of_getElem? a1))
  rw [a2] at ho
  refine zh (za (zi (za (ze [] (zn hq e0) ?_))))
  refine za (ze [] hw ?_)
  refine qZ [] (wI _ _ _) hw ?_
  refine ze [] hw ?_
  refine zb ?_
  exact zq (k+1,s+arc x at' (c+1),c+1,v) [] (by simp only [yQ] at ho;exact ⟨by omega,by rw [<-ho];simp;omega⟩) (by simp;omega) (by simp [zt k (by omega),xO,hw]) rfl (by simp)
 ·simp at hq
  refine zu (za (zb ?_))
  refine zA (wI _ _ _) ?_
  rw [List.drop_of_length_le hq] at ho
  exact zg (zk hd rfl (by simp only [yc,if_neg hc,<-ho,yQ,zp];simp [xO]))
theorem ZgP (x:Inst) (l:List Int) (hl:l.length<=1048576) (hs:∀c∈l,small c):Pure Tryz.prog 77 [.agg (zv x),L l] (I (W (yc x l))):=by
 refine zz Tryz.func77 Tryz.ntmps77 Tryz.results77 fun S nx hd=>?_
 refine za (zb ?_)
 intro v0
 repeat apply za
 refine zb ?_
 refine zr rfl (fun hc=>?_) (fun hc=>?_)
 ·simp at hc
  subst hc
  refine za (zb ?_)
  exact zg (zk hd rfl rfl)
 refine zh ?_
 simp at hc
 cases l with
 | nil=>exact absurd rfl hc
 | cons c0 l0 =>
 have hw0:=vu (hs c0 (by simp))
 obtain ⟨cl,tl,a1,a2,a3,e0⟩:=zC rfl (c0 :: l0) l0.length (by simp)
 simp only [List.flatMap_cons,Zf3,List.singleton_append,List.cons_append,List.nil_append] at e0
 have lt1:(l0.length:Int)<l0.length+1:=by omega
 have hwl:=vu (hs cl (List.mem_of_getElem? a1))
 have wl:IntKind.i64.wrap (l0.length:Int)=(l0.length:Int):=wr _ (by omega) (by simp at hl;omega)
 refine za (zF none (Row.pures [0,1,2,3,4,5,6,7,8,9,10,11,12,13,14,15,16] .done) mixed (yD hw0 wl e0 hwl lt1) ?_)
 refine zN (Xa _ _ _) (yD hw0 wl e0 hwl lt1) ?_
 refine zN (Xa _ _ _) (yD hw0 wl e0 hwl lt1) ?_
 repeat apply za
 refine zb ?_
 generalize hll:c0 :: l0=l at *
 have hlen:l.length=l0.length+1:=by rw [<-hll];rfl
 have hL:(PV.lst (l0.length+1) (I c0 :: l0.flatMap Enc.enc))=L l:=by rw [<-hll];rfl
 refine zi (zB (fun s:Nat × Int × Int × Nat=>s.1+1<=l.length/\l[s.1]?=some s.2.2.1/\s.2.1+yQ x (s.2.2.1+1) (l.drop (s.1+1))=yQ x 0 l+arc x (cl+1) 0) (fun (j,s,p,v)=>[(1,L l),(2,.ptr nx v 0),(5,I (W s)),(6,I ((j+1:Nat):Int))])
  (fun (j,s,p,v)=>[.cells v 25 (zv x)]) (fun s=>l.length-s.1) (0,arc x 0 (c0+1)+arc x (cl+1) 0,c0,v0) [] (by rw [<-hll];simp [yQ];omega) (by simp [hL]) (by simp) ?_)
 rintro ⟨j,s,p,v⟩ ⟨hk,hp,ho⟩
 simp only at hk ho hp ⊢
 repeat apply za
 refine zb ?_
 refine zr rfl (fun hq=>?_) (fun hq=>?_)
 ·simp at hq
  have hq':j+1<l.length:=by omega
  obtain ⟨c,tl1,b1,b2,b3,e1⟩:=zC rfl l (j+1) hq'
  obtain ⟨p',tl2,d1,d2,d3,e2⟩:=zC rfl l j (by omega)
  rw [hp] at d1;cases d1
  have hwc:=vu (hs c (List.mem_of_getElem? b1))
  have hwp:=vu (hs p (List.mem_of_getElem? hp))
  have wj:IntKind.i64.wrap (j:Int)=j:=wr _ (by omega) (by omega)
  have g1:(j:Int)<l.length:=by omega
  have g2:(j:Int)+1<l.length:=by omega
  have g3:0<=(j:Int)+1:=by omega
  rw [b2] at ho
  refine zh (za (zi (zF none (Row.pures [0,1,2,3,4,5,6,7,8,9,10,11,12,13,14,15] .done) mixed (zL hwc hwp wj e1 e2 (zE g1 g2 g3)) ?_)))
  refine zN (Xa _ _ _) (zn hwc hwp) ?_
  have w2:IntKind.i64.wrap ((j:Int)+1+1)=((j+1+1:Nat):Int):=by rw [wr _ (by omega) (by omega)];omega
  refine zb ?_
  exact zq (j+1,s+arc x (p+1) (c+1),c,v) [] (by simp only [yQ] at ho;exact ⟨by omega,b1,by rw [<-ho];simp;omega⟩) (by simp;omega) (by simp [w2,xO]) rfl (by simp)
 ·simp at hq
  refine zu (za (zb ?_))
  rw [List.drop_of_length_le (by omega)] at ho
  have hpc:p=cl:=by
   have:j=l0.length:=by omega
   subst this;rw [hp] at a1;cases a1;rfl
  subst hpc
  have hs':s=yQ x 0 l:=by simp only [yQ] at ho;omega
  exact zg (zk hd rfl (by simp [yc,hc,hs']))
open Go
def xR (x:Inst) (n a:Nat):List Int:=(List.range (n+1)).map fun b=>if a≠b then yA (arc x a b) 0 60 else 0
def yp (x:Inst):Inst :=
 ⟨yA x.days 1 7,yA x.veh 0 5,yA x.cap 0 40,yA x.len 0 300,(x.cust.take 6).map fun c=>jo c (yA x.days 1 7),(List.range ((x.cust.take 6).length+1)).map fun a=>xR x (x.cust.take 6).length a⟩
structure InstOk (x:Inst):Prop where
 days:zR x.days
 veh:zR x.veh
 cap:zR x.cap
 len:zR x.len
 ncust:x.cust.length<=9223372036854775807
 cust:∀c∈x.cust,CustOk c
 ndist:x.dist.length<=9223372036854775807
 dist:∀r∈x.dist,r.length<=9223372036854775807/\∀d∈r,zR d
theorem ZgQ {x:Inst} (hx:InstOk x) (a b:Int):zR (arc x a b):=by
 unfold arc
 split
 ·unfold zR;omega
 ·rw [List.getD_eq_getElem?_getD,List.getD_eq_getElem?_getD]
  cases hr:x.dist[a.toNat]? with
  | none=>simp [zR]
  | some r =>
   cases hd:r[b.toNat]? with
   | none=>simp [hd,zR]
   | some d =>
    simp only [Option.getD_some,hd]
    exact (hx.dist r (List.mem_of_getElem? hr)).2 d (List.mem_of_getElem? hd)
def jJ (x:Inst) (n a k:Nat):List Int:=(List.range (n+1)).map fun b=>if b<k then (if a≠b then yA (arc x a b) 0 60 else 0) else 0
theorem ZbU (x:Inst) (n a k:Nat):(jJ x n a k).length=n+1:=by simp [jJ]
theorem ZgR (x:Inst) (n a:Nat):jJ x n a 0=List.replicate (n+1) 0:=by
 apply List.ext_getElem
 ·simp [jJ]
 ·intro i h1 h2;simp only [List.getElem_replicate];simp [jJ]
theorem ZbV (x:Inst) (n a:Nat):jJ x n a (n+1)=xR x n a:=by
 apply List.ext_getElem
 ·simp [jJ,xR]
 ·intro i h1 h2
  simp [jJ] at h1
  simp [jJ,xR,h1]
theorem ZgS (x:Inst) (n a k:Nat) (h:k<=n) (hne:a≠k):(jJ x n a k).set k (yA (arc x a k) 0 60)=jJ x n a (k+1):=by
 apply List.ext_getElem
 ·simp [jJ]
 ·intro i h1 h2
  rw [List.getElem_set]
  simp only [jJ,List.getElem_map,List.getElem_range]
  split
  ·rename_i e;subst e;simp [hne]
  ·rename_i e
   by_cases q:i<k
   ·simp [q,show i<k+1 by omega]
   ·simp [q,show ¬i<k+1 by omega]
theorem ZgT (x:Inst) (n k:Nat):jJ x n k k=jJ x n k (k+1):=by
 apply List.ext_getElem
 ·simp [jJ]
 ·intro i h1 h2
  simp only [jJ,List.getElem_map,List.getElem_range]
  by_cases q:i<k
  ·simp [q,show i<k+1 by omega]
  ·by_cases e:i=k
   ·subst e;simp
   ·simp [q,show ¬i<k+1 by omega]
abbrev Xb (x:Inst) (v0 v1 v2:Nat) (cs ds:PV):List Ob :=
 [.cells v0 25 (zv x),.cells v1 25 [I 0,I 0,I 0,I 0,.sc (.slice none 0 0),.sc (.slice none 0 0)],.cells v2 25 [I (yA x.days 1 7),I (yA x.veh 0 5),I (yA x.cap 0 40),I (yA x.len 0 300),cs,ds]]
theorem ZgU (x:Inst) (hx:InstOk x):Pure Tryz.prog 12 [.agg (zv x)] (.agg (zv (yp x))):=by
 have hd7:=j9 x.days 1 7 (by omega)
 have hnc:=hx.ncust
 refine zz Tryz.func12 Tryz.ntmps12 Tryz.results12 fun S nx hd=>?_
 refine za (zb ?_)
 intro v0 v1
 refine za (zF (some [nx]) (Row.pures [0,1,2,3,4,5,6,7,8,9,10,11,12] (.alt 13 (.alt 14 (.done) .stop) .stop)) mixed trivial ?_)
 refine zN (vt _ _ _ hx.days (by omega) (by omega) (by omega)) trivial ?_
 refine zN (vt _ _ _ hx.veh (by omega) (by omega) (by omega)) trivial ?_
 refine zN (vt _ _ _ hx.cap (by omega) (by omega) (by omega)) trivial ?_
 refine zN (vt _ _ _ hx.len (by omega) (by omega) (by omega)) trivial ?_
 intro v2
 refine za (y8 2 4 65 8 rfl rfl fun v3=>?_)
 refine za (zb ?_)
 have hdz:yA x.days 1 7<=63:=by omega
 generalize hdy:yA x.days 1 7=dz at *
 refine yk (nx:=nx) (σ:=Nat × Nat × Nat × Nat) (fun _=>True) (fun (v0,v1,v2,v3)=>[(1,.ptr nx v0 0),(2,.ptr (nx+1) v1 0),(3,.ptr (nx+2) v2 0)]) (fun _=>S)
  (fun (v0,v1,v2,v3)=>Xb x v0 v1 v2 (.sl (nx+3) v3 8 0 ((x.cust.take 6).map fun c=>jo c dz).length) (.sc (.slice none 0 0))++[.cells v3 65 (((x.cust.take 6).map fun c=>jo c dz).flatMap Enc.enc)]) ?_ ?_
 ·repeat apply za
  refine zi (zB (fun s:Nat × List Cust × Nat × Nat × Nat × Nat=>s.1<=x.cust.length/\s.1<=6/\s.2.1=(x.cust.take s.1).map fun c=>jo c dz) (fun (k,out,v0,v1,v2,v3)=>[(1,.ptr nx v0 0),(2,.ptr (nx+1) v1 0),(3,.ptr (nx+2) v2 0),(4,I k)])
   (fun (k,out,v0,v1,v2,v3)=>Xb x v0 v1 v2 (.sl (nx+3) v3 8 0 out.length) (.sc (.slice none 0 0))++[.cells v3 65 (out.flatMap Enc.enc)]) (fun s=>6-s.1) (0,[],v0,v1,v2,v3) [] (by simp) (by simp) (by simp [hdy]) ?_)
  rintro ⟨k,out,v0,v1,v2,v3⟩ ⟨hk1,hk6,ho⟩
  simp only at hk1 hk6 ho ⊢
  have hol:out.length=k:=by rw [ho];simp;omega
  have fin:(k=x.cust.length\/k=6)->out=(x.cust.take 6).map fun c=>jo c dz:=by
   rintro (q | q)
   ·rw [ho,List.take_of_length_le (by omega),List.take_of_length_le (by omega)]
   ·rw [ho,q]
  by_cases hq1:k<x.cust.length
  ·by_cases hq2:(k:Int)<6
   ·repeat apply za
    refine ze [(5,27)] (zn hq1 hq2) ?_
    refine zm rfl ?_
    obtain ⟨c,tl,a1,a2,a3,e1,e0⟩:=el 8 rfl x.cust k hq1
    have hc:=hx.cust c (List.mem_of_getElem? a1)
    refine zh (za (zi (zF (some [nx]) (Row.pures [0,2,3,4,5,6,7] (.alt 1 (.alt 8 (Row.pures [9,10] (.alt 11 (Row.pures [12] (.alt 13 (.done) .stop)) .stop)) .stop) (.alt 8 (Row.pures [9,10] (.alt 1 (.alt 11 (Row.pures [12] (.alt 13 (.done) .stop)) .stop) .stop)) .stop))) mixed (zE hq1 e0 hdy) ?_)))
    have w1:=zt k (by omega)
    refine ⟨?_,?_⟩
    all_goals
     refine zN (ZgO c dz hc (by omega) hdz) trivial ?_
     refine ⟨by omega,?_⟩
     refine zb ?_
     exact zq (k+1,out++[jo c dz],v0,v1,v2,v3+1) [] (by simp [ZbO _ a3,ho];omega) (by simp;omega) (by simp [w1]) rfl (by simp [hdy])
   ·repeat apply za
    refine ze [(5,27)] (zn hq1 hq2) ?_
    refine zo rfl ?_
    have hk:=fin (.inr (by omega))
    exact zu (zD (v0,v1,v2,v3) [] trivial (by simp) rfl (by simp only [<-hk];simp))
  ·repeat apply za
   refine ze [(5,27)] (zn hq1 zx) ?_
   refine zo rfl ?_
   have hk:=fin (.inl (by omega))
   exact zu (zD (v0,v1,v2,v3) [] trivial (by simp) rfl (by simp only [<-hk];simp))
 ·rintro ⟨v0,v1,v2,v3⟩ -
  simp only
  have hg:yp x=⟨dz,yA x.veh 0 5,yA x.cap 0 40,yA x.len 0 300,(x.cust.take 6).map fun c=>jo c dz,(List.range ((x.cust.take 6).length+1)).map fun a=>xR x (x.cust.take 6).length a⟩:=by unfold yp;rw [hdy]
  have hcl:((x.cust.take 6).map fun c=>jo c dz).length=(x.cust.take 6).length:=by simp
  have hn6:(x.cust.take 6).length<=6:=by simp;omega
  rw [hg]
  rw [<-hcl] at hn6 ⊢
  generalize (x.cust.take 6).map (fun c=>jo c dz)=cs at *
  refine za (zb ?_)
  refine za (y8 2 5 45 1 rfl rfl fun v4=>?_)
  refine za (zb ?_)
  have w0:IntKind.i64.wrap ((cs.length:Int)+1)=((cs.length+1:Nat):Int):=zt _ (by omega)
  refine zi (zB (fun s:Nat × List (List Int) × Nat × Nat × Nat × Nat × Nat=>s.1<=cs.length+1/\s.2.1=(List.range s.1).map fun a=>xR x cs.length a) (fun (a,out,v0,v1,v2,v3,v4)=>[(1,.ptr nx v0 0),(2,.ptr (nx+1) v1 0),(3,.ptr (nx+2) v2 0),(5,I cs.length),(6,I a)])
   (fun (a,out,v0,v1,v2,v3,v4)=>Xb x v0 v1 v2 (.sl (nx+3) v3 8 0 cs.length) (.sl (nx+4) v4 1 0 out.length)++[.cells v3 65 (cs.flatMap Enc.enc),.cells v4 45 (out.flatMap Enc.enc)]) (fun s=>cs.length+1-s.1) (0,[],v0,v1,v2,v3,v4) [] (by simp) (by simp) (by simp [hdy]) ?_)
  rintro ⟨a,out,v0,v1,v2,v3,v4⟩ ⟨ha,ho⟩
  simp only at ha ho ⊢
  have hol:out.length=a:=by rw [ho];simp
  repeat apply za
  refine zb ?_
  refine zr rfl (fun hc=>?_) (fun hc=>?_)
  ·simp at hc
   refine zh (za (zi (za (ze [] w0 ?_))))
   refine ⟨by omega,fun v5=>?_⟩
   repeat apply za
   refine zb ?_
   refine zi (zB (fun s:Nat × Nat × Nat × Nat × Nat × Nat × Nat=>s.1<=cs.length+1) (fun (b,v0,v1,v2,v3,v4,v5)=>[(1,.ptr nx v0 0),(2,.ptr (nx+1) v1 0),(3,.ptr (nx+2) v2 0),(5,I cs.length),(6,I a),(7,.sl (nx+5) v5 1 0 (cs.length+1)),(8,I b)])
    (fun (b,v0,v1,v2,v3,v4,v5)=>Xb x v0 v1 v2 (.sl (nx+3) v3 8 0 cs.length) (.sl (nx+4) v4 1 0 out.length)++[.cells v3 65 (cs.flatMap Enc.enc),.cells v4 45 (out.flatMap Enc.enc),.cells v5 3 ((jJ x cs.length a b).flatMap Enc.enc)]) (fun s=>cs.length+1-s.1) (0,v0,v1,v2,v3,v4,v5) [] (by simp) (by simp) (by simp [hdy,ZgR,WL]) ?_)
   rintro ⟨b,v0,v1,v2,v3,v4,v5⟩ hb
   simp only at hb ⊢
   repeat apply za
   refine zb ?_
   refine zr rfl (fun hc2=>?_) (fun hc2=>?_)
   ·simp at hc2
    have hrl:=ZbU x cs.length a b
    have hsp:=J8 (jJ x cs.length a b) b (yA (arc x a b) 0 60) (by omega)
    have g1:(b:Int)<cs.length+1:=by omega
    refine zh (za (zi (za (zb ?_))))
    by_cases hab:a=b
    ·subst hab
     refine zo (by simp) ?_
     refine zh (zb ?_)
     exact zq (a+1,v0,v1,v2,v3,v4,v5) [] (by simp;omega) (by simp;omega) (by simp [zt a (by omega)]) rfl (by simp [hdy,ZgT])
    ·have hab':((a:Int) != b)=true:=by simp;omega
     refine zm (by simp;omega) ?_
     refine zb ?_
     refine zA (Xa x a b) ?_
     refine qZ [] (vt _ _ _ (ZgQ hx _ _) (by omega) (by omega) (by omega)) (zE g1 hsp hrl) ?_
     refine ⟨by omega,?_⟩
     refine zb ?_
     exact zq (b+1,v0,v1,v2,v3,v4,v5) [] (by simp;omega) (by simp;omega) (by simp [zt b (by omega)]) rfl (by simp [hdy,ZgS x _ _ _ (show b<=cs.length by omega) hab])
   ·simp at hc2
    have hb':b=cs.length+1:=by omega
    subst hb'
    refine zu ?_
    have hrl:=ZbU x cs.length a (cs.length+1)
    refine zX 5 rfl ?_
    refine ze [] hrl ?_
    refine ⟨by omega,?_⟩
    refine zb ?_
    have hgl:(xR x cs.length a).length=cs.length+1:=by rw [<-ZbV,hrl]
    exact zq (a+1,out++[xR x cs.length a],v0,v1,v2,v3,v4+1) [.dead] (by simp [List.range_succ,ho];omega) (by simp;omega) (by simp [zt a (by omega)]) rfl (by simp [hdy,ZbV,hgl])
  ·simp at hc
   have ha':a=cs.length+1:=by omega
   subst ha'
   refine zu (za (zb ?_))
   refine zX 3 rfl ?_
   refine zX 4 rfl ?_
   exact zg (zk hd (by simp;rfl) (by simp [ho,hdy]))
open Go
theorem ZgV (w:World):wH Tryz.prog w 65 Cust CustOk:=by
 intro H enc fuel cs x h
 obtain ⟨hl,n,hf⟩:=ZbE Tryz.underlying65 h
 simp only [c65] at hl
 match cs,hl with
 | [v0,v1,v2,v3,v4,v5,v6,v7],_ =>
  obtain ⟨y0,h0⟩:=hf 0 _ rfl
  obtain ⟨y1,h1⟩:=hf 1 _ rfl
  obtain ⟨y2,h2⟩:=hf 2 _ rfl
  obtain ⟨y3,h3⟩:=hf 3 _ rfl
  obtain ⟨y4,h4⟩:=hf 4 _ rfl
  obtain ⟨y5,h5⟩:=hf 5 _ rfl
  obtain ⟨y6,h6⟩:=hf 6 _ rfl
  obtain ⟨y7,h7⟩:=hf 7 _ rfl
  simp at h0 h1 h2 h3 h4 h5 h6 h7
  obtain ⟨z0,k0,r0⟩:=xP Tryz.underlying3 H enc n _ _ h0
  obtain ⟨z1,k1,r1⟩:=xP Tryz.underlying3 H enc n _ _ h1
  obtain ⟨z2,k2,r2⟩:=YH (α:=Nat) Tryz.underlying63 (by simp;rfl) (by decide) (Zgh Tryz.underlying93) H enc n _ _ h2
  obtain ⟨z3,k3,r3⟩:=xP Tryz.underlying3 H enc n _ _ h3
  obtain ⟨z4,k4,r4⟩:=xP Tryz.underlying3 H enc n _ _ h4
  obtain ⟨z5,k5,r5⟩:=xP Tryz.underlying3 H enc n _ _ h5
  obtain ⟨z6,k6,r6⟩:=xP Tryz.underlying3 H enc n _ _ h6
  obtain ⟨z7,k7,r7⟩:=xP Tryz.underlying3 H enc n _ _ h7
  exact ⟨⟨z0,z1,z2,z3,z4,z5,z6,z7⟩,⟨k0,k1,k2.2,k2.1,k3,k4,k5,k6,k7⟩,
   wY (vs:=[v0]) r0 (wY (vs:=[v1]) r1 (wY (vs:=[v2]) r2 (wY (vs:=[v3]) r3 (wY (vs:=[v4]) r4 (wY (vs:=[v5]) r5 (wY (vs:=[v6]) (us:=[v7]) r6 r7))))))⟩
instance:Enc Inst:=⟨zv,6,fun _=>rfl,fun _=>rfl⟩
theorem ZgW (w:World):wH Tryz.prog w 25 Inst InstOk:=by
 intro H enc fuel cs x h
 obtain ⟨hl,n,hf⟩:=ZbE Tryz.underlying25 h
 simp only [c25] at hl
 match cs,hl with
 | [v0,v1,v2,v3,v4,v5],_ =>
  obtain ⟨y0,h0⟩:=hf 0 _ rfl
  obtain ⟨y1,h1⟩:=hf 1 _ rfl
  obtain ⟨y2,h2⟩:=hf 2 _ rfl
  obtain ⟨y3,h3⟩:=hf 3 _ rfl
  obtain ⟨y4,h4⟩:=hf 4 _ rfl
  obtain ⟨y5,h5⟩:=hf 5 _ rfl
  simp at h0 h1 h2 h3 h4 h5
  obtain ⟨z0,k0,r0⟩:=xP Tryz.underlying3 H enc n _ _ h0
  obtain ⟨z1,k1,r1⟩:=xP Tryz.underlying3 H enc n _ _ h1
  obtain ⟨z2,k2,r2⟩:=xP Tryz.underlying3 H enc n _ _ h2
  obtain ⟨z3,k3,r3⟩:=xP Tryz.underlying3 H enc n _ _ h3
  obtain ⟨z4,k4,r4⟩:=YH (α:=Cust) Tryz.underlying22 (by simp;rfl) (by decide) (ZgV w) H enc n _ _ h4
  obtain ⟨z5,k5,r5⟩:=YH (α:=List Int) Tryz.underlying23 (by simp;rfl) (by decide) (YH (α:=Int) Tryz.underlying45 (by simp;rfl) (by decide) (xP Tryz.underlying3)) H enc n _ _ h5
  exact ⟨⟨z0,z1,z2,z3,z4,z5⟩,⟨k0,k1,k2,k3,k4.1,k4.2,k5.1,k5.2⟩,
   wY (vs:=[v0]) r0 (wY (vs:=[v1]) r1 (wY (vs:=[v2]) r2 (wY (vs:=[v3]) r3 (wY (vs:=[v4]) (us:=[v5]) r4 r5))))⟩
theorem ZgX (w:World):wH Tryz.prog w 46 (List Bool) (fun l=>l.length<=9223372036854775807/\∀s∈l,True):=YH Tryz.underlying46 (by simp;rfl) (by decide) (Zgi Tryz.underlying4)
open Go
theorem ZgY (w:World):wH Tryz.prog w 45 (List Int) (fun l=>l.length<=9223372036854775807/\∀z∈l,zR z):=YH Tryz.underlying45 (by simp;rfl) (by decide) (xP Tryz.underlying3)
open Go
abbrev yK (l:List Int):List Int:=l.mergeSort fun x y=>decide (x<=y)
theorem Zj (l:List Int):(yK l).length=l.length:=List.length_mergeSort l
theorem Xc (l:List Int):l.flatMap Enc.enc=l.map I:=by induction l<;>simp_all
theorem YJ (S:Store) (o:Nat) (x:Ob) (h:S o=x):S.set o x=S:=by
 funext i;simp only [Store.set];split
 ·rename_i e;rw [e,h]
 ·rfl
theorem Z1 {C:Ctx} {S:Store} {w:World} {x:Int} {v:Value} (h:Rel C S w (I x) v):v=.int .i64 x:=by cases h;rfl
theorem WP {vs:Array Value} (h:1=vs.size):∃v,vs=#[v]:=by
 match vs,h with
 | ⟨[v]⟩,_=>exact ⟨v,rfl⟩
theorem Xd {S:Store} {id ver:Nat} (zs:List Int) (hid:S id=.cells ver 3 (zs.flatMap Enc.enc)) (hn:zs.length<=1048576) :
  Spec Tryz.prog 175 [.sl id ver 1 0 zs.length] S (fun p S'=>S'=S.set id (.cells ver 3 ((yK zs).flatMap Enc.enc))):=by
 refine ⟨qn Tryz.func175 (by rfl) rfl,?_⟩
 intro C w vs hS hl hr
 obtain ⟨v,rfl⟩:=WP hl
 have hv:=hr 0 _ v rfl rfl
 cases hv with
 | sl h1 h2 h3 =>
  obtain ⟨a,cap,rfl,q1,q2,q3,q4⟩:=h1
  by_cases h0:zs=[]
  ·subst h0
   refine (Tryz.slices_Sort_int_none a cap w).mono ?_
   rintro e w' ⟨rfl,rfl⟩
   exact ⟨.junk,_,S,C,rfl,by rw [show yK []=[] from by simp [yK]];exact (YJ S id _ hid).symm,.junk _,hS,.refl _ _ _⟩
  ·have hpos:0<zs.length:=List.length_pos_iff.2 h0
   rcases hS.cells id ver _ _ hid with ⟨hn',hnil⟩ | ⟨b,k,c,g1,g2,g3,g4,g5,g6⟩
   ·rw [Xc] at hnil;simp at hnil;exact absurd hnil h0
   ·have ha:a=some ⟨b,0,none⟩:=by
     rcases (h3 ver (by rw [hid];rfl)).2 rfl with ⟨z1,_⟩ | ⟨b',k',a',cap',z1,z2,z3,z4⟩
     ·rw [g1] at z1;cases z1
     ·rw [g1] at z1;cases z1;cases z2;exact (z3 rfl).1
    subst ha
    rw [qY] at g4
    have hcells:∀i,i<zs.length->c[i]?=some (.int .i64 (zs.getD i 0)):=by
     intro i hi
     have hi':i<c.size:=by omega
     have e1:(zs.flatMap Enc.enc)[i]?=some (I (zs.getD i 0)):=by rw [Xc];simp [hi]
     have e2:c[i]?=some c[i]:=by simp
     have:=Z1 (g6 i _ _ e1 e2)
     rw [e2,this]
    have htake:c.toList.take zs.length=zs.map (Value.int .i64):=by
     apply List.ext_getElem?
     intro i
     by_cases hi:i<zs.length
     ·rw [List.getElem?_take_of_lt hi,Array.getElem?_toList,hcells i hi];simp [hi]
     ·rw [List.getElem?_eq_none (by simp;omega),List.getElem?_eq_none (by simp;omega)]
    refine (Tryz.slices_Sort_int b 0 cap zs w (holds_of_blockI g2 htake) (yW g2) (by omega)).mono ?_
    rintro e w' ⟨rfl,n,os,rfl⟩
    have hb':=heap_sortedI (n:=n) (os:=os) (yK zs).toArray g2
    have hlz:=Zj zs
    have hcs:∀i,(Sort.putCells (Value.int .i64) 0 (yK zs).toArray c)[i]?=if i<zs.length then some (.int .i64 ((yK zs).getD i 0)) else c[i]?:=by
     intro i
     by_cases hi:i<zs.length
     ·rw [if_pos hi]
      have:i<c.size:=by omega
      have hi2:i<(yK zs).length:=by omega
      simp [Sort.putCells,hi2,this]
      intro h;omega
     ·rw [if_neg hi]
      by_cases hc:i<c.size
      ·have hi2:¬i<(yK zs).length:=by omega
       simp [Sort.putCells,hi2,hc]
       intro h;omega
      ·rw [Array.getElem?_eq_none (by simp [Sort.putCells];omega),Array.getElem?_eq_none (by omega)]
    obtain ⟨t1,t2⟩:=hS.turn (l:=C.loc id) (ver':=ver) (cs':=(yK zs).flatMap Enc.enc) hid (Nat.le_refl _) (fun _=>rfl) (by rw [g1];exact ⟨grownBy_sortedI (n:=n) (os:=os) (yK zs).toArray,Nat.le_add_right _ _⟩)
     (.inr ⟨b,k,_,g1,.inr (by rw [g1];rfl),hb',by simp [Sort.putCells,g3],by rw [qY,hlz];exact g4,fun i z hi hz=>by
       rw [hcs] at hz
       rw [qY,hlz] at hi
       rw [if_pos hi] at hz;cases hz;rfl,
      fun i p z hp hz=>by
       rw [hcs] at hz
       have hi:i<zs.length:=by
        have:=(List.getElem?_eq_some_iff.1 hp).1
        rw [qY,hlz] at this;exact this
       rw [if_pos hi] at hz;cases hz
       rw [Xc,List.getElem?_map] at hp
       have hi2:i<(yK zs).length:=by omega
       rw [List.getElem?_eq_getElem hi2] at hp
       cases hp
       rw [List.getD_eq_getElem?_getD,List.getElem?_eq_getElem hi2]
       exact .sc _⟩)
    exact ⟨.junk,_,_,_,rfl,rfl,.junk _,t1,t2⟩
open Go
def yf (l:List Stop):List Value:=l.flatMap fun s=>[.int .i64 s.c,.int .i64 s.q]
theorem ZbW (l:List Stop):l.flatMap Enc.enc=(yf l).map PV.sc:=by
 unfold yf
 induction l<;>simp_all
theorem YK (l:List Stop):(yf l).length=l.length*2:=by
 unfold yf
 induction l with
 | nil=>rfl
 | cons s l ih=>simp at ih ⊢;omega
theorem Xe (l m:List Stop):yf (l++m)=yf l++yf m:=by simp [yf]
theorem ZbX (l:List Stop) (i:Nat) (h:i<=l.length):(yf l).take (i*2)=yf (l.take i):=by
 conv=>lhs;rw [<-List.take_append_drop i l,Xe]
 have:(yf (l.take i)).length=i*2:=by rw [YK];simp;omega
 rw [<-this,List.take_left]
theorem ZbY (l:List Stop) (i:Nat) (h:i<=l.length):(yf l).drop (i*2)=yf (l.drop i):=by
 conv=>lhs;rw [<-List.take_append_drop i l,Xe]
 have:(yf (l.take i)).length=i*2:=by rw [YK];simp;omega
 rw [<-this,List.drop_left]
theorem YL (l:List Stop):∀v∈yf l,v.oneCell'=true:=by
 intro v hv
 obtain ⟨s,_,hs⟩:=List.mem_flatMap.1 hv
 simp at hs
 rcases hs with rfl | rfl<;>rfl
theorem ZgZ {V vs cur:List Value} {i n:Nat} (hi:i<n) (hV:V.length=n*2) (hv:vs.length=2) (hc:cur.take (n*2)=V) (hl:n*2+2<=cur.length) :
  ((cur.take ((i+1)*2)++V.drop (i*2)++cur.drop ((i+1)*2+(V.drop (i*2)).length)).take (i*2)++vs++(cur.take ((i+1)*2)++V.drop (i*2)++cur.drop ((i+1)*2+(V.drop (i*2)).length)).drop (i*2+2)) =
   V.take (i*2)++vs++V.drop (i*2)++cur.drop ((i+1)*2+(V.drop (i*2)).length):=by
 have h1:(cur.take ((i+1)*2)).length=i*2+2:=by simp;omega
 have h2:(cur.take ((i+1)*2)++V.drop (i*2)++cur.drop ((i+1)*2+(V.drop (i*2)).length)).take (i*2)=V.take (i*2):=by
  rw [List.append_assoc,List.take_append_of_le_length (by omega),List.take_take,Nat.min_eq_left (by omega),<-hc,List.take_take,Nat.min_eq_left (by omega)]
 rw [h2,<-h1,List.append_assoc (cur.take _),List.drop_left]
 simp
theorem Zg0 {V vs ROW:List Value} {i n:Nat} (hi:i<n) (hV:V.length=n*2) (hv:vs.length=2) (hc:ROW.take (i*2)=V.take (i*2)) :
  ((ROW.take (i*2)++vs++ROW.drop (i*2+2)).take ((i+1)*2)++V.drop (i*2)++(ROW.take (i*2)++vs++ROW.drop (i*2+2)).drop ((i+1)*2+(V.drop (i*2)).length)) =
   V.take (i*2)++vs++V.drop (i*2)++(ROW.take (i*2)++vs++ROW.drop (i*2+2)).drop ((i+1)*2+(V.drop (i*2)).length):=by
 have h1:(ROW.take (i*2)++vs).length=(i+1)*2:=by rw [hc];simp;omega
 have h2:(ROW.take (i*2)++vs++ROW.drop (i*2+2)).take ((i+1)*2)=V.take (i*2)++vs:=by
  rw [<-h1,List.take_left,hc]
 rw [h2]
theorem ZbZ {vs:Array Value} (h:3=vs.size):∃u v x,vs=#[u,v,x]:=by
 match vs,h with
 | ⟨[u,v,x]⟩,_=>exact ⟨u,v,x,rfl⟩
theorem WQ {C:Ctx} {S:Store} {w:World} {R:Array Value} {V rest:List Value} (h:R.toList=V++rest) (h1:∀v∈V,v.oneCell'=true) :
  (∀(i:Nat) (v:Value),i<(V.map PV.sc).length->R[i]?=some v->v.oneCell'=true)/\∀(i:Nat) (p:PV) (v:Value),(V.map PV.sc)[i]?=some p->R[i]?=some v->Rel C S w p v:=by
 have hat:∀(i:Nat) (v:Value),i<V.length->R[i]?=some v->V[i]?=some v:=by
  intro i v hi hv
  rw [<-Array.getElem?_toList,h,List.getElem?_append_left hi] at hv
  exact hv
 refine ⟨fun i v hi hv=>h1 v (List.mem_of_getElem? (hat i v (by simpa using hi) hv)),fun i p v hp hv=>?_⟩
 rw [List.getElem?_map] at hp
 obtain ⟨u,hu,rfl⟩:=Option.map_eq_some_iff.1 hp
 have:=hat i v (List.getElem?_eq_some_iff.1 hu).1 hv
 rw [hu] at this
 cases this
 exact .sc _
theorem Zg1 {S:Store} {id ver:Nat} (cs:List Stop) (i:Nat) (s:Stop) (hi:i<cs.length) (hn:cs.length<=1000000) (hid:S id=.cells ver 35 (cs.flatMap Enc.enc)) :
  Spec Tryz.prog 102 [.sl id ver 2 0 cs.length,I i,L [s]] S (fun p S'=>p=.sl id (ver+1) 2 0 (cs.length+1)/\S'=S.set id (.cells (ver+1) 35 ((cs.take i++s :: cs.drop i).flatMap Enc.enc))):=by
 refine ⟨qn Tryz.func102 (by rfl) rfl,?_⟩
 intro C w vs hS hl hr
 obtain ⟨u,v,x,rfl⟩:=ZbZ hl
 obtain rfl:=Z1 (hr 1 _ v rfl rfl)
 have hu:=hr 0 _ u rfl rfl
 have hx:Rel C S w (.lst 1 [I s.c,I s.q]) x:=hr 2 _ x rfl rfl
 have hvl:(yf cs).length=cs.length*2:=YK cs
 rw [ZbW] at hid ⊢
 obtain ⟨i0,hi0⟩:=Option.isSome_iff_exists.1 WG
 have hz:=z35
 have hc:=WF
 have hb:=b35
 simp only [Program.zeroOf,Program.cellsOf,Program.bytesOf',hi0,Option.bind_some,Option.map_some,Option.getD_some,Option.some.injEq] at hz hc hb
 cases hu with
 | sl h1 h2 h3 =>
  obtain ⟨ad,cap,rfl,q1,q2,q3,q4⟩:=h1
  have hloc:=(h3 ver (by rw [hid];rfl)).2 rfl
  rcases hS.cells id ver _ _ hid with ⟨hno,hnil⟩ | ⟨b,k,c,g1,g2,g3,g4,g5,g6⟩
  ·have:=congrArg List.length hnil
   simp [hvl] at this
   exfalso;omega
  rcases hloc with ⟨z1,_⟩ | ⟨b',k',ad',cap',z1,z2,z3,z4⟩
  ·rw [g1] at z1;cases z1
  rw [g1] at z1;cases z1;cases z2
  obtain ⟨rfl,hcap⟩:=z3 rfl
  rw [List.length_map,hvl] at g4
  -- what stands in the block
  have hcells:∀(j:Nat) v,(yf cs)[j]?=some v->c[j]?=some v:=by
   intro j v hj
   have hjl:=(List.getElem?_eq_some_iff.1 hj).1
   have e2:c[j]?=some c[j]:=Array.getElem?_eq_getElem (by omega)
   have:=g6 j (.sc v) _ (by rw [List.getElem?_map,hj];rfl) e2
   rw [e2]
   generalize c[j]=y at this
   cases this;rfl
  have hcur:c.toList.take (cs.length*2)=yf cs:=by
   apply List.ext_getElem?
   intro j
   by_cases hj:j<cs.length*2
   ·rw [List.getElem?_take_of_lt hj,Array.getElem?_toList]
    have e:(yf cs)[j]?=some (yf cs)[j]:=List.getElem?_eq_getElem (by omega)
    rw [e,hcells j _ e]
   ·rw [List.getElem?_eq_none (by simp;omega),List.getElem?_eq_none (by omega)]
  have hccell:∀(j:Nat) v,(yf cs)[j]?=some v->w.cell? ⟨b,j,none⟩=some v:=fun j v hj=>by
   simp only [World.cell?,g2]
   exact hcells j v hj
  have hnew:yf (cs.take i++s :: cs.drop i)=(yf cs).take (i*2)++[.int .i64 s.c,.int .i64 s.q]++(yf cs).drop (i*2):=by
   rw [ZbX cs i (by omega),ZbY cs i (by omega),Xe]
   simp [yf]
  have hnl:(yf (cs.take i++s :: cs.drop i)).length=(cs.length+1)*2:=by rw [YK];simp;omega
  cases hx with
  | lst1 y1 y2 y3 y4 y5 y6 y7 =>
   rename_i vc vb vo cv ev fz
   have y5':=y5 (by simp)
   simp only [List.length_cons,List.length_nil] at y5'
   have hvcell:∀(j:Nat) v,([.int .i64 s.c,.int .i64 s.q]:List Value)[j]?=some v->w.cell? ⟨vb,vo+j,none⟩=some v:=by
    intro j v hj
    have hjl:=(List.getElem?_eq_some_iff.1 hj).1
    simp at hjl
    simp only [World.cell?,y3]
    have e2:cv[vo+j]?=some (cv[vo+j]'(by omega)):=Array.getElem?_eq_getElem (by omega)
    have:=y7 j (.sc v) _ (by
     match j,hj with
     | 0,hj=>cases hj;rfl
     | 1,hj=>cases hj;rfl) e2
    rw [if_neg (by simp),e2]
    generalize cv[vo+j]'(by omega)=y at this
    cases this;rfl
   have hvb:vb≠b:=by
    rintro rfl
    exact y4 ⟨id,k,by rw [hid];simp,g1⟩
   have newsl:∀(w':World) (b' cap':Nat),cs.length+1<=cap'->cap'<=maxLen ->
     Rel (C.at id (ver+1) (some (b',cap'*2))) (S.set id (.cells (ver+1) 35 ((yf (cs.take i++s :: cs.drop i)).map .sc))) w' (.sl id (ver+1) 2 0 (cs.length+1)) (.slice (some ⟨b',0,none⟩) (cs.length+1) cap'):=by
    intro w' b' cap' hkm hcl
    refine .sl ⟨_,_,rfl,hkm,by unfold qV;omega,hcl,fun _=>⟨_,_,rfl⟩⟩ ⟨h2.1,by simp only [Ctx.at];omega⟩ fun v0 hv0=>?_
    rw [Store.set_same] at hv0;cases hv0
    exact ⟨Nat.le_refl _,fun _=>.inr ⟨b',_,_,_,by simp [Ctx.at],rfl,fun _=>⟨rfl,rfl⟩,fun _=>rfl⟩⟩
   have hsv:∀v∈([.int .i64 s.c,.int .i64 s.q]:List Value),v.oneCell'=true:=by
    intro v hv
    simp at hv
    rcases hv with rfl | rfl<;>rfl
   by_cases hroom:cs.length+1<=cap
   ·obtain ⟨R1,hR1⟩:∃R1:Array Value,R1=(c.toList.take ((i+1)*2)++(yf cs).drop (i*2)++c.toList.drop ((i+1)*2+((yf cs).drop (i*2)).length)).toArray:=⟨_,rfl⟩
    obtain ⟨R2,hR2⟩:∃R2:Array Value,R2=(R1.toList.take (i*2)++([.int .i64 s.c,.int .i64 s.q]:List Value)++R1.toList.drop (i*2+2)).toArray:=⟨_,rfl⟩
    have hcsz:c.size=cap*2:=g3.trans hcap.symm
    have hctl:c.toList.length=cap*2:=by simpa using hcsz
    have hR2l:R2.toList=yf (cs.take i++s :: cs.drop i)++c.toList.drop ((i+1)*2+((yf cs).drop (i*2)).length):=by
     rw [hR2,hR1,hnew]
     simp only []
     exact ZgZ hi hvl rfl hcur (by omega)
    have hR2s:R2.size=cap*2:=by
     rw [<-Array.length_toList,hR2l]
     simp [hnl,hvl]
     omega
    refine (Ze8 b cs.length cap i vb vo vc (yf cs) [.int .i64 s.c,.int .i64 s.q] w (by rw [hi0];simp [hc]) c g2 hcsz hi hroom (by unfold maxLen at q3;omega) (by omega) hvl rfl hvb hccell hvcell (YL cs) hsv ev (cv.size-1) (by unfold World.shape?;rw [y3];simp;omega) R1 R2 hR1 hR2).mono ?_
    rintro e w' ⟨rfl,rfl⟩
    obtain ⟨r1,r2⟩:=WQ (C:=C) (S:=S) (w:=w) hR2l (YL _)
    have hb1:=setRow_heap w.drew b c R1 _ _ g2
    obtain ⟨t1,t2⟩:=hS.turn (l:=some (b,cap*2)) (ver':=ver+1) (cs':=(yf (cs.take i++s :: cs.drop i)).map .sc) hid (by omega) (fun h=>absurd h (by omega)) (w':=(w.drew.setRow b R1).setRow b R2)
     (by
      rw [g1]
      refine ⟨⟨rfl,rfl,rfl,by simp [World.setRow],fun j hj hne=>?_⟩,Nat.le_succ _⟩
      have hjb:j≠b:=fun e=>hne (by rw [e];rfl)
      rw [setRow_other _ _ _ _ hjb,setRow_other _ _ _ _ hjb];rfl)
     (.inr ⟨b,cap*2,R2,rfl,.inr (by rw [g1];rfl),setRow_heap _ _ _ _ _ _ hb1,hR2s,by rw [List.length_map,hnl];omega,r1,r2⟩)
    exact ⟨_,_,_,_,rfl,⟨rfl,rfl⟩,newsl _ b cap hroom q3,t1,t2⟩
   ·obtain ⟨G,hG⟩:∃G,G=grownCap w (cs.length+1) cap 35:=⟨_,rfl⟩
    have hGn:cs.length+1<=G:=by rw [hG];exact grownCap_ge w _ _ _
    have hGm:G<=maxLen:=by rw [hG];exact grownCap_le_maxLen w _ _ _ (by unfold maxLen;omega)
    obtain ⟨ROW,hROW⟩:∃ROW:Array Value,ROW=((yf cs).take (i*2)).toArray++Builtin.zeroCells (Value.agg #[.int .i64 0,.int .i64 0]).cells (cs.length+1-i)++Builtin.zeroCells (Value.agg #[.int .i64 0,.int .i64 0]).cells (G-(cs.length+1)):=⟨_,rfl⟩
    obtain ⟨R1,hR1⟩:∃R1:Array Value,R1=(ROW.toList.take (i*2)++([.int .i64 s.c,.int .i64 s.q]:List Value)++ROW.toList.drop (i*2+2)).toArray:=⟨_,rfl⟩
    obtain ⟨R2,hR2⟩:∃R2:Array Value,R2=(R1.toList.take ((i+1)*2)++(yf cs).drop (i*2)++R1.toList.drop ((i+1)*2+((yf cs).drop (i*2)).length)).toArray:=⟨_,rfl⟩
    have htl:((yf cs).take (i*2)).length=i*2:=by simp;omega
    have hROWs:ROW.size=G*2:=by
     rw [hROW]
     simp only [Array.size_append,size_zeroCells,List.size_toArray,htl]
     simp [Value.cells]
     omega
    have hROWt:ROW.toList.take (i*2)=(yf cs).take (i*2):=by
     rw [hROW]
     simp only [Array.toList_append]
     rw [List.append_assoc]
     exact List.take_left' htl
    have hR1s:R1.size=G*2:=by rw [hR1];simp;omega
    have hR2l:R2.toList=yf (cs.take i++s :: cs.drop i)++R1.toList.drop ((i+1)*2+((yf cs).drop (i*2)).length):=by
     rw [hR2,hR1,hnew]
     simp only []
     exact Zg0 hi hvl rfl hROWt
    have hR2s:R2.size=G*2:=by
     rw [<-Array.length_toList,hR2l]
     simp [hnl,hvl,hR1s]
     omega
    refine (Ze7 b cs.length cap i vb vo vc (yf cs) [.int .i64 s.c,.int .i64 s.q] w i0 _ hi0 hz (by omega) hb rfl hi q1 (by omega) (by omega) hvl rfl hccell hvcell (YL cs) hsv G hG ROW hROW R1 R2 hR1 hR2).mono ?_
    rintro e w' ⟨rfl,rfl⟩
    obtain ⟨r1,r2⟩:=WQ (C:=C) (S:=S) (w:=w) hR2l (YL _)
    have hb0:=Zd w.drew (.cells ROW 35)
    have hb1:=setRow_heap (w.drew.alloc (.cells ROW 35)) w.heap.size ROW R1 _ _ hb0
    obtain ⟨t1,t2⟩:=hS.turn (l:=some (w.heap.size,G*2)) (ver':=ver+1) (cs':=(yf (cs.take i++s :: cs.drop i)).map .sc) hid (by omega) (fun h=>absurd h (by omega)) (w':=((w.drew.alloc (.cells ROW 35)).setRow w.heap.size R1).drew.setRow w.heap.size R2)
     ⟨⟨rfl,rfl,rfl,by simp [World.setRow],fun j hj _=>by
      rw [setRow_other _ _ _ _ (by omega)]
      show ((w.drew.alloc (.cells ROW 35)).setRow w.heap.size R1).heap[j]?=_
      rw [setRow_other _ _ _ _ (by omega)]
      exact vj w.drew _ j hj⟩,Nat.le_succ_of_le (Nat.le_succ _)⟩
     (.inr ⟨w.heap.size,G*2,R2,rfl,.inl (Nat.le_refl _),setRow_heap _ _ _ _ _ _ hb1,hR2s,by rw [List.length_map,hnl];omega,r1,r2⟩)
    exact ⟨_,_,_,_,rfl,⟨rfl,rfl⟩,newsl _ w.heap.size G hGn hGm,t1,t2⟩
open Go
def zO (t:List Stop):Int:=(t.map (·.q)).sum
theorem QK (t:List Stop) (s:Stop):zO (t++[s])=zO t+s.q:=by simp [zO]
theorem Zb0 (t:List Stop) (ht:t.length<=1048576):Pure Tryz.prog 96 [.agg [L t]] (L (t.map (·.c))):=by
 refine zz Tryz.func96 Tryz.ntmps96 Tryz.results96 fun S nx hd=>?_
 refine za (zb ?_)
 intro v0
 refine za (zb ?_)
 refine za (yT 3 3 1 rfl fun v1=>?_)
 refine za (zb ?_)
 refine zi (zB (fun s:Nat × List Int × Nat × Nat=>s.1<=t.length/\s.2.1=(t.take s.1).map (·.c)) (fun (k,out,v,v2)=>[(1,.ptr nx v 0),(3,.sl (nx+1) v2 1 0 out.length),(4,I k)]) (fun (k,out,v,v2)=>[.cells v 72 [L t],.cells v2 3 (out.flatMap Enc.enc)]) (fun s=>t.length-s.1) (0,[],v0,v1) [] (by simp) (by simp) (by simp) ?_)
 rintro ⟨k,out,v1,v2⟩ ⟨hk,ho⟩
 simp only at hk ho ⊢
 repeat apply za
 refine zb ?_
 refine zr rfl (fun hc=>?_) (fun hc=>?_)
 ·simp at hc
  obtain ⟨s,tl,a1,a2,a3,e1,e0⟩:=el 2 rfl t k hc
  refine zh (za (zi (ze [] (zn hc e0) ?_)))
  have hl:out.length=k:=by rw [ho];simp;omega
  refine ⟨by omega,?_⟩
  refine zb ?_
  exact zq (k+1,out++[s.c],v1,v2+1) [] (by simp [a3,ho];omega) (by simp;omega) (by simp [zt k (by omega)]) rfl (by simp)
 ·simp at hc
  have hk':k=t.length:=by omega
  subst hk'
  refine zu (za (zb ?_))
  refine zX 1 rfl ?_
  exact zg (zk hd rfl (by simp [ho]))
theorem Zg2 (t:List Stop) (ht:t.length<=1048576):Pure Tryz.prog 131 [.agg [L t]] (I (W (zO t))):=by
 refine zz Tryz.func131 Tryz.ntmps131 Tryz.results131 fun S nx hd=>?_
 refine za (zb ?_)
 intro v0
 refine za (zb ?_)
 repeat apply za
 refine zb ?_
 refine zi (zB (fun s:Nat × Nat=>s.1<=t.length) (fun (k,v)=>[(1,.ptr nx v 0),(3,I (W (zO (t.take k)))),(4,I k)]) (fun (k,v)=>[.cells v 72 [L t]]) (fun s=>t.length-s.1) (0,v0) [] (by simp) (by simp [zO]) (by simp) ?_)
 rintro ⟨k,v1⟩ hk
 simp only at hk ⊢
 repeat apply za
 refine zb ?_
 refine zr rfl (fun hc=>?_) (fun hc=>?_)
 ·simp at hc
  obtain ⟨s,tl,a1,a2,a3,e1,e0⟩:=el 2 rfl t k hc
  refine zh (za (zi (ze [] (zn hc e1) ?_)))
  refine zb ?_
  exact zq (k+1,v1) [] hc (by simp;omega) (by simp [zt k (by omega),a3,QK,xO]) rfl (by simp)
 ·simp at hc
  have hk':k=t.length:=by omega
  subst hk'
  refine zu (za (zb ?_))
  exact zg (zk hd rfl (by simp))
theorem QL (l:List Int) (c:Int) (h:l.Nodup) (hc:c ∉ l):(l++[c]).Nodup:=by
 rw [List.nodup_append];exact ⟨h,by simp,fun a ha b hb e=>by simp at hb;subst hb;subst e;exact hc ha⟩
theorem WR {l:List Int} {i k:Nat} {c:Int} (hi:l[i]?=some c) (hk:l[k]?=some c) (h:k<i):¬l.Nodup:=by
 intro hn
 have:=(List.getElem?_inj (List.getElem?_eq_some_iff.1 hi).1 hn).1 (hi.trans hk.symm)
 omega
theorem Zb1 (l:List Int) (hl:l.length<=1048576):Pure Tryz.prog 97 [L l] (B (decide (¬l.Nodup))):=by
 refine zz Tryz.func97 Tryz.ntmps97 Tryz.results97 fun S nx hd=>?_
 refine za (zb ?_)
 repeat apply za
 refine zb ?_
 refine zi (zB (fun i:Nat=>i<=l.length/\(l.take i).Nodup) (fun i=>[(0,L l),(3,I i)]) (fun _=>[]) (fun i=>l.length-i) 0 [] (by simp) (by simp) (by simp) ?_)
 rintro i ⟨hi,hn⟩
 repeat apply za
 refine zb ?_
 refine zr rfl (fun hc=>?_) (fun hc=>?_)
 ·simp at hc
  obtain ⟨c,tl,a1,a2,a3,e0⟩:=zC rfl l i hc
  refine zh (za (zi (za (zb ?_))))
  refine zi (zB (fun k:Nat=>k<=i/\c ∉ l.take k) (fun k=>[(0,L l),(3,I i),(4,I k)]) (fun _=>[]) (fun k=>i-k) 0 [] (by simp) (by simp) (by simp) ?_)
  rintro k ⟨hk,hkn⟩
  repeat apply za
  refine zb ?_
  refine zr rfl (fun hc2=>?_) (fun hc2=>?_)
  ·simp at hc2
   obtain ⟨c',tl',b1,b2,b3,e1⟩:=zC rfl l k (by omega)
   have hkl:k<l.length:=by omega
   refine zh (za (zi (za (zF none (Row.pures [0,1,2,3,4,5,6,7,8] .done) mixed (zP e0 e1 hc hkl) ?_))))
   refine zr rfl (fun hq=>?_) (fun hq=>?_)
   ·simp at hq
    subst hq
    refine za (zb ?_)
    exact zg (zk hd rfl (by simp [WR a1 b1 hc2]))
   ·simp at hq
    refine zh (zb ?_)
    exact zq (k+1) [] ⟨hc2,by rw [b3];simp [hkn,hq]⟩ (by omega) (by simp [zt k (by omega)]) rfl (by simp)
  ·simp at hc2
   have:k=i:=by omega
   subst this
   refine zu (zb ?_)
   exact zq (k+1) [] ⟨hc,by rw [a3];exact QL _ _ hn hkn⟩ (by omega) (by simp [zt k (by omega)]) rfl (by simp)
 ·simp at hc
  refine zu (za (zb ?_))
  rw [List.take_of_length_le hc] at hn
  exact zg (zk hd rfl (by simp [hn]))
open Go
theorem QM (t:List Stop) (ht:t.length<=1048576) (S:Store) (nx:Nat) (hd:zQ nx S):Spec Tryz.prog 143 [.agg [L t]] S (fun p S'=>∃v,p=.sl (nx+1) v 1 0 t.length/\S'=S.set (nx+1) (.cells v 3 ((t.map (·.c)).flatMap Enc.enc))):=by
 refine uc hd Tryz.func143 Tryz.ntmps143 Tryz.results143 ?_
 refine za (zb ?_)
 intro v0
 refine za (zb ?_)
 refine za (yT 3 3 1 rfl fun v1=>?_)
 refine za (zb ?_)
 refine zi (zB (fun s:Nat × List Int × Nat × Nat=>s.1<=t.length/\s.2.1=(t.take s.1).map (·.c)) (fun (k,out,v,v2)=>[(3,.sl (nx+1) v2 1 0 out.length),(7,L t),(8,I t.length),(9,I k)]) (fun (k,out,v,v2)=>[.cells v 72 [L t],.cells v2 3 (out.flatMap Enc.enc)]) (fun s=>t.length-s.1) (0,[],v0,v1) [] (by simp) (by simp) (by simp) ?_)
 rintro ⟨k,out,v1,v2⟩ ⟨hk,ho⟩
 simp only at hk ho ⊢
 refine za (zb ?_)
 refine za (zr rfl (fun hc=>?_) (fun hc=>?_))
 ·simp at hc
  obtain ⟨s,tl,a1,a2,a3,e1,e0⟩:=el 2 rfl t k hc
  refine zh (za (zi (za (ze [] (zn hc e0) ?_))))
  intros
  have hl:out.length=k:=by rw [ho];simp;omega
  refine zb ?_
  refine ⟨by omega,?_⟩
  refine zb ?_
  exact zq (k+1,out++[s.c],v1,v2+1) [_] (by simp [a3,ho];omega) (by simp;omega) (by simp [zt k (by omega)]) rfl (by simp;rfl)
 ·simp at hc
  have hk':k=t.length:=by omega
  subst hk'
  refine zu (za (zb ?_))
  refine zg ⟨_,_,rfl,⟨v2,by simp [ho],rfl⟩,ZY hd (by simp [ho])⟩
theorem Zg3 (t:List Stop) (ht:t.length<=1048576):Pure Tryz.prog 143 [.agg [L t]] (L (t.map (·.c))):=by
 have:=J3 1 (fun S nx hd=>QM t ht S nx hd) (by simp)
 rw [<-List.length_map (f:=(·.c))] at this
 exact this
theorem Zb2 (t:List Stop) (ht:t.length<=1048576):Pure Tryz.prog 137 [.agg [L t]] (I (W (zO t))):=by
 refine zz Tryz.func137 Tryz.ntmps137 Tryz.results137 fun S nx hd=>?_
 refine za (zb ?_)
 intro v0
 refine za (zb ?_)
 repeat apply za
 refine zb ?_
 refine zi (zB (fun s:Nat × Nat=>s.1<=t.length) (fun (k,v)=>[(3,I (W (zO (t.take k)))),(7,L t),(8,I t.length),(9,I k)]) (fun (k,v)=>[.cells v 72 [L t]]) (fun s=>t.length-s.1) (0,v0) [] (by simp) (by simp [zO]) (by simp) ?_)
 rintro ⟨k,v1⟩ hk
 simp only at hk ⊢
 refine za (zb ?_)
 refine za (zr rfl (fun hc=>?_) (fun hc=>?_))
 ·simp at hc
  obtain ⟨s,tl,a1,a2,a3,e1,e0⟩:=el 2 rfl t k hc
  refine zh (za (zi (za (ze [] (zn hc e0) ?_))))
  intros
  refine zb ?_
  refine zb ?_
  exact zq (k+1,v1) [_] hc (by simp;omega) (by simp [zt k (by omega),a3,QK,xO]) rfl (by simp;rfl)
 ·simp at hc
  have hk':k=t.length:=by omega
  subst hk'
  refine zu (za (zb ?_))
  exact zg (zk hd rfl (by simp))
theorem QN (x:Inst) (t:List Stop) (ht:t.length<=1048576) (hs:∀s∈t,small s.c):Pure Tryz.prog 103 [.agg (zv x),.agg [L t]] (I (W (yc x (t.map (·.c))))):=by
 refine zz Tryz.func103 Tryz.ntmps103 Tryz.results103 fun S nx hd=>?_
 refine za (zb ?_)
 intros
 refine za (zF none (Row.pures [0,1,2,3,4] .done) mixed trivial ?_)
 refine zN (Zg3 _ ht) trivial ?_
 refine zN (ZbT _ _ (by simpa using ht) (by simpa using hs)) trivial ?_
 exact zg (zk hd rfl rfl)
def yi (x:Inst) (d:zj):Int:=(d.map fun t=>yc x (t.map (·.c))).sum
theorem Zg4 (x:Inst) (d:zj) (t:zG):yi x (d++[t])=yi x d+yc x (t.map (·.c)):=by simp [yi]
structure DayOk (d:zj):Prop where
 n:d.length<=1048576
 t:∀t∈d,t.length<=1048576
 s:∀t∈d,∀s∈t,small s.c
theorem YM (x:Inst) (d:zj) (hd':DayOk d):Pure Tryz.prog 58 [.agg (zv x),.agg [L d]] (I (W (yi x d))):=by
 have hn:=hd'.n
 refine zz Tryz.func58 Tryz.ntmps58 Tryz.results58 fun S nx hd=>?_
 refine za (zb ?_)
 intro v0 v1
 refine za (zb ?_)
 repeat apply za
 refine zb ?_
 refine zi (zB (fun s:Nat × Nat × Nat=>s.1<=d.length) (fun (k,v,v')=>[(2,.ptr nx v 0),(5,I (W (yi x (d.take k)))),(9,L d),(10,I d.length),(11,I k)]) (fun (k,v,v')=>[.cells v 25 (zv x),.cells v' 58 [L d]]) (fun s=>d.length-s.1) (0,v0,v1) [] (by simp) (by simp [yi]) (by simp) ?_)
 rintro ⟨k,v1,v2⟩ hk
 simp only at hk ⊢
 refine za (zb ?_)
 refine za (zr rfl (fun hc=>?_) (fun hc=>?_))
 ·simp at hc
  obtain ⟨t,tl,a1,a2,a3,e0⟩:=zC rfl d k hc
  have htd:=List.mem_of_getElem? a1
  refine zh (za (zi (za (ze [] (zn hc e0) ?_))))
  intros
  refine zb ?_
  refine zA (QN _ _ (hd'.t t htd) (hd'.s t htd)) ?_
  refine zb ?_
  exact zq (k+1,v1,v2) [_] hc (by simp;omega) (by simp [zt k (by omega),a3,Zg4,xO,Wy]) rfl (by simp;rfl)
 ·simp at hc
  have hk':k=d.length:=by omega
  subst hk'
  refine zu (za (zb ?_))
  exact zg (zk hd rfl (by simp))
theorem Zb3 (d:zj) (hn:d.length<=1048576) (hf:d.flatten.length<=1048576):Pure Tryz.prog 134 [.agg [L d]] (L d.flatten):=by
 refine zz Tryz.func134 Tryz.ntmps134 Tryz.results134 fun S nx hd=>?_
 refine za (zb ?_)
 intro v0
 refine za (zb ?_)
 refine za (yT 3 35 2 rfl fun v1=>?_)
 refine za (zb ?_)
 refine zi (zB (fun s:Nat × List Stop × Nat × Nat=>s.1<=d.length/\s.2.1=(d.take s.1).flatten) (fun (k,out,v,v2)=>[(3,.sl (nx+1) v2 2 0 out.length),(7,L d),(8,I d.length),(9,I k)]) (fun (k,out,v,v2)=>[.cells v 58 [L d],.cells v2 35 (out.flatMap Enc.enc)]) (fun s=>d.length-s.1) (0,[],v0,v1) [] (by simp) (by simp) (by simp) ?_)
 rintro ⟨k,out,v1,v2⟩ ⟨hk,ho⟩
 simp only at hk ho ⊢
 refine za (zb ?_)
 refine za (zr rfl (fun hc=>?_) (fun hc=>?_))
 ·simp at hc
  obtain ⟨t,tl,a1,a2,a3,e0⟩:=zC rfl d k hc
  refine zh (za (zi (za (ze [] (zn hc e0) ?_))))
  intros
  have hl:out.length+t.length<=1048576:=by
   have:(out++t).length<=d.flatten.length:=by
    have e:d.flatten=(d.take (k+1)).flatten++(d.drop (k+1)).flatten:=by rw [<-List.flatten_append,List.take_append_drop]
    rw [e,a3];simp [ho]
   simp only [List.length_append] at this;omega
  refine zb ?_
  refine ⟨by omega,?_⟩
  refine zb ?_
  exact zq (k+1,out++t,v1,v2+1) [_] (by simp [a3,ho];omega) (by simp;omega) (by simp [zt k (by omega)]) rfl (by simp;rfl)
 ·simp at hc
  have hk':k=d.length:=by omega
  subst hk'
  refine zu (za (zb ?_))
  refine zX 1 rfl ?_
  exact zg (zk hd rfl (by simp [ho]))
open Go
def qu (x:Inst) (s:Stop):Bool:=decide (0<=s.c/\s.c<x.cust.length/\1<=s.q/\s.q<=2147483648)
def yY (x:Inst) (t:zG):Bool:=t.all (qu x) && !t.isEmpty
def zK (x:Inst) (t:zG):Int :=
 if yY x t=false then 1 else if ¬(t.map (·.c)).Nodup then 11 else if x.cap<W (zO t) then 12 else if x.len<W (yc x (t.map (·.c))) then 13 else 0
theorem Xf {x:Inst} {t:zG} {s:Stop} {k:Nat} (h:t[k]?=some s) (hb:¬(0<=s.c/\s.c<x.cust.length/\1<=s.q/\s.q<=2147483648)):zK x t=1:=by
 unfold zK
 rw [if_pos]
 unfold yY
 have:t.all (qu x)=false:=by
  rw [List.all_eq_false];exact ⟨s,List.mem_of_getElem? h,by simp [qu];omega⟩
 rw [this];rfl
theorem Zb4 {x:Inst} {t:zG} {k:Nat} {s:Stop} (h:(t.take k).all (qu x)=true) (ht:t.take (k+1)=t.take k++[s]) (hs:0<=s.c/\s.c<x.cust.length/\1<=s.q/\s.q<=2147483648):(t.take (k+1)).all (qu x)=true:=by
 rw [ht,List.all_append,h];simp [qu];omega
theorem Zb5 {x:Inst} {t:zG} (hx:x.cust.length<=1048576) (h:t.all (qu x)=true):∀s∈t,small s.c:=by
 intro s hs
 have:=List.all_eq_true.1 h s hs
 simp [qu] at this
 unfold small;omega
theorem Zb6 (x:Inst) (t:zG) (hx:x.cust.length<=1048576) (ht:t.length<=1048576):Pure Tryz.prog 94 [.agg (zv x),.agg [L t]] (I (zK x t)):=by
 refine zz Tryz.func94 Tryz.ntmps94 Tryz.results94 fun S nx hd=>?_
 refine za (zb ?_)
 intro v0 v1
 by_cases he:t=[]
 ·subst he
  repeat apply za
  refine zb ?_
  refine zm rfl (za (zb ?_))
  exact zg (zk hd rfl rfl)
 have he':¬t.length=0:=by simpa using he
 repeat apply za
 refine ze [] (zn he he') ?_
 refine zo rfl (zh ?_)
 repeat apply za
 refine zb ?_
 refine zi (zB (fun s:Nat × Nat × Nat=>s.1<=t.length/\(t.take s.1).all (qu x)=true) (fun (k,v,v')=>[(2,.ptr nx v 0),(3,.ptr (nx+1) v' 0),(5,I k)]) (fun (k,v,v')=>[.cells v 25 (zv x),.cells v' 72 [L t]]) (fun s=>t.length-s.1) (0,v0,v1) [] (by simp) (by simp) (by simp) ?_)
 rintro ⟨k,v0,v1⟩ ⟨hk,ha⟩
 simp only at hk ha ⊢
 repeat apply za
 refine zb ?_
 refine zr rfl (fun hc=>?_) (fun hc=>?_)
 ·simp at hc
  obtain ⟨s,tl,a1,a2,a3,e1,e0⟩:=el 2 rfl t k hc
  refine zh (za (zi (za (ze [] (zn hc e0) ?_))))
  intros
  by_cases h1:s.c<0
  ·refine za (ze [(3,27),(11,35),(16,40)] (zn h1 zx) ?_)
   refine zm rfl (za (zb ?_))
   exact zg (zk hd rfl (by rw [Xf a1 (by omega)];rfl))
  by_cases h2:(x.cust.length:Int)<=s.c
  ·refine za (ze [(3,27),(11,35),(16,40)] (zE h2 h1 zx) ?_)
   refine zm rfl (za (zb ?_))
   exact zg (zk hd rfl (by rw [Xf a1 (by omega)];rfl))
  by_cases h3:s.q<1
  ·refine za (ze [(3,27),(11,35),(16,40)] (zP h3 h1 h2 zx) ?_)
   refine zm rfl (za (zb ?_))
   exact zg (zk hd rfl (by rw [Xf a1 (by omega)];rfl))
  by_cases h4:2147483648<s.q
  ·refine za (ze [(3,27),(11,35),(16,40)] (yD h4 h1 h2 h3 zx) ?_)
   refine zm rfl (za (zb ?_))
   exact zg (zk hd rfl (by rw [Xf a1 (by omega)];rfl))
  refine za (ze [(3,27),(11,35),(16,40)] (zP h1 h2 h3 h4) ?_)
  refine zo rfl (zh (zb ?_))
  exact zq (k+1,v0,v1) [_] ⟨hc,Zb4 ha a3 (by omega)⟩ (by simp;omega) (by simp [zt k (by omega)]) rfl (by simp;rfl)
 ·simp at hc
  have hk':k=t.length:=by omega
  subst hk'
  rw [List.take_length] at ha
  have hst:yY x t=true:=by unfold yY;rw [ha];simp [he]
  refine zu (za (zb ?_))
  refine zA (Zb0 _ ht) ?_
  repeat apply za
  refine zb ?_
  refine zA (Zb1 _ (by simpa using ht)) ?_
  by_cases hn:(t.map (·.c)).Nodup
  ·refine zo (by simp [hn]) ?_
   refine zh ?_
   repeat apply za
   refine zF none (Row.pures [0,1,2,3,4] .done) mixed trivial ?_
   refine zN (Zg2 _ ht) trivial ?_
   refine zr rfl (fun h5=>?_) (fun h5=>?_)
   ·simp at h5
    refine za (zb ?_)
    exact zg (zk hd rfl (by simp [zK,hst,hn,h5]))
   ·simp at h5
    refine zh ?_
    repeat apply za
    refine zF none (Row.pures [0,1,2,3,4,5] .done) mixed trivial ?_
    refine zN (ZgP _ _ (by simpa using ht) (by simpa using Zb5 hx ha)) trivial ?_
    refine zr rfl (fun h6=>?_) (fun h6=>?_)
    ·simp at h6
     refine za (zb ?_)
     exact zg (zk hd rfl (by simp [zK,hst,hn,h6,Int.not_lt.2 h5]))
    ·simp at h6
     refine zh (za (zb ?_))
     exact zg (zk hd rfl (by simp [zK,hst,hn,Int.not_lt.2 h6,Int.not_lt.2 h5]))
  ·refine zm (by simp [hn]) ?_
   refine za (zb ?_)
   exact zg (zk hd rfl (by simp [zK,hst,hn]))
open Go
theorem QO (l:List Int):(yK l).Pairwise (·<=·):=by
 have:=List.pairwise_mergeSort (le:=fun x y:Int=>decide (x<=y)) (fun a b c h1 h2=>by simp at *;omega) (fun a b=>by simp;omega) l
 simpa using this
theorem Zb7 (l:List Int):(yK l).Perm l:=List.mergeSort_perm l _
theorem WS (l:List Int):(yK l).Nodup<->l.Nodup:=(Zb7 l).nodup_iff
theorem Zb8 {z:List Int} {j:Nat} {p c:Int} (hz:z.Pairwise (·<=·)) (hn:(z.take (j+1)).Nodup) (h1:z.take (j+1)=z.take j++[p]) (h2:z.take (j+1+1)=z.take (j+1)++[c]) (hpc:p≠c):(z.take (j+1+1)).Nodup:=by
 rw [h2]
 refine QL _ _ hn fun hc=>?_
 have hs:(z.take (j+1+1)).Pairwise (·<=·):=hz.sublist (List.take_sublist _ _)
 rw [h2,h1,List.append_assoc,List.pairwise_append] at hs
 rw [h1,List.mem_append] at hc
 rcases hc with hc | hc
 ·have a1:=hs.2.2 c hc p (by simp)
  have a2:=(List.pairwise_cons.1 hs.2.1).1 c (by simp)
  omega
 ·simp at hc;exact hpc hc.symm
theorem Zb9 {S:Store} {id ver:Nat} (zs:List Int) (hid:S id=.cells ver 3 (zs.flatMap Enc.enc)) (hn:zs.length<=1048576) :
  Spec Tryz.prog 202 [.sl id ver 1 0 zs.length] S (fun p S'=>p=B (decide zs.Nodup)/\S'=S.set id .dead):=by
 refine qO Tryz.func202 Tryz.ntmps202 Tryz.results202 fun nx hd=>?_
 have hlt:id<nx:=by
  rcases Nat.lt_or_ge id nx with h | h
  ·exact h
  ·rw [hd id h] at hid;cases hid
 refine za (zb ?_)
 refine za (z8 [] (by rfl) (by rfl) fun K Gc Gh hK hGc hGh X hX0 hX=>?_)
 simp -implicitDefEqProofs [hX0,hX]
 try clear hX0 hX X
 refine hGc _ _ _ _ _ _ _ fun hsuf=>((Xd zs (by rw [zH hlt];exact hid) hn).mono ?_).v
 rintro p _ rfl
 refine ⟨S.set id (.cells ver 3 ((yK zs).flatMap Enc.enc)),[],vr _ hlt,?_⟩
 clear hGc hGh
 clear Gc Gh
 refine zW hsuf (D:=[]) (by rfl) fun Gc Gh hGc hGh X hX0 hX=>?_
 simp -implicitDefEqProofs [hX0,hX]
 clear hX0 hX X
 refine hK _ _ _ ?_
 clear hK hGc hGh
 clear K Gc Gh
 generalize hz:yK zs=z
 have hzl:zs.length=z.length:=by rw [<-hz,Zj]
 have hzs:z.Pairwise (·<=·):=by rw [<-hz];exact QO zs
 have hfin:∀o,S.set id .dead o=ext (S.set id (.cells ver 3 (z.flatMap Enc.enc))) nx [] o\/S.set id .dead o=.dead:=by
  intro o
  by_cases ho:o=id
  ·subst ho;exact .inr (Store.set_same _ _ _)
  ·rw [Store.set_other _ _ _ _ ho]
   by_cases h2:o<nx
   ·rw [zH h2,Store.set_other _ _ _ _ ho];exact .inl rfl
   ·exact .inr (hd o (by omega))
 have hS1:(S.set id (.cells ver 3 (z.flatMap Enc.enc))) id=.cells ver 3 (z.flatMap Enc.enc):=Store.set_same _ _ _
 have hres:decide zs.Nodup=decide z.Nodup:=by rw [<-hz,decide_eq_decide,WS]
 rw [hres]
 have hzn:z.length<=1048576:=by omega
 rw [hzl]
 generalize S.set id (.cells ver 3 (z.flatMap Enc.enc))=S1 at *
 have hx1:=zH (S:=S1) (obs:=[]) hlt
 repeat apply za
 refine zb ?_
 refine zi (zB (fun j:Nat=>(j=0\/j+1<=z.length)/\(z.take (j+1)).Nodup) (fun j=>[(0,.sl id ver 1 0 z.length),(3,I ((j+1:Nat):Int))]) (fun _=>[]) (fun j=>z.length-j) 0 [] (by cases z<;>simp) (by simp) (by simp) ?_)
 rintro j ⟨hj,hjn⟩
 repeat apply za
 refine zb ?_
 refine zr rfl (fun hc=>?_) (fun hc=>?_)
 ·simp at hc
  have hc':j+1<z.length:=by omega
  obtain ⟨c,tl1,b1,b2,b3,e1⟩:=zC rfl z (j+1) hc'
  obtain ⟨p,tl2,d1,d2,d3,e2⟩:=zC rfl z j (by omega)
  have wj:IntKind.i64.wrap (j:Int)=j:=wr _ (by omega) (by omega)
  have g1:(j:Int)<z.length:=by omega
  have g2:(j:Int)+1<z.length:=by omega
  have g3:0<=(j:Int)+1:=by omega
  refine zh (za (zi (za (zF none (Row.pures [0,1,2,3,4,5,6,7,8,9] .done) mixed (zL hx1 hS1 wj e1 e2 (zE g1 g2 g3)) ?_))))
  refine zr rfl (fun hq=>?_) (fun hq=>?_)
  ·simp at hq
   refine za (zb ?_)
   exact zg ⟨_,_,rfl,⟨by simp;exact WR b1 (by rw [d1,hq]) (by omega),rfl⟩,hfin⟩
  ·simp at hq
   refine zh (zb ?_)
   have w2:IntKind.i64.wrap ((j:Int)+1+1)=((j+1+1:Nat):Int):=by rw [wr _ (by omega) (by omega)];omega
   exact zq (j+1) [] ⟨by omega,Zb8 hzs hjn d3 b3 (fun e=>hq e.symm)⟩ (by omega) (by simp [w2]) rfl (by simp)
 ·simp at hc
  refine zu (za (zb ?_))
  rw [List.take_of_length_le (by omega)] at hjn
  exact zg ⟨_,_,rfl,⟨by simp [hjn],rfl⟩,hfin⟩
open Go
abbrev QP (x:Inst) (t:zG):List PV:=[I x.days,I x.veh,I x.cap,I x.len,L x.cust,L x.dist,L t]
theorem Zg5 (x:Inst) (t:zG) (ht:t.length<=1048576):Pure Tryz.prog 220 [.agg (QP x t)] (B (yY x t)):=by
 have bad:∀{k:Nat} {s:Stop},t[k]?=some s->¬(0<=s.c/\s.c<x.cust.length/\1<=s.q/\s.q<=2147483648)->yY x t=false:=by
  intro k s h hb
  unfold yY
  have:t.all (qu x)=false:=by
   rw [List.all_eq_false];exact ⟨s,List.mem_of_getElem? h,by simp [qu];omega⟩
  rw [this];rfl
 refine zz Tryz.func220 Tryz.ntmps220 Tryz.results220 fun S nx hd=>?_
 refine za (zb ?_)
 intro v0
 repeat apply za
 refine zb ?_
 refine zi (zB (fun s:Nat × Nat=>s.1<=t.length/\(t.take s.1).all (qu x)=true) (fun (k,v)=>[(1,.ptr nx v 0),(7,L t),(8,I t.length),(9,I k)]) (fun (k,v)=>[.cells v 233 (QP x t)]) (fun s=>t.length-s.1) (0,v0) [] (by simp) (by simp) (by simp) ?_)
 rintro ⟨k,v0⟩ ⟨hk,ha⟩
 simp only at hk ha ⊢
 refine za (zb ?_)
 refine za (zr rfl (fun hc=>?_) (fun hc=>?_))
 ·simp at hc
  obtain ⟨s,tl,a1,a2,a3,e1,e0⟩:=el 2 rfl t k hc
  refine zh (za (zi (za (ze [] (zn hc e0) ?_))))
  intros
  by_cases h1:s.c<0
  ·repeat apply za
   refine ze [(3,16)] (zn h1 zx) ?_
   refine zm rfl (za (zb ?_))
   exact zg (zk hd rfl (by rw [bad a1 (by omega)];rfl))
  by_cases h2:(x.cust.length:Int)<=s.c
  ·repeat apply za
   refine ze [(3,16)] (zE h2 h1 zx) ?_
   refine zm rfl (za (zb ?_))
   exact zg (zk hd rfl (by rw [bad a1 (by omega)];rfl))
  repeat apply za
  refine ze [(3,16)] (zn h1 h2) ?_
  refine zo rfl (zh ?_)
  by_cases h3:s.q<1
  ·refine za (ze [(3,28)] (zn h3 zx) ?_)
   refine zm rfl (za (zb ?_))
   exact zg (zk hd rfl (by rw [bad a1 (by omega)];rfl))
  by_cases h4:2147483648<s.q
  ·refine za (ze [(3,28)] (zE h4 h3 zx) ?_)
   refine zm rfl (za (zb ?_))
   exact zg (zk hd rfl (by rw [bad a1 (by omega)];rfl))
  refine za (ze [(3,28)] (zn h3 h4) ?_)
  refine zo rfl (zh (zb ?_))
  exact zq (k+1,v0) [_] ⟨hc,Zb4 ha a3 (by omega)⟩ (by simp;omega) (by simp [zt k (by omega)]) rfl (by simp;rfl)
 ·simp at hc
  have hk':k=t.length:=by omega
  subst hk'
  rw [List.take_length] at ha
  refine zu (za (zb ?_))
  exact zg (zk hd rfl (by cases t with | nil=>rfl | cons a t=>simp [yY,ha]))
theorem Zg6 (x:Inst) (t:zG) (ht:t.length<=1048576):Pure Tryz.prog 221 [.agg (QP x t)] (B (decide (t.map (·.c)).Nodup)):=by
 refine zz Tryz.func221 Tryz.ntmps221 Tryz.results221 fun S nx hd=>?_
 refine za (zb ?_)
 intro v0
 refine za (z8 [] (by rfl) (by rfl) fun K Gc Gh hK hGc hGh X hX0 hX=>?_)
 simp -implicitDefEqProofs [hX0,hX]
 try clear hX0 hX X
 refine hGc _ _ _ _ _ _ _ fun hsuf=>((QM t ht _ _ qN).mono ?_).v
 rintro _ _ ⟨v1,rfl,rfl⟩
 refine ⟨_,_,YC _,?_⟩
 clear hGc hGh
 clear Gc Gh
 refine zW hsuf (D:=[]) (by rfl) fun Gc Gh hGc hGh X hX0 hX=>?_
 simp -implicitDefEqProofs [hX0,hX,Nat.add_assoc]
 clear hX0 hX X
 rw [<-List.length_map (f:=fun s:Stop=>s.c)]
 refine hGc _ _ _ _ _ _ _ fun hsuf=>((Zb9 _ (by simp) (by simpa using ht)).mono ?_).v
 rintro _ _ ⟨rfl,rfl⟩
 refine ⟨_,_,qA _ (by simp) (by simp),?_⟩
 clear hGc hGh
 clear Gc Gh
 refine zW hsuf (D:=[]) (by rfl) fun Gc Gh hGc hGh X hX0 hX=>?_
 simp -implicitDefEqProofs [hX0,hX]
 clear hX0 hX X
 refine hK _ _ _ ?_
 clear hK hGc hGh
 clear K Gc Gh
 exact zg (zk hd rfl rfl)
theorem Zg7 (x:Inst) (t:zG) (ht:t.length<=1048576):Pure Tryz.prog 222 [.agg (QP x t)] (B (decide (W (zO t)<=x.cap))):=by
 refine zz Tryz.func222 Tryz.ntmps222 Tryz.results222 fun S nx hd=>?_
 refine za (zb ?_)
 intro v0
 refine za (zF none (Row.pures [0,1,2,3,4,5,6,7] .done) mixed trivial ?_)
 refine zN (Zb2 _ ht) trivial ?_
 exact zg (zk hd rfl rfl)
theorem Zg8 (x:Inst) (t:zG) (ht:t.length<=1048576) (hs:∀s∈t,small s.c):Pure Tryz.prog 223 [.agg (QP x t)] (B (decide (W (yc x (t.map (·.c)))<=x.len))):=by
 refine zz Tryz.func223 Tryz.ntmps223 Tryz.results223 fun S nx hd=>?_
 refine za (zb ?_)
 intro v0
 refine za (zF none (Row.pures [0,1,2,3,4,5,6,7,8,9] .done) mixed trivial ?_)
 refine zN (QN _ _ ht hs) trivial ?_
 exact zg (zk hd rfl rfl)
abbrev Zca:List PV:=[.fn (.func 220) [] [],I 1,.fn (.func 221) [] [],I 11,.fn (.func 222) [] [],I 12,.fn (.func 223) [] [],I 13]
theorem Zg9:Pure Tryz.prog 176 [] (.lst 4 Zca):=by
 refine zz Tryz.func176 Tryz.ntmps176 Tryz.results176 fun S nx hd=>?_
 refine za (zb ?_)
 refine za (zb ?_)
 exact zg (zk hd rfl rfl)
theorem QQ (x:Inst) (t:zG) (hx:x.cust.length<=1048576) (ht:t.length<=1048576):Pure Tryz.prog 136 [.agg (zv x),.agg [L t]] (I (zK x t)):=by
 refine zz Tryz.func136 Tryz.ntmps136 Tryz.results136 fun S nx hd=>?_
 refine za (zb ?_)
 intro v0 v1
 repeat apply za
 refine zb ?_
 refine zA Zg9 ?_
 refine zi (zB (fun s:Nat × Nat × Nat=>s.1<=4/\(1<=s.1->yY x t=true)/\(2<=s.1->(t.map (·.c)).Nodup)/\(3<=s.1->W (zO t)<=x.cap)/\(4<=s.1->W (yc x (t.map (·.c)))<=x.len)) (fun (k,v,v')=>[(2,.ptr nx v 0),(3,.ptr (nx+1) v' 0),(7,.lst 4 Zca),(8,I 4),(9,I k)]) (fun (k,v,v')=>[.cells v 25 (zv x),.cells v' 72 [L t]]) (fun s=>4-s.1) (0,v0,v1) [] (by simp) (by simp) (by simp) ?_)
 rintro ⟨k,v0,v1⟩ ⟨hk,i1,i2,i3,i4⟩
 simp only at hk i1 i2 i3 i4 ⊢
 have hsm:1<=k->∀s∈t,small s.c:=fun h=>Zb5 hx (by have:=i1 h;unfold yY at this;simp only [Bool.and_eq_true] at this;exact this.1)
 match k,hk with
 | 0,_ =>
  refine za (zb ?_)
  refine za (zm rfl (zh (za (zi (za (zb ?_))))))
  intros
  refine za (zb ?_)
  refine zA (Zg5 x t ht) ?_
  refine zr rfl (fun h1=>?_) (fun h1=>?_)
  ·simp at h1
   refine za (zb ?_)
   exact zg (zk hd rfl (by simp [zK,h1]))
  ·simp at h1
   refine zh (zb ?_)
   exact zq (1,v0,v1) [_] (by simp [h1]) (by simp) (by simp;rfl) rfl (by simp;rfl)
 | 1,_ =>
  refine za (zb ?_)
  refine za (zm rfl (zh (za (zi (za (zb ?_))))))
  intros
  refine za (zb ?_)
  refine zA (Zg6 x t ht) ?_
  refine zr rfl (fun h1=>?_) (fun h1=>?_)
  ·simp at h1
   refine za (zb ?_)
   exact zg (zk hd rfl (by simp [zK,h1,i1 (by omega)]))
  ·simp at h1
   refine zh (zb ?_)
   exact zq (2,v0,v1) [_] (by simp [h1,i1 (by omega)]) (by simp) (by simp;rfl) rfl (by simp;rfl)
 | 2,_ =>
  refine za (zb ?_)
  refine za (zm rfl (zh (za (zi (za (zb ?_))))))
  intros
  refine za (zb ?_)
  refine zA (Zg7 x t ht) ?_
  refine zr rfl (fun h1=>?_) (fun h1=>?_)
  ·simp at h1
   refine za (zb ?_)
   exact zg (zk hd rfl (by simp [zK,h1,i1 (by omega),i2 (by omega)]))
  ·simp at h1
   refine zh (zb ?_)
   exact zq (3,v0,v1) [_] (by simp [h1,i1 (by omega),i2 (by omega)]) (by simp) (by simp;rfl) rfl (by simp;rfl)
 | 3,_ =>
  refine za (zb ?_)
  refine za (zm rfl (zh (za (zi (za (zb ?_))))))
  intros
  refine za (zb ?_)
  refine zA (Zg8 x t ht (hsm (by omega))) ?_
  have h3:=Int.not_lt.2 (i3 (by omega))
  refine zr rfl (fun h1=>?_) (fun h1=>?_)
  ·simp at h1
   refine za (zb ?_)
   exact zg (zk hd rfl (by simp [zK,h1,i1 (by omega),i2 (by omega),h3]))
  ·simp at h1
   refine zh (zb ?_)
   exact zq (4,v0,v1) [_] (by simp [h1,i1 (by omega),i2 (by omega),i3 (by omega)]) (by simp) (by simp;rfl) rfl (by simp;rfl)
 | 4,_ =>
  refine za (zb ?_)
  refine za (zo rfl (zu (za (zb ?_))))
  exact zg (zk hd rfl (by simp [zK,i1 (by omega),i2 (by omega),Int.not_lt.2 (i3 (by omega)),Int.not_lt.2 (i4 (by omega))]))
open Go
def yh (x:Inst) (d:zj):Int :=
 match d.find? (fun t=>zK x t != 0) with
 | some t=>zK x t
 | none=>if ¬(d.flatten.map (·.c)).Nodup then 11 else if x.veh<d.length then 14 else 0
theorem Zcb {α:Type} {p:α->Bool} {l:List α} {k:Nat} {a:α} (h:(l.take k).find? p=none) (ht:l.take (k+1)=l.take k++[a]) (ha:p a=false):(l.take (k+1)).find? p=none:=by
 rw [ht,List.find?_append,h];simp [ha]
theorem WT {α:Type} {p:α->Bool} {l:List α} {k:Nat} {a:α} (h:(l.take k).find? p=none) (hd:l.drop k=a :: l.drop (k+1)) (ha:p a=true):l.find? p=some a:=by
 have e:l=l.take k++a :: l.drop (k+1):=by rw [<-hd,List.take_append_drop]
 rw [e,List.find?_append,h];simp [ha]
theorem Zcc (x:Inst) (d:zj) (hx:x.cust.length<=1048576) (hn:d.length<=1048576) (ht:∀t∈d,t.length<=1048576) (hf:d.flatten.length<=1048576):Pure Tryz.prog 159 [.agg (zv x),.agg [L d]] (I (yh x d)):=by
 refine zz Tryz.func159 Tryz.ntmps159 Tryz.results159 fun S nx hd=>?_
 refine za (zb ?_)
 intro v0 v1
 repeat apply za
 refine zb ?_
 refine zi (zB (fun s:Nat × Nat × Nat=>s.1<=d.length/\(d.take s.1).find? (fun t=>zK x t != 0)=none) (fun (k,v,v')=>[(2,.ptr nx v 0),(3,.ptr (nx+1) v' 0),(9,L d),(10,I d.length),(11,I k)]) (fun (k,v,v')=>[.cells v 25 (zv x),.cells v' 58 [L d]]) (fun s=>d.length-s.1) (0,v0,v1) [] (by simp) (by simp) (by simp) ?_)
 rintro ⟨k,v0,v1⟩ ⟨hk,ha⟩
 simp only at hk ha ⊢
 refine za (zb ?_)
 refine za (zr rfl (fun hc=>?_) (fun hc=>?_))
 ·simp at hc
  obtain ⟨t,tl,a1,a2,a3,e0⟩:=zC rfl d k hc
  refine zh (za (zi (za (ze [] (zn hc e0) ?_))))
  intros
  refine za (zb ?_)
  refine zA (QQ x t hx (ht t (List.mem_of_getElem? a1))) ?_
  refine za (zb ?_)
  refine zr rfl (fun h1=>?_) (fun h1=>?_)
  ·simp at h1
   refine za (zb ?_)
   exact zg (zk hd rfl (by simp only [yh,WT ha a2 (by simpa using h1)];simp))
  ·simp at h1
   refine zh (zb ?_)
   exact zq (k+1,v0,v1) [_] ⟨hc,Zcb ha a3 (by simpa using h1)⟩ (by simp;omega) (by simp [zt k (by omega)]) rfl (by simp;rfl)
 ·simp at hc
  have hk':k=d.length:=by omega
  subst hk'
  rw [List.take_length] at ha
  have hst:=Zb3 d hn hf
  have hres:yh x d=if ¬(d.flatten.map (·.c)).Nodup then 11 else if x.veh<d.length then 14 else 0:=by unfold yh;rw [ha]
  generalize d.flatten=fl at *
  refine zu ?_
  repeat apply za
  refine z8 [] (by rfl) (by rfl) fun K Gc Gh hK hGc hGh X hX0 hX=>?_
  simp -implicitDefEqProofs [hX0,hX]
  try clear hX0 hX X
  refine hGc _ _ _ _ _ _ _ fun hsuf=>((hst _).mono ?_).v
  rintro _ _ ⟨rfl,rfl⟩
  refine ⟨_,_,rfl,?_⟩
  clear hGc hGh
  clear Gc Gh
  refine zW hsuf (D:=[]) (by rfl) fun Gc Gh hGc hGh X hX0 hX=>?_
  simp -implicitDefEqProofs [hX0,hX]
  try clear hX0 hX X
  refine hGc _ _ _ _ _ _ _ fun hsuf=>((QM fl hf _ _ qN).mono ?_).v
  rintro _ _ ⟨v2,rfl,rfl⟩
  refine ⟨_,_,YC _,?_⟩
  clear hGc hGh
  clear Gc Gh
  refine zW hsuf (D:=[]) (by rfl) fun Gc Gh hGc hGh X hX0 hX=>?_
  simp -implicitDefEqProofs [hX0,hX,Nat.add_assoc]
  clear hX0 hX X
  rw [<-List.length_map (f:=fun s:Stop=>s.c)]
  refine hGc _ _ _ _ _ _ _ fun hsuf=>((Zb9 _ (by simp) (by simpa using hf)).mono ?_).v
  rintro _ _ ⟨rfl,rfl⟩
  refine ⟨_,_,qA _ (by simp) (by simp),?_⟩
  clear hGc hGh
  clear Gc Gh
  refine zW hsuf (D:=[]) (by rfl) fun Gc Gh hGc hGh X hX0 hX=>?_
  simp -implicitDefEqProofs [hX0,hX]
  clear hX0 hX X
  refine hK _ _ _ ?_
  clear hK hGc hGh
  clear K Gc Gh
  refine zr rfl (fun h2=>?_) (fun h2=>?_)
  ·simp at h2
   refine za (zb ?_)
   exact zg (zk hd rfl (by simp [hres,h2]))
  ·simp at h2
   refine zh ?_
   repeat apply za
   refine zb ?_
   refine zr rfl (fun h3=>?_) (fun h3=>?_)
   ·simp at h3
    refine za (zb ?_)
    exact zg (zk hd rfl (by simp [hres,h2,h3]))
   ·simp at h3
    refine zh (za (zb ?_))
    exact zg (zk hd rfl (by simp [hres,h2,Int.not_lt.2 h3]))
def qg (l:List Stop):zj:=l.map fun s=>[s]
theorem Zha (l:List Stop) (hl:l.length<=1048576):Pure Tryz.prog 210 [L l] (.agg [L (qg l)]):=by
 refine zz Tryz.func210 Tryz.ntmps210 Tryz.results210 fun S nx hd=>?_
 refine za (zb ?_)
 intro v0
 refine za (zb ?_)
 intro v1
 refine za (y8 1 0 72 1 rfl rfl fun v2=>?_)
 refine za (zb ?_)
 refine zi (zB (fun s:Nat × zj × Nat × Nat × Nat=>s.1<=l.length/\s.2.1=qg (l.take s.1)) (fun (k,out,v,v',v2)=>[(2,.ptr nx v 0),(3,.ptr (nx+1) v' 0),(6,L l),(7,I l.length),(8,I k)]) (fun (k,out,v,v',v2)=>[.cells v 58 [.sc (.slice none 0 0)],.cells v' 58 [.sl (nx+2) v2 1 0 out.length],.cells v2 72 (out.flatMap Enc.enc)]) (fun s=>l.length-s.1) (0,[],v0,v1,v2) [] (by simp [qg]) (by simp) (by simp) ?_)
 rintro ⟨k,out,v0,v1,v2⟩ ⟨hk,ho⟩
 simp only at hk ho ⊢
 refine za (zb ?_)
 refine za (zr rfl (fun hc=>?_) (fun hc=>?_))
 ·simp at hc
  obtain ⟨s,tl,a1,a2,a3,e1,e0⟩:=el 2 rfl l k hc
  refine zh (za (zi (za (ze [] (zn hc e0) ?_))))
  intros
  have hol:out.length=k:=by rw [ho];simp [qg];omega
  refine zb ?_
  refine ⟨by omega,?_⟩
  refine zb ?_
  exact zq (k+1,out++[[s]],v0,v1,v2+1) [_] (by simp [a3,ho,qg];omega) (by simp;omega) (by simp [zt k (by omega)]) rfl (by simp;rfl)
 ·simp at hc
  have hk':k=l.length:=by omega
  subst hk'
  refine zu (za (zb ?_))
  refine zX 2 rfl ?_
  exact zg (zk hd (by simp;rfl) (by simp [ho]))
open Go
theorem WU (s:Stop):Pure Tryz.prog 101 [.agg [I s.c,I s.q]] (.agg [L [s]]):=by
 refine zz Tryz.func101 Tryz.ntmps101 Tryz.results101 fun S nx hd=>?_
 refine za (zb ?_)
 intro v0 v1
 refine za (zb ?_)
 exact zg (zk hd (by simp;rfl) rfl)
theorem Zcd (l:List Int) (hl:l.length<=1048576) (hs:l.Pairwise (·<=·)):Pure Tryz.prog 135 [L l] (B (decide (¬l.Nodup))):=by
 refine zz Tryz.func135 Tryz.ntmps135 Tryz.results135 fun S nx hd=>?_
 refine za (zb ?_)
 repeat apply za
 refine zb ?_
 refine zi (zB (fun j:Nat=>(j=0\/j+1<=l.length)/\(l.take (j+1)).Nodup) (fun j=>[(0,L l),(3,I ((j+1:Nat):Int))]) (fun _=>[]) (fun j=>l.length-j) 0 [] (by cases l<;>simp) (by simp) (by simp) ?_)
 rintro j ⟨hj,hjn⟩
 repeat apply za
 refine zb ?_
 refine zr rfl (fun hc=>?_) (fun hc=>?_)
 ·simp at hc
  have hc':j+1<l.length:=by omega
  obtain ⟨c,tl1,b1,b2,b3,e1⟩:=zC rfl l (j+1) hc'
  obtain ⟨p,tl2,d1,d2,d3,e2⟩:=zC rfl l j (by omega)
  have wj:IntKind.i64.wrap (j:Int)=j:=wr _ (by omega) (by omega)
  have g1:(j:Int)<l.length:=by omega
  have g2:(j:Int)+1<l.length:=by omega
  have g3:0<=(j:Int)+1:=by omega
  refine zh (za (zi (za (zF none (Row.pures [0,1,2,3,4,5,6,7,8,9] .done) mixed (zL wj e1 e2 g1 g2 g3) ?_))))
  refine zr rfl (fun hq=>?_) (fun hq=>?_)
  ·simp at hq
   refine za (zb ?_)
   exact zg (zk hd rfl (by simp;exact WR b1 (by rw [d1,hq]) (by omega)))
  ·simp at hq
   refine zh (zb ?_)
   have w2:IntKind.i64.wrap ((j:Int)+1+1)=((j+1+1:Nat):Int):=by rw [wr _ (by omega) (by omega)];omega
   exact zq (j+1) [] ⟨by omega,Zb8 hs hjn d3 b3 (fun e=>hq e.symm)⟩ (by omega) (by simp [w2]) rfl (by simp)
 ·simp at hc
  refine zu (za (zb ?_))
  rw [List.take_of_length_le (by omega)] at hjn
  exact zg (zk hd rfl (by simp [hjn]))
theorem Zce (ss:List Stop) (hss:ss.length<=1048576):Pure Tryz.prog 133 [L ss] (L (yK (ss.map (·.c)))):=by
 have hcust:=fun S nx hd=>QM ss hss S nx hd
 obtain ⟨zs,hzs⟩:∃zs,zs=ss.map (·.c):=⟨_,rfl⟩
 have hzl:ss.length=zs.length:=by rw [hzs];simp
 rw [<-hzs,hzl] at hcust
 rw [<-hzs]
 have hz4:=Zj zs
 refine zz Tryz.func133 Tryz.ntmps133 Tryz.results133 fun S nx hd=>?_
 refine za (zb ?_)
 refine za (z8 [] (by rfl) (by rfl) fun K Gc Gh hK hGc hGh X hX0 hX=>?_)
 simp -implicitDefEqProofs [hX0,hX]
 try clear hX0 hX X
 refine hGc _ _ _ _ _ _ _ fun hsuf=>((hcust _ _ qN).mono ?_).v
 rintro _ _ ⟨v1,rfl,rfl⟩
 refine ⟨_,_,YC _,?_⟩
 clear hGc hGh
 clear Gc Gh
 refine zW hsuf (D:=[]) (by rfl) fun Gc Gh hGc hGh X hX0 hX=>?_
 simp -implicitDefEqProofs [hX0,hX,Nat.add_assoc]
 clear hX0 hX X
 refine hK _ _ _ ?_
 clear hK hGc hGh
 clear K Gc Gh
 refine za (z8 [] (by rfl) (by rfl) fun K Gc Gh hK hGc hGh X hX0 hX=>?_)
 simp -implicitDefEqProofs [hX0,hX]
 try clear hX0 hX X
 refine hGc _ _ _ _ _ _ _ fun hsuf=>((Xd zs (by simp) (by omega)).mono ?_).v
 rintro _ _ rfl
 refine ⟨_,_,qA _ (by simp) (by simp),?_⟩
 clear hGc hGh
 clear Gc Gh
 refine zW hsuf (D:=[]) (by rfl) fun Gc Gh hGc hGh X hX0 hX=>?_
 simp -implicitDefEqProofs [hX0,hX]
 clear hX0 hX X
 refine hK _ _ _ ?_
 clear hK hGc hGh
 clear K Gc Gh
 generalize yK zs=c at *
 rw [<-hz4]
 refine zX 1 rfl ?_
 refine za (zb ?_)
 exact zg (zk hd (by simp;rfl) rfl)
def jz (x:Inst) (l:List Stop):Int :=
 match l.find? (fun s=>zK x [s] != 0) with
 | some s=>zK x [s]
 | none=>if ¬(l.map (·.c)).Nodup then 11 else 0
theorem Zhb (x:Inst) (l:List Stop) (hx:x.cust.length<=1048576) (hl:l.length<=1048576):Pure Tryz.prog 167 [.agg (zv x),L l] (I (jz x l)):=by
 have hcu:=Zce l hl
 have hdo:=Zcd (yK (l.map (·.c))) (by rw [Zj];simpa using hl) (QO _)
 have hdd:decide (¬(yK (l.map (·.c))).Nodup)=decide (¬(l.map (·.c)).Nodup):=by rw [decide_eq_decide,WS]
 rw [hdd] at hdo
 refine zz Tryz.func167 Tryz.ntmps167 Tryz.results167 fun S nx hd=>?_
 refine za (zb ?_)
 intro v0
 repeat apply za
 refine zb ?_
 refine zi (zB (fun k:Nat=>k<=l.length/\(l.take k).find? (fun s=>zK x [s] != 0)=none) (fun k=>[(1,L l),(2,.ptr nx v0 0),(8,L l),(9,I l.length),(10,I k)]) (fun _=>[.cells v0 25 (zv x)]) (fun k=>l.length-k) 0 [] (by simp) (by simp) (by simp) ?_)
 rintro k ⟨hk,ha⟩
 refine za (zb ?_)
 refine za (zr rfl (fun hc=>?_) (fun hc=>?_))
 ·simp at hc
  obtain ⟨s,tl,a1,a2,a3,e1,e0⟩:=el 2 rfl l k hc
  refine zh (za (zi (za (ze [] (zE hc e1 e0) ?_))))
  intro v1
  refine za (zF none (Row.pures [0,1,2,3,4] .done) mixed trivial ?_)
  refine zN (WU s) trivial ?_
  refine zN (QQ x [s] hx (by simp)) trivial ?_
  refine za (zb ?_)
  refine zr rfl (fun h1=>?_) (fun h1=>?_)
  ·simp at h1
   refine za (zb ?_)
   exact zg (zk hd rfl (by simp only [jz,WT ha a2 (by simpa using h1)];simp))
  ·simp at h1
   refine zh (zb ?_)
   exact zq (k+1) [_] ⟨hc,Zcb ha a3 (by simpa using h1)⟩ (by omega) (by simp [zt k (by omega)]) rfl (by simp;rfl)
 ·simp at hc
  obtain rfl:k=l.length:=by omega
  rw [List.take_length] at ha
  have hres:jz x l=if ¬(l.map (·.c)).Nodup then 11 else 0:=by unfold jz;rw [ha]
  refine zu ?_
  repeat apply za
  refine zb ?_
  refine zA hcu ?_
  refine zA hdo ?_
  by_cases h2:(l.map (·.c)).Nodup
  ·repeat apply za
   refine zo (by simp [h2]) ?_
   refine zh (za (zb ?_))
   exact zg (zk hd (by simp;rfl) (by simp [hres,h2,zp]))
  ·repeat apply za
   refine zm (by simp [h2]) ?_
   refine za (zb ?_)
   exact zg (zk hd (by simp;rfl) (by simp [hres,h2,zp]))
theorem Zhc (x:Inst) (d:zj) (hx:x.cust.length<=1048576) (hn:d.length<=1048576) (ht:∀t∈d,t.length<=1048576) (hf:d.flatten.length<=1048576):Pure Tryz.prog 52 [.agg (zv x),.agg [L d]] (I (yh x d)):=by
 refine zz Tryz.func52 Tryz.ntmps52 Tryz.results52 fun S nx hd=>?_
 refine za (zb ?_)
 intro v0 v1
 refine za (zb ?_)
 refine za (yT 5 3 1 rfl fun v2=>?_)
 refine za (zb ?_)
 refine zi (zB (fun s:Nat × List Int × Nat=>s.1<=d.length/\s.2.1=(d.take s.1).flatten.map (·.c)/\(d.take s.1).find? (fun t=>zK x t != 0)=none) (fun (k,out,v2)=>[(2,.ptr nx v0 0),(3,.ptr (nx+1) v1 0),(5,.sl (nx+2) v2 1 0 out.length),(6,I k)]) (fun (k,out,v2)=>[.cells v0 25 (zv x),.cells v1 58 [L d],.cells v2 3 (out.flatMap Enc.enc)]) (fun s=>d.length-s.1) (0,[],v2) [] (by simp) (by simp) (by simp) ?_)
 rintro ⟨k,out,v2⟩ ⟨hk,ho,ha⟩
 simp only at hk ho ha ⊢
 have hol:out.length=(d.take k).flatten.length:=by rw [ho,List.length_map]
 repeat apply za
 refine zb ?_
 refine zr rfl (fun hc=>?_) (fun hc=>?_)
 ·simp at hc
  obtain ⟨t,tl,a1,a2,a3,e0⟩:=zC rfl d k hc
  have htl:=ht t (List.mem_of_getElem? a1)
  have hlen:(d.take (k+1)).flatten.length<=1048576:=by
   have:(d.take (k+1)).flatten.length+(d.drop (k+1)).flatten.length=d.flatten.length:=by rw [<-List.length_append,<-List.flatten_append,List.take_append_drop]
   omega
  rw [a3,List.flatten_append,List.length_append,List.flatten_cons,List.flatten_nil,List.append_nil] at hlen
  have hol2:out.length+t.length<=1048576:=by rw [hol];exact hlen
  refine zh (za (zi (za (zF (some [nx,nx+1]) (Row.pures [0,1,2,3,4,5,6,7] .done) mixed (zn hc e0) ?_))))
  refine zN (Zb6 x t hx htl) trivial ?_
  by_cases hm:zK x t=0
  ·repeat apply za
   refine ze [] hm ?_
   refine zo (by simp) ?_
   refine zh (ze [] (zn hc e0) ?_)
   refine zA (Zb0 t htl) ?_
   refine ⟨by omega,?_⟩
   refine zb ?_
   exact zq (k+1,out++t.map (·.c),v2+1) [] ⟨hc,by rw [a3,ho];simp,by rw [a3,List.find?_append,ha];simp [hm]⟩ (by simp;omega) (by simp [zt k (by omega)]) rfl (by simp)
  ·have hfi:=WT ha a2 (by simpa using hm)
   repeat apply za
   refine ze [] hm ?_
   refine zm (by simp [hm]) ?_
   refine za (zb ?_)
   exact zg (zk hd (by simp;rfl) (by simp only [yh,hfi,zp]))
 ·simp at hc
  obtain rfl:k=d.length:=by omega
  rw [List.take_length] at ho ha hol
  have hres:yh x d=if ¬(d.flatten.map (·.c)).Nodup then 11 else if x.veh<d.length then 14 else 0:=by unfold yh;rw [ha]
  have htw:=Zb1 out (by omega)
  rw [<-ho] at hres
  clear ho
  refine zu (zX 2 rfl ?_)
  repeat apply za
  refine zb ?_
  refine zA htw ?_
  by_cases h2:out.Nodup
  ·repeat apply za
   refine zo (by simp [h2]) ?_
   refine zh ?_
   repeat apply za
   refine zb ?_
   by_cases h3:x.veh<d.length
   ·repeat apply za
    refine zm (by simp [h3]) ?_
    refine za (zb ?_)
    exact zg (zk hd (by simp;rfl) (by rw [hres];simp [h2,h3,zp]))
   ·repeat apply za
    refine zo (by simp;omega) ?_
    refine zh (za (zb ?_))
    exact zg (zk hd (by simp;rfl) (by rw [hres];simp [h2,h3,zp]))
  ·repeat apply za
   refine zm (by simp [h2]) ?_
   refine za (zb ?_)
   exact zg (zk hd (by simp;rfl) (by rw [hres];simp [h2,zp]))
open Go
structure KeyOk {α:Type} [DecidableEq α] (d:TypeDesc) (key:α->Value):Prop where
 same:∀a b,Instr.sameNow d (key a) (key b)=some (decide (a=b))
theorem Z2 (k:IntKind):KeyOk (.int k) (fun i:Int=>Value.int k i):=⟨fun a b=>by
 simp only [Instr.sameNow]
 by_cases e:a=b<;>simp [e]⟩
def MapIs {α β:Type} (key:α->Value) (enc:β->PV) (es:List (Value × PV)) (g:α->Option β):Prop :=
 ∃l:List (α × β),es=l.map (fun x=>(key x.1,enc x.2))/\(l.map (·.1)).Nodup/\(∀a b,(a,b)∈l<->g a=some b)
def qp {α β:Type} [DecidableEq α] (g:α->Option β) (a:α) (v:Option β):α->Option β:=fun x=>if x=a then v else g x
theorem Zcf {α β:Type} (key:α->Value) (enc:β->PV):MapIs key enc [] (fun _=>none):=⟨[],rfl,by simp,by simp⟩
theorem Zcg {α β:Type} [DecidableEq α] {d:TypeDesc} {key:α->Value} {enc:β->PV} (hk:KeyOk d key) (a:α):∀(l:List (α × β)) (i:Nat),a ∉ l.map (·.1)->j7 d (key a) (l.map fun x=>(key x.1,enc x.2)) i=some none
 | [],_,_=>rfl
 | x :: l,i,h=>by
  simp only [List.map_cons,List.mem_cons,not_or] at h
  simp only [List.map_cons,j7,hk.same,decide_eq_false h.1]
  exact Zcg hk a l (i+1) h.2
theorem Zch {α β:Type} [DecidableEq α] {d:TypeDesc} {key:α->Value} {enc:β->PV} (hk:KeyOk d key) (a:α) (b:β):∀(l:List (α × β)) (i:Nat),(l.map (·.1)).Nodup->(a,b)∈l ->
  ∃j,l[j]?=some (a,b)/\j7 d (key a) (l.map fun x=>(key x.1,enc x.2)) i=some (some (i+j,enc b))
 | [],_,_,h=>by cases h
 | x :: l,i,hn,h=>by
  simp only [List.map_cons,List.nodup_cons] at hn
  by_cases e:a=x.1
  ·have hx:x=(a,b):=by
    rcases List.mem_cons.1 h with h | h
    ·exact h.symm
    ·exact absurd (List.mem_map.2 ⟨_,h,e⟩) hn.1
   subst hx
   exact ⟨0,rfl,by simp [j7,hk.same]⟩
  ·have hm:(a,b)∈l:=by
    rcases List.mem_cons.1 h with h | h
    ·exact absurd (by rw [<-h]) e
    ·exact h
   obtain ⟨j,h1,h2⟩:=Zch hk a b l (i+1) hn.2 hm
   refine ⟨j+1,by simpa using h1,?_⟩
   simp only [List.map_cons,j7,hk.same,decide_eq_false e]
   rw [h2,show i+1+j=i+(j+1) by omega]
theorem MapIs.find {α β:Type} [DecidableEq α] {d:TypeDesc} {key:α->Value} {enc:β->PV} {es:List (Value × PV)} {g:α->Option β} (hk:KeyOk d key) (h:MapIs key enc es g) (a:α) :
  ∃res,j7 d (key a) es 0=some res/\(g a=none->res=none)/\(∀b,g a=some b->∃j,res=some (j,enc b))/\(∀b,MapIs key enc (qX (key a) (enc b) es res) (qp g a (some b)))/\MapIs key enc (QB es res) (qp g a none):=by
 obtain ⟨l,rfl,hn,hg⟩:=h
 cases hga:g a with
 | none =>
  have hna:a ∉ l.map (·.1):=by
   intro hm
   obtain ⟨x,hx,rfl⟩:=List.mem_map.1 hm
   have:=(hg x.1 x.2).1 hx
   rw [hga] at this;cases this
  have q1:∀b,MapIs key enc (qX (key a) (enc b) (l.map fun x=>(key x.1,enc x.2)) none) (qp g a (some b)):=fun b=>by
   refine ⟨l++[(a,b)],by simp [qX],?_,fun a' b'=>?_⟩
   rotate_left
   focus
    unfold qp
    by_cases e:a'=a
    ·subst e
     simp only [if_pos,List.mem_append,List.mem_singleton,hg,hga]
     simp [eq_comm]
    ·simp [List.mem_append,hg,e]
   rw [List.map_append,List.nodup_append]
   refine ⟨hn,by simp,fun x hx y hy=>?_⟩
   simp at hy;subst hy
   exact fun e=>hna (e ▸ hx)
  refine ⟨none,Zcg hk a l 0 hna,(by intro _;rfl),(by intro b hb;cases hb),q1,l,by simp [QB],hn,fun a' b'=>?_⟩
  ·unfold qp
   by_cases e:a'=a
   ·subst e;simp [hg,hga]
   ·simp [if_neg e,hg]
 | some b0 =>
  obtain ⟨j,h1,h2⟩:=Zch (enc:=enc) hk a b0 l 0 hn ((hg a b0).2 hga)
  have hj:j<l.length:=(List.getElem?_eq_some_iff.1 h1).1
  have hja:l[j]=(a,b0):=(List.getElem?_eq_some_iff.1 h1).2
  have huniq:∀(i:Nat) (hi:i<l.length),l[i].1=a->i=j:=by
   intro i hi he
   have hp:=List.pairwise_iff_getElem.1 hn
   rcases Nat.lt_trichotomy i j with h | h | h
   ·exact absurd (show (l.map (·.1))[i]'(by simpa using hi)=(l.map (·.1))[j]'(by simpa using hj) by rw [List.getElem_map,List.getElem_map,he,hja]) (hp i j (by simpa using hi) (by simpa using hj) h)
   ·exact h
   ·exact absurd (show (l.map (·.1))[j]'(by simpa using hj)=(l.map (·.1))[i]'(by simpa using hi) by rw [List.getElem_map,List.getElem_map,he,hja]) (hp j i (by simpa using hj) (by simpa using hi) h)
  suffices hh:(∀b,MapIs key enc (qX (key a) (enc b) (l.map fun x=>(key x.1,enc x.2)) (some (0+j,enc b0))) (qp g a (some b)))/\MapIs key enc (QB (l.map fun x=>(key x.1,enc x.2)) (some (0+j,enc b0))) (qp g a none) from
   ⟨some (0+j,enc b0),h2,(by intro h;cases h),(by intro b hb;cases hb;exact ⟨_,rfl⟩),hh.1,hh.2⟩
  refine ⟨fun b=>⟨l.set j (a,b),?_,?_,fun a' b'=>?_⟩,l.eraseIdx j,?_,?_,fun a' b'=>?_⟩
  ·simp [qX,List.map_set]
  ·rw [List.map_set]
   have:(l.map (·.1)).set j a=l.map (·.1):=by
    apply List.ext_getElem?
    intro i
    rw [List.getElem?_set]
    split
    ·rename_i e;subst e;simp [hj,hja]
    ·rfl
   rw [this];exact hn
  ·unfold qp
   rw [List.mem_iff_getElem?]
   constructor
   ·rintro ⟨i,hi⟩
    rw [List.getElem?_set] at hi
    by_cases hij:j=i
    ·subst hij
     simp [hj] at hi
     rw [if_pos hi.1.symm,hi.2]
    ·have hne:=hij
     rw [if_neg hij] at hi
     have hil:=(List.getElem?_eq_some_iff.1 hi).1
     have hie:=(List.getElem?_eq_some_iff.1 hi).2
     by_cases e:a'=a
     ·exact absurd (huniq i hil (by rw [hie];exact e)).symm hne
     ·rw [if_neg e];exact (hg a' b').1 (List.mem_of_getElem? hi)
   ·intro h
    by_cases e:a'=a
    ·rw [if_pos e] at h;cases h
     exact ⟨j,by rw [List.getElem?_set];simp [hj,e]⟩
    ·rw [if_neg e] at h
     obtain ⟨i,hi⟩:=List.mem_iff_getElem?.1 ((hg a' b').2 h)
     refine ⟨i,?_⟩
     rw [List.getElem?_set]
     rw [if_neg]
     ·exact hi
     ·rintro rfl;rw [h1] at hi;cases hi;exact e rfl
  ·simp only [QB,Nat.zero_add]
   apply List.ext_getElem?
   intro i
   simp only [List.getElem?_eraseIdx,List.getElem?_map]
   split<;>rfl
  ·refine hn.sublist ?_
   exact (List.eraseIdx_sublist l j).map _
  ·unfold qp
   by_cases e:a'=a
   ·rw [if_pos e]
    refine ⟨fun h=>?_,fun h=>by cases h⟩
    obtain ⟨i,hi⟩:=List.mem_iff_getElem?.1 h
    rw [List.getElem?_eraseIdx] at hi
    split at hi
    ·have hil:=(List.getElem?_eq_some_iff.1 hi).1
     have:=huniq i hil (by rw [(List.getElem?_eq_some_iff.1 hi).2];exact e)
     omega
    ·have hil:=(List.getElem?_eq_some_iff.1 hi).1
     have:=huniq (i+1) hil (by rw [(List.getElem?_eq_some_iff.1 hi).2];exact e)
     omega
   ·rw [if_neg e,<-hg]
    refine ⟨fun h=>(List.eraseIdx_sublist l j).subset h,fun h=>?_⟩
    obtain ⟨i,hi⟩:=List.mem_iff_getElem?.1 h
    have hij:i≠j:=by rintro rfl;rw [h1] at hi;cases hi;exact e rfl
    rw [List.mem_iff_getElem?]
    by_cases hlt:i<j
    ·exact ⟨i,by rw [List.getElem?_eraseIdx,if_pos hlt];exact hi⟩
    ·refine ⟨i-1,?_⟩
     rw [List.getElem?_eraseIdx,if_neg (by omega)]
     rw [show i-1+1=i by omega];exact hi
open Go Hp
abbrev yL:Int->Int->Bool:=fun a b=>decide (a<b)
theorem vw:Str yL:=⟨fun a=>by simp,fun a b c h1 h2=>by simp at *;omega,fun a b h1 h2=>by simp at *;omega⟩
def yd (x:Int × Int):List PV:=[.sc (.int .i64 x.1),.sc (.int .i64 x.2)]
theorem Zk (x:Int × Int):(yd x).length=2:=rfl
abbrev qh (x:Int):Value:=.int .i64 x
structure PosOk (g:Int->Option Nat) (l:zI Int):Prop where
 here:∀i,i<l.length->g (zy l i).1=some i
 gone:∀id,(∀i,i<l.length->(zy l i).1≠id)->g id=none
abbrev WV (i:Nat):PV:=.sc (.int .i64 (i:Int))
def RowIs (cs:List PV) (l:zI Int):Prop:=∃rest,cs=l.flatMap yd++rest
theorem RowIs.at {cs:List PV} {l:zI Int} (h:RowIs cs l) (i:Nat) (hi:i<l.length):∃tl,cs.drop (i*2)=.sc (.int .i64 (zy l i).1) :: .sc (.int .i64 (zy l i).2) :: tl:=by
 obtain ⟨rest,rfl⟩:=h
 refine ⟨(l.drop (i+1)).flatMap yd++rest,?_⟩
 rw [List.drop_append_of_le_length (by rw [Yu yd 2 Zk];omega),Zbj yd 2 Zk l i hi]
 have:zy l i=l[i]:=by unfold zy;simp [hi]
 rw [this];rfl
theorem RowIs.big {cs:List PV} {l:zI Int} (h:RowIs cs l):l.length*2<=cs.length:=by
 obtain ⟨rest,rfl⟩:=h
 rw [List.length_append,Yu yd 2 Zk];omega
theorem RowIs.put {cs:List PV} {l:zI Int} (h:RowIs cs l) (i:Nat) (hi:i<l.length) (x:Int × Int):RowIs (yb cs (i*2) [.sc (.int .i64 x.1),.sc (.int .i64 x.2)]) (l.set i x):=by
 obtain ⟨rest,rfl⟩:=h
 refine ⟨rest,?_⟩
 have hl:(l.flatMap yd).length=l.length*2:=Yu yd 2 Zk l
 show List.take (i*2) (l.flatMap yd++rest)++yd x++List.drop (i*2+2) (l.flatMap yd++rest)=_
 rw [List.take_append_of_le_length (by omega),uK yd 2 Zk,show i*2+2=(i+1)*2 by omega,List.drop_append_of_le_length (by omega),ZX yd 2 Zk]
 rw [List.set_eq_take_append_cons_drop,if_pos hi]
 simp
theorem RowIs.take {cs:List PV} {l:zI Int} (h:RowIs cs l):cs.take (l.length*2)=l.flatMap yd:=by
 obtain ⟨rest,rfl⟩:=h
 rw [List.take_append_of_le_length (by rw [Yu yd 2 Zk];omega),uK yd 2 Zk,List.take_length]
structure HS (S:Store) (hid hv rid mid mv:Nat) (l:zI Int) (g:Int->Option Nat):Prop where
 h:∃ver,S hid=.cells hv 327 [.sl rid ver 2 0 l.length,.mp mid mv]/\∃cs,S rid=.cells ver 332 cs/\RowIs cs l
 m:∃es,S mid=.map mv es/\MapIs qh WV es g
 ne:hid≠rid/\hid≠mid/\rid≠mid
 len:l.length<=2147483648
def Offd (S:Store) (ids:List Nat) (S':Store):Prop:=∀o,o ∉ ids->S' o=S o\/S o=.dead
def Off (S:Store) (ids:List Nat) (S':Store):Prop:=∀o,o ∉ ids->S' o=S o
theorem Offd.refl (S:Store) (ids:List Nat):Offd S ids S:=fun _ _=>.inl rfl
theorem Offd.set {S T:Store} {ids:List Nat} (h:Offd S ids T) {o:Nat} (ho:o∈ids\/S o=.dead) (x:Ob):Offd S ids (T.set o x):=by
 intro i hi
 by_cases e:i=o
 ·subst e;exact .inr (ho.resolve_left hi)
 ·rw [qH _ _ _ _ e];exact h i hi
theorem Off.offd {S T:Store} {ids:List Nat} (h:Off S ids T):Offd S ids T:=fun o ho=>.inl (h o ho)
theorem Off.trans {S T U:Store} {ids:List Nat} (h:Off S ids T) (k:Off T ids U):Off S ids U:=fun o ho=>(k o ho).trans (h o ho)
def cut (S:Store) (ids:List Nat) (S':Store):Store:=fun o=>if o∈ids then S' o else S o
theorem ud (S:Store) (ids:List Nat) (S':Store):Off S ids (cut S ids S'):=fun o ho=>by simp [cut,ho]
theorem Zhd (S:Store) (ids:List Nat) (S':Store) {o:Nat} (h:o∈ids):cut S ids S' o=S' o:=by simp [cut,h]
theorem ue {S S':Store} {ids:List Nat} (h:Offd S ids S'):∀o,cut S ids S' o=S' o\/cut S ids S' o=.dead:=by
 intro o
 unfold cut
 split
 ·exact .inl rfl
 ·rename_i ho
  rcases h o ho with h | h
  ·exact .inl h.symm
  ·exact .inr h
theorem HS.congr {S T:Store} {hid hv rid mid mv:Nat} {l:zI Int} {g:Int->Option Nat} (h:HS S hid hv rid mid mv l g) (e:∀o∈[hid,rid,mid],T o=S o):HS T hid hv rid mid mv l g:=by
 obtain ⟨ver,h1,cs,h2,hR⟩:=h.h
 obtain ⟨es,h3⟩:=h.m
 exact ⟨⟨ver,by rw [e _ (by simp)];exact h1,cs,by rw [e _ (by simp)];exact h2,hR⟩,⟨es,by rw [e _ (by simp)];exact h3⟩,h.ne,h.len⟩
theorem HS.cut {S T:Store} {hid hv rid mid mv:Nat} {l:zI Int} {g:Int->Option Nat} (h:HS T hid hv rid mid mv l g):HS (cut S [hid,rid,mid] T) hid hv rid mid mv l g:=h.congr fun _ ho=>Zhd _ _ _ ho
theorem xB (S:Store) (o:Nat) (x:Ob) (i:Nat):S.set o x i=if i=o then x else S i:=by
 split
 ·rename_i h;subst h;exact Store.set_same ..
 ·rename_i h;exact qH _ _ _ _ h
theorem Zci {S:Store} {o i:Nat} {x:Ob} (h:S.set o x i=.dead) (hx:x≠.dead):i≠o/\S i=.dead:=by
 rw [xB] at h
 split at h
 ·exact absurd h hx
 ·rename_i e;exact ⟨e,h⟩
theorem we {S:Store} {o i:Nat} {x:Ob} (h:S o=x) (hx:x≠.dead) (d:S i=.dead):o≠i:=by
 rintro rfl;rw [h] at d;exact hx d
theorem Zhe {S:Store} {hid hv rid mid mv:Nat} {l:zI Int} {g:Int->Option Nat} (hs:HS S hid hv rid mid mv l g) :
  PCalls Tryz.prog 319 [.ptr hid hv 0] S (fun p S'=>p=zS l.length/\S'=S):=by
 obtain ⟨ver,h1,cs,h2,hR⟩:=hs.h
 refine xN Tryz.func319 rfl Tryz.ntmps319 (congrArg Array.toList Tryz.results319) (by simp) ?_
 refine za (qf (by rfl) (by simp;rfl) (za (yG [] (by rfl) fun K hK=>?_)))
 simp [h1]
 refine hK _ _ (zg ?_)
 simp [xM,zS]
theorem Zhf {S:Store} {hid hv rid mid mv:Nat} {l:zI Int} {g:Int->Option Nat} (hs:HS S hid hv rid mid mv l g) (i j:Nat) (hi:i<l.length) (hj:j<l.length) :
  PCalls Tryz.prog 320 [.ptr hid hv 0,zS i,zS j] S (fun p S'=>p=xy (il yL (zy l i) (zy l j))/\S'=S):=by
 obtain ⟨ver,h1,cs,h2,hR⟩:=hs.h
 obtain ⟨tl1,e1⟩:=hR.at i hi
 obtain ⟨tl2,e2⟩:=hR.at j hj
 refine xN Tryz.func320 rfl Tryz.ntmps320 (congrArg Array.toList Tryz.results320) (by simp) ?_
 refine za (qf (by rfl) (by simp;rfl) (za ?_))
 refine ZV (some [hid,rid]) (Row.pures [0,1,2,3,4,5,6,7,8,9,10,11,12,13] (.alt 14 (.alt 15 (.alt 16 (.alt 17 (.done) .stop) .stop) .stop) (.alt 15 (.alt 14 (.alt 16 (.alt 17 (.done) .stop) .stop) .stop) .stop))) mixed (by rfl) (by rfl) (by rfl) fun K hK=>?_
 have z1:hid≠rid:=hs.ne.1
 have tail:∀(F:Nat->PV) (T:Store) (a b:Nat),F 7=.ptr a 0 0->F 8=.ptr b 0 0->T a=.cells 0 332 (yd (zy l i))->T b=.cells 0 332 (yd (zy l j))->Offd S [] T->K F T:=by
  intro F T a b f7 f8 ta tb hoff
  have fin:∀o,S o=T o\/S o=.dead:=fun o=>(hoff o (by simp)).imp Eq.symm id
  refine hK _ _ ?_
  refine za (za (yG [] (by rfl) fun K' hK'=>?_))
  simp [f7,f8,ta,tb,yd]
  refine hK' _ _ (zr rfl (fun hc=>?_) (fun hc=>?_))
  ·refine za (yG [] (by rfl) fun K2 hK2=>?_)
   simp [f7,f8,ta,tb,yd]
   refine hK2 _ _ (zg ⟨_,S,rfl,⟨?_,rfl⟩,fin⟩)
   simp at hc
   simp [il,hc,xy]
  ·refine zh (za (yG [] (by rfl) fun K2 hK2=>?_))
   simp [f7,f8,ta,tb,yd]
   refine hK2 _ _ (zg ⟨_,S,rfl,⟨?_,rfl⟩,fin⟩)
   simp at hc
   simp [il,hc,xy]
 simp [h1,h2,hi,hj,e1,e2,zS]
 constructor
 ·refine ZW rfl (by simp;rfl) (by simp) fun a ha=>?_
  have n1:=we h1 (by simp) ha
  have n2:=we h2 (by simp) ha
  simp [h1,h2,xB,n1,n2]
  refine ZW rfl (by simp;rfl) (by simp) fun b hb=>?_
  have n3:=Zci hb (by simp)
  have n4:=we h1 (by simp) n3.2
  have n5:=we h2 (by simp) n3.2
  simp [h1,h2,xB,n1,n2,n3,n4,n5,n3.1.symm]
  exact tail _ _ a b rfl rfl (by simp [xB,n3.1,n3.1.symm,yd]) (by simp [xB,n3.1,n3.1.symm,yd]) (by repeat (first | exact Offd.refl _ _ | refine Offd.set ?_ (by first | exact .inr ha | exact .inr n3.2) _))
 ·refine ZW rfl (by simp;rfl) (by simp) fun a ha=>?_
  have n1:=we h1 (by simp) ha
  have n2:=we h2 (by simp) ha
  simp [h1,h2,xB,n1,n2]
  refine ZW rfl (by simp;rfl) (by simp) fun b hb=>?_
  have n3:=Zci hb (by simp)
  have n4:=we h1 (by simp) n3.2
  have n5:=we h2 (by simp) n3.2
  simp [h1,h2,xB,n1,n2,n3,n4,n5,n3.1.symm]
  exact tail _ _ b a rfl rfl (by simp [xB,n3.1,n3.1.symm,yd]) (by simp [xB,n3.1,n3.1.symm,yd]) (by repeat (first | exact Offd.refl _ _ | refine Offd.set ?_ (by first | exact .inr ha | exact .inr n3.2) _))
theorem Zhg {S:Store} {hid hv rid mid mv:Nat} {l:zI Int} {g:Int->Option Nat} (hs:HS S hid hv rid mid mv l g) (i j:Nat) (hi:i<l.length) (hj:j<l.length) :
  PCalls Tryz.prog 323 [.ptr hid hv 0,zS i,zS j] S (fun _ S'=>Off S [hid,rid,mid] S'/\HS S' hid hv rid mid mv (swp l i j) (qp (qp g (zy (swp l i j) i).1 (some i)) (zy (swp l i j) j).1 (some j))):=by
 obtain ⟨ver,h1,cs,h2,hR⟩:=hs.h
 obtain ⟨es,h3,h4⟩:=hs.m
 obtain ⟨z1,z2,z3⟩:=hs.ne
 obtain ⟨tl1,e1⟩:=hR.at i hi
 obtain ⟨tl2,e2⟩:=hR.at j hj
 have b0:=hR.big
 have b1:i*2+2<=cs.length:=by omega
 have b2:j*2+2<=cs.length:=by omega
 refine xN Tryz.func323 rfl Tryz.ntmps323 (congrArg Array.toList Tryz.results323) (by simp) ?_
 refine za (ZV (some [hid]) (Row.pures [0,1,2,3,4,5,6,7,8,9,10,11,12,13,14,15,17,18,19,20,21,22] (.alt 16 (.alt 23 (Row.pures [24] (.alt 25 (Row.pures [26] (.alt 27 (.done) .stop)) .stop)) .stop) (.alt 23 (.alt 16 (Row.pures [24] (.alt 25 (Row.pures [26] (.alt 27 (.done) .stop)) .stop)) .stop) .stop))) mixed (by rfl) (by rfl) (by rfl) fun K hK=>?_)
 have r1:=(hR.put i hi (zy l j)).put j (by simpa using hj) (zy l i)
 have hsw:(l.set i (zy l j)).set j (zy l i)=swp l i j:=rfl
 rw [hsw] at r1
 have hsl:(swp l i j).length=l.length:=wU l i j
 have tail:∀(F:Nat->PV),F 0=.ptr hid hv 0->F 1=zS i->F 2=zS j->K F (S.set rid (.cells ver 332 (yb (yb cs (i*2) [.sc (.int .i64 (zy l j).1),.sc (.int .i64 (zy l j).2)]) (j*2) [.sc (.int .i64 (zy l i).1),.sc (.int .i64 (zy l i).2)]))):=by
  intro F f0 f1 f2
  refine hK _ _ ?_
  generalize hcs':yb (yb cs (i*2) [.sc (.int .i64 (zy l j).1),.sc (.int .i64 (zy l j).2)]) (j*2) [.sc (.int .i64 (zy l i).1),.sc (.int .i64 (zy l i).2)]=cs' at r1
  obtain ⟨tl1,e1⟩:=r1.at i (by omega)
  obtain ⟨tl2,e2⟩:=r1.at j (by omega)
  have b0:=r1.big
  have b1:i*2+2<=cs'.length:=by omega
  have b2:j*2+2<=cs'.length:=by omega
  have hT:Offd S [hid,rid,mid] (S.set rid (.cells ver 332 cs')):=(Offd.refl _ _).set (.inl (by simp)) _
  have t1:S.set rid (.cells ver 332 cs') hid=_:=(qH _ _ _ _ z1).trans h1
  have t2:S.set rid (.cells ver 332 cs') rid=_:=Store.set_same _ _ _
  have t3:S.set rid (.cells ver 332 cs') mid=_:=(qH _ _ _ _ (Ne.symm z3)).trans h3
  generalize S.set rid (.cells ver 332 cs')=T at hT t1 t2 t3
  obtain ⟨res,m1,_,_,m2,_⟩:=h4.find (Z2 .i64) (zy (swp l i j) i).1
  refine za (ZV (some [hid,rid]) (Row.pures [0,1,2,3,4,5,6,7,8,9,10,11,12] (.alt 13 (.done) .stop)) mixed (by rfl) (by rfl) (by rfl) fun K hK=>?_)
  simp -implicitDefEqProofs [f0,f1,f2,t1,t2,hi,hj,e1,e2,zS,b1,b2]
  refine QA (.inl rfl) Tryz.underlying286 Tryz.underlying3 rfl rfl rfl t3 m1 ?_
  simp -implicitDefEqProofs [qH,z2,z3,t1,t2]
  refine hK _ _ ?_
  clear hK
  have u1:T.set mid (.map mv (qX (qh (zy (swp l i j) i).1) (zS i) es res)) hid=_:=(qH _ _ _ _ z2).trans t1
  have u2:T.set mid (.map mv (qX (qh (zy (swp l i j) i).1) (zS i) es res)) rid=_:=(qH _ _ _ _ z3).trans t2
  have u3:T.set mid (.map mv (qX (qh (zy (swp l i j) i).1) (zS i) es res)) mid=_:=Store.set_same _ _ _
  have hU:Offd S [hid,rid,mid] (T.set mid (.map mv (qX (qh (zy (swp l i j) i).1) (zS i) es res))):=hT.set (.inl (by simp)) _
  have m3:=m2 i
  obtain ⟨res2,m4,_,_,m5,_⟩:=m3.find (Z2 .i64) (zy (swp l i j) j).1
  show PW _ _ _ _ _ _ _ (T.set mid (.map mv (qX (qh (zy (swp l i j) i).1) (zS i) es res)))
  change MapIs qh WV (qX (qh (zy (swp l i j) i).1) (zS i) es res) _ at m3
  generalize T.set mid (.map mv (qX (qh (zy (swp l i j) i).1) (zS i) es res))=U at u1 u2 u3 hU
  refine ZV (some [hid,rid]) (Row.pures [0,1,2,3,4,5,6,7,8,9,10,11,12] (.alt 13 (.done) .stop)) mixed (by rfl) (by rfl) (by rfl) fun K hK=>?_
  simp -implicitDefEqProofs [f0,f1,f2,u1,u2,hi,hj,e1,e2,zS,b1,b2]
  refine QA (.inl rfl) Tryz.underlying286 Tryz.underlying3 rfl rfl rfl u3 m4 ?_
  simp -implicitDefEqProofs [qH,z2,z3,u1,u2]
  refine hK _ _ ⟨_,_,rfl,⟨ud _ _ _,HS.cut ⟨⟨ver,?_,cs',?_,r1⟩,⟨_,?_,m5 j⟩,⟨z1,z2,z3⟩,?_⟩⟩,ue (hU.set (.inl (by simp)) _)⟩
  ·rw [qH _ _ _ _ z2,u1,hsl]
  ·rw [qH _ _ _ _ z3,u2]
  ·exact Store.set_same _ _ _
  ·rw [hsl];exact hs.len
 simp -implicitDefEqProofs [h1,h2,hi,hj,e1,e2,zS,b1,b2,xB,z1]
 exact ⟨tail _ rfl rfl rfl,tail _ rfl rfl rfl⟩
theorem Zhh:ElemOk Tryz.prog 323 332 (.agg #[.int .i64 0,.int .i64 0]) 16 :=
 ⟨Tryz.underlying323,by simp,by simp,by simp,by simp,by omega⟩
theorem Zhi {S:Store} {hid hv rid mid mv:Nat} {l:zI Int} {g:Int->Option Nat} (hs:HS S hid hv rid mid mv l g) (x:Int × Int) (hn:l.length+1<=2147483648) :
  PCalls Tryz.prog 322 [.ptr hid hv 0,.ifc 332 (.agg (yd x))] S (fun _ S'=>Off S [hid,rid,mid] S'/\HS S' hid hv rid mid mv (l++[x]) (qp g x.1 (some l.length))):=by
 obtain ⟨ver,h1,cs,h2,hR⟩:=hs.h
 obtain ⟨es,h3,h4⟩:=hs.m
 obtain ⟨z1,z2,z3⟩:=hs.ne
 have b0:=hR.big
 refine xN Tryz.func322 rfl Tryz.ntmps322 (congrArg Array.toList Tryz.results322) (by simp) ?_
 refine za (yG [] (by rfl) fun K hK=>?_)
 simp -implicitDefEqProofs [yd]
 refine ZfS rfl Tryz.underlying332 (by intro ms;simp) (by simp;rfl) (p:=.tup [.agg (yd x),.sc (.bool true)]) (by simp [Wp,yd]) ?_
 simp -implicitDefEqProofs [yd]
 refine ZW rfl (by simp;rfl) (by simp) fun a ha=>?_
 simp -implicitDefEqProofs [yd]
 have n1:=we h1 (by simp) ha
 have n2:=we h2 (by simp) ha
 have n3:=we h3 (by simp) ha
 refine hK _ _ ?_
 clear hK
 have hT:Offd S [hid,rid,mid] (S.set a (.cells 0 332 (yd x))):=(Offd.refl _ _).set (.inr ha) _
 have t1:S.set a (.cells 0 332 (yd x)) hid=_:=(qH _ _ _ _ n1).trans h1
 have t2:S.set a (.cells 0 332 (yd x)) rid=_:=(qH _ _ _ _ n2).trans h2
 have t3:S.set a (.cells 0 332 (yd x)) mid=_:=(qH _ _ _ _ n3).trans h3
 have t4:S.set a (.cells 0 332 (yd x)) a=_:=Store.set_same _ _ _
 show PW _ _ _ _ _ _ _ (S.set a (.cells 0 332 (yd x)))
 generalize S.set a (.cells 0 332 (yd x))=T at hT t1 t2 t3 t4
 refine za (qf (by rfl) (by simp;rfl) (zr rfl (fun _=>?_) (fun h=>by simp at h)))
 obtain ⟨res,m1,_,_,m2,_⟩:=h4.find (Z2 .i64) x.1
 refine za (ZV (some [hid,a]) (Row.pures [0,1,2,3,4,5,6,7,8,9,10] (.alt 11 (.done) .stop)) mixed (by rfl) (by rfl) (by rfl) fun K hK=>?_)
 simp -implicitDefEqProofs [t1,t4,yd]
 refine QA (.inl rfl) Tryz.underlying286 Tryz.underlying3 rfl rfl rfl t3 m1 ?_
 simp -implicitDefEqProofs [qH,z2,n3.symm,t1,t4,yd]
 refine hK _ _ ?_
 clear hK
 have m3:=m2 l.length
 have u1:T.set mid (.map mv (qX (qh x.1) (zS l.length) es res)) hid=_:=(qH _ _ _ _ z2).trans t1
 have u2:T.set mid (.map mv (qX (qh x.1) (zS l.length) es res)) rid=_:=(qH _ _ _ _ z3).trans t2
 have u3:T.set mid (.map mv (qX (qh x.1) (zS l.length) es res)) mid=_:=Store.set_same _ _ _
 have u4:T.set mid (.map mv (qX (qh x.1) (zS l.length) es res)) a=_:=(qH _ _ _ _ n3.symm).trans t4
 have hU:Offd S [hid,rid,mid] (T.set mid (.map mv (qX (qh x.1) (zS l.length) es res))):=hT.set (.inl (by simp)) _
 show PW _ _ _ _ _ _ _ (T.set mid (.map mv (qX (qh x.1) (zS l.length) es res)))
 change MapIs qh WV (qX (qh x.1) (zS l.length) es res) _ at m3
 generalize T.set mid (.map mv (qX (qh x.1) (zS l.length) es res))=U at u1 u2 u3 u4 hU
 refine ZV (some [a]) (Row.pures [0,1,2,3,5,6] (.alt 4 (.alt 7 (Row.pures [8,9] (.alt 10 (.done) .stop)) .stop) .stop)) mixed (by rfl) (by rfl) (by rfl) fun K hK=>?_
 simp -implicitDefEqProofs [u1,u4,yd]
 refine Wn rfl Zhh (by simp;rfl) u2 (by simpa using b0) (m:=1) (ds:=yd x) (by simp [yd]) (by omega) (by omega) ?_
 simp -implicitDefEqProofs [xB,z1,n1.symm,n2.symm,u1,u4,yd]
 have r1:RowIs (cs.take (l.length*2)++yd x) (l++[x]):=⟨[],by rw [hR.take];simp⟩
 refine hK _ _ ⟨_,_,rfl,⟨ud _ _ _,HS.cut ⟨⟨ver+1,?_,_,?_,r1⟩,⟨_,?_,m3⟩,⟨z1,z2,z3⟩,?_⟩⟩,ue ((hU.set (.inl (by simp)) _).set (.inl (by simp)) _)⟩
 ·rw [Wo];simp
 ·rw [qH _ _ _ _ z1.symm,Wo];simp [yd]
 ·rw [qH _ _ _ _ z2.symm,qH _ _ _ _ z3.symm,u3]
 ·simp;omega
theorem Zhj {S:Store} {hid hv rid mid mv:Nat} {l:zI Int} {g:Int->Option Nat} (x:Int × Int) (hs:HS S hid hv rid mid mv (l++[x]) g) :
  PCalls Tryz.prog 321 [.ptr hid hv 0] S (fun p S'=>p=.ifc 332 (.agg (yd x))/\Off S [hid,rid,mid] S'/\HS S' hid hv rid mid mv l (qp g x.1 none)):=by
 obtain ⟨ver,h1,cs,h2,hR⟩:=hs.h
 obtain ⟨es,h3,h4⟩:=hs.m
 obtain ⟨z1,z2,z3⟩:=hs.ne
 have b0:=hR.big
 have hlen:=hs.len
 simp only [List.length_append,List.length_cons,List.length_nil,Nat.zero_add] at h1 b0 hlen
 refine xN Tryz.func321 rfl Tryz.ntmps321 (congrArg Array.toList Tryz.results321) (by simp) ?_
 have hw:IntKind.i64.wrap (l.length:Int)=l.length:=vV _ (by omega) (by omega)
 obtain ⟨tl,e1⟩:=hR.at l.length (by simp)
 have ha:zy (l++[x]) l.length=x:=by simp [zy]
 rw [ha] at e1
 refine za (qf (by rfl) (by simp;rfl) (za (yG [] (by rfl) fun K hK=>?_)))
 simp -implicitDefEqProofs [h1,hw]
 refine hK _ _ ?_
 clear hK
 refine za (yG [] (by rfl) fun K hK=>?_)
 have hlt:(l.length:Int)<l.length+1:=by omega
 have b1:l.length*2+2<=cs.length:=by omega
 simp -implicitDefEqProofs [h1,h2,e1,hlt]
 refine ZW rfl (by simp;rfl) (by simp) fun a ha=>?_
 have n1:=we h1 (by simp) ha
 have n2:=we h2 (by simp) ha
 have n3:=we h3 (by simp) ha
 simp -implicitDefEqProofs
 refine hK _ _ ?_
 clear hK
 refine za (yG [] (by rfl) fun K hK=>?_)
 simp -implicitDefEqProofs [xB,n1,n2,h1,h2,hlt,b1]
 refine hK _ _ ?_
 clear hK
 refine za (yG [] (by rfl) fun K hK=>?_)
 simp -implicitDefEqProofs [xB,n1,n2,z1,h1,h2,hlt,b1]
 refine hK _ _ ?_
 clear hK
 have r1:RowIs (yb cs (l.length*2) [.sc (.int .i64 0),.sc (.int .i64 0)]) l:=by
  obtain ⟨rest,q⟩:=hR.put l.length (by simp) (0,0)
  exact ⟨yd (0,0)++rest,by rw [q,List.set_append_right _ _ (Nat.le_refl _)];simp⟩
 have hT:Offd S [hid,rid,mid] (((S.set a (.cells 0 332 (yd x))).set rid (.cells ver 332 (yb cs (l.length*2) [.sc (.int .i64 0),.sc (.int .i64 0)]))).set hid (.cells hv 327 [.sl rid ver 2 0 l.length,.mp mid mv])) :=
  (((Offd.refl _ _).set (.inr ha) _).set (.inl (by simp)) _).set (.inl (by simp)) _
 have t1:(((S.set a (.cells 0 332 (yd x))).set rid (.cells ver 332 (yb cs (l.length*2) [.sc (.int .i64 0),.sc (.int .i64 0)]))).set hid (.cells hv 327 [.sl rid ver 2 0 l.length,.mp mid mv])) hid=.cells hv 327 [.sl rid ver 2 0 l.length,.mp mid mv]:=by simp
 have t2:(((S.set a (.cells 0 332 (yd x))).set rid (.cells ver 332 (yb cs (l.length*2) [.sc (.int .i64 0),.sc (.int .i64 0)]))).set hid (.cells hv 327 [.sl rid ver 2 0 l.length,.mp mid mv])) rid=.cells ver 332 (yb cs (l.length*2) [.sc (.int .i64 0),.sc (.int .i64 0)]):=by simp [xB,z1.symm]
 have t3:(((S.set a (.cells 0 332 (yd x))).set rid (.cells ver 332 (yb cs (l.length*2) [.sc (.int .i64 0),.sc (.int .i64 0)]))).set hid (.cells hv 327 [.sl rid ver 2 0 l.length,.mp mid mv])) mid=.map mv es:=by simp [xB,z2.symm,z3.symm,n3,h3]
 have t4:(((S.set a (.cells 0 332 (yd x))).set rid (.cells ver 332 (yb cs (l.length*2) [.sc (.int .i64 0),.sc (.int .i64 0)]))).set hid (.cells hv 327 [.sl rid ver 2 0 l.length,.mp mid mv])) a=.cells 0 332 (yd x):=by simp [xB,n1.symm,n2.symm]
 show PW _ _ _ _ _ _ _ (((S.set a (.cells 0 332 (yd x))).set rid (.cells ver 332 (yb cs (l.length*2) [.sc (.int .i64 0),.sc (.int .i64 0)]))).set hid (.cells hv 327 [.sl rid ver 2 0 l.length,.mp mid mv]))
 generalize (((S.set a (.cells 0 332 (yd x))).set rid (.cells ver 332 (yb cs (l.length*2) [.sc (.int .i64 0),.sc (.int .i64 0)]))).set hid (.cells hv 327 [.sl rid ver 2 0 l.length,.mp mid mv]))=T at hT t1 t2 t3 t4
 obtain ⟨res,m1,_,_,_,m2⟩:=h4.find (Z2 .i64) x.1
 refine za (ZV (some [hid,a]) (Row.pures [0,1,2,3,4,5] (.alt 6 (.done) .stop)) mixed (by rfl) (by rfl) (by rfl) fun K hK=>?_)
 simp -implicitDefEqProofs [t1,t4,yd]
 refine ZfQ rfl rfl Tryz.underlying286 Tryz.underlying3 rfl rfl rfl t3 m1 ?_
 simp -implicitDefEqProofs [qH,z2,n3.symm,t1,t4,yd]
 refine hK _ _ ?_
 clear hK
 refine za (yG [] (by rfl) fun K hK=>?_)
 simp -implicitDefEqProofs [qH,z2,n3.symm,t1,t4,yd]
 refine hK _ _ (zg ⟨_,_,rfl,⟨rfl,ud _ _ _,HS.cut ⟨⟨ver,?_,_,?_,r1⟩,⟨_,?_,m2⟩,⟨z1,z2,z3⟩,?_⟩⟩,ue (hT.set (.inl (by simp)) _)⟩)
 ·rw [qH _ _ _ _ z2,t1]
 ·rw [qH _ _ _ _ z3,t2]
 ·exact Wo _ _ _
 ·omega
open Go Hp
def HP (S:Store) (hid hv rid mid mv:Nat) (l:zI Int):Prop:=∃g,HS S hid hv rid mid mv l g/\PosOk g l
theorem PosOk.inj {g:Int->Option Nat} {l:zI Int} (h:PosOk g l) {i j:Nat} (hi:i<l.length) (hj:j<l.length) (e:(zy l i).1=(zy l j).1):i=j:=by
 have h1:=h.here i hi
 rw [e,h.here j hj] at h1
 exact (Option.some.inj h1).symm
theorem PosOk.swp {g:Int->Option Nat} {l:zI Int} (h:PosOk g l) (i j:Nat) (hi:i<l.length) (hj:j<l.length):PosOk (qp (qp g (zy (swp l i j) i).1 (some i)) (zy (swp l i j) j).1 (some j)) (swp l i j):=by
 have at':=fun k=>Qk l i j k hi hj
 have ei:(zy (Hp.swp l i j) i).1=(zy l j).1:=by
  rw [at' i]
  by_cases e:i=j
  ·rw [if_pos e,e]
  ·rw [if_neg e,if_pos rfl]
 have ej:(zy (Hp.swp l i j) j).1=(zy l i).1:=by rw [at' j,if_pos rfl]
 rw [ei,ej]
 refine ⟨fun k hk=>?_,fun id hid=>?_⟩
 ·rw [wU] at hk
  rw [at' k]
  unfold qp
  by_cases k1:k=j
  ·rw [if_pos k1,if_pos rfl,k1]
  ·rw [if_neg k1]
   by_cases k2:k=i
   ·rw [if_pos k2]
    rw [if_neg (fun e=>k1 (by rw [k2];exact (h.inj hj hi e).symm)),if_pos rfl,k2]
   ·rw [if_neg k2,if_neg (fun e=>k2 (h.inj hk hi e)),if_neg (fun e=>k1 (h.inj hk hj e))]
    exact h.here k hk
 ·unfold qp
  have q1:=hid i (by rw [wU];exact hi)
  have q2:=hid j (by rw [wU];exact hj)
  rw [ei] at q1;rw [ej] at q2
  rw [if_neg (Ne.symm q2),if_neg (Ne.symm q1)]
  refine h.gone id fun k hk e=>?_
  have q3:=hid k (by rw [wU];exact hk)
  rw [at' k] at q3
  by_cases k1:k=j
  ·subst k1;exact q1 e
  ·rw [if_neg k1] at q3
   by_cases k2:k=i
   ·subst k2;exact q2 e
   ·rw [if_neg k2] at q3;exact q3 e
theorem QR (l:zI Int) (x:Int × Int) (k:Nat) (hk:k<l.length):zy (l++[x]) k=zy l k:=by
 unfold zy;rw [List.getD_eq_getElem?_getD,List.getD_eq_getElem?_getD,List.getElem?_append_left hk]
theorem Xg (l:zI Int) (x:Int × Int):zy (l++[x]) l.length=x:=by simp [zy]
theorem PosOk.push {g:Int->Option Nat} {l:zI Int} (h:PosOk g l) (x:Int × Int) (hx:g x.1=none):PosOk (qp g x.1 (some l.length)) (l++[x]):=by
 refine ⟨fun k hk=>?_,fun id hid=>?_⟩
 ·simp only [List.length_append,List.length_cons,List.length_nil,Nat.zero_add] at hk
  unfold qp
  by_cases k1:k=l.length
  ·subst k1;rw [Xg,if_pos rfl]
  ·have hk':k<l.length:=by omega
   rw [QR l x k hk',if_neg]
   ·exact h.here k hk'
   ·intro e
    have:=h.here k hk'
    rw [e,hx] at this;cases this
 ·have q:=hid l.length (by simp)
  rw [Xg] at q
  unfold qp
  rw [if_neg (Ne.symm q)]
  refine h.gone id fun k hk=>?_
  have:=hid k (by simp;omega)
  rw [QR l x k hk] at this
  exact this
theorem PosOk.pop {g:Int->Option Nat} {l:zI Int} (x:Int × Int) (h:PosOk g (l++[x])):PosOk (qp g x.1 none) l:=by
 have hl:l.length<(l++[x]).length:=by simp
 refine ⟨fun k hk=>?_,fun id hid=>?_⟩
 ·have hk':k<(l++[x]).length:=by simp;omega
  have:=h.here k hk'
  rw [QR l x k hk] at this
  unfold qp
  rw [if_neg]
  ·exact this
  ·intro e
   have:=h.inj hk' hl (by rw [QR l x k hk,Xg];exact e)
   omega
 ·unfold qp
  by_cases e:id=x.1
  ·rw [if_pos e]
  ·rw [if_neg e]
   refine h.gone id fun k hk=>?_
   simp only [List.length_append,List.length_cons,List.length_nil,Nat.zero_add] at hk
   by_cases k1:k=l.length
   ·subst k1;rw [Xg];exact Ne.symm e
   ·have hk':k<l.length:=by omega
    rw [QR l x k hk'];exact hid k hk'
theorem Zcj : Yx Tryz.prog 330 "Len" 319 := by intro v w; kernel_rfl
theorem WX : Yx Tryz.prog 330 "Less" 320 := by intro v w; kernel_rfl
theorem WY : Yx Tryz.prog 330 "Swap" 323 := by intro v w; kernel_rfl
theorem Zhk : Yx Tryz.prog 330 "Push" 322 := by intro v w; kernel_rfl
theorem Zhl : Yx Tryz.prog 330 "Pop" 321 := by intro v w; kernel_rfl
abbrev hI (hid hv:Nat):PV:=.ifc 330 (.ptr hid hv 0)
theorem HP.len {S:Store} {hid hv rid mid mv:Nat} {l:zI Int} (h:HP S hid hv rid mid mv l):l.length<=2147483648:=by obtain ⟨g,h,_⟩:=h;exact h.len
theorem HP.cut {S T:Store} {hid hv rid mid mv:Nat} {l:zI Int} (h:HP T hid hv rid mid mv l):HP (cut S [hid,rid,mid] T) hid hv rid mid mv l:=by obtain ⟨g,h,k⟩:=h;exact ⟨g,h.cut,k⟩
theorem Zck {S:Store} {hid hv rid mid mv:Nat} {l:zI Int} (h:HP S hid hv rid mid mv l):PCalls Tryz.prog 319 [.ptr hid hv 0] S (fun p S'=>p=zS l.length/\S'=S):=by
 obtain ⟨g,h,_⟩:=h;exact Zhe h
theorem WZ {S:Store} {hid hv rid mid mv:Nat} {l:zI Int} (h:HP S hid hv rid mid mv l) (i j:Nat) (hi:i<l.length) (hj:j<l.length):PCalls Tryz.prog 320 [.ptr hid hv 0,zS i,zS j] S (fun p S'=>p=xy (il yL (zy l i) (zy l j))/\S'=S):=by
 obtain ⟨g,h,_⟩:=h;exact Zhf h i j hi hj
theorem W0 {S:Store} {hid hv rid mid mv:Nat} {l:zI Int} (h:HP S hid hv rid mid mv l) (i j:Nat) (hi:i<l.length) (hj:j<l.length):PCalls Tryz.prog 323 [.ptr hid hv 0,zS i,zS j] S (fun _ S'=>Off S [hid,rid,mid] S'/\HP S' hid hv rid mid mv (swp l i j)):=by
 obtain ⟨g,h,k⟩:=h
 exact (Zhg h i j hi hj).mono fun p S' q=>⟨q.1,_,q.2,k.swp i j hi hj⟩
theorem Zhm {S:Store} {hid hv rid mid mv:Nat} {l:zI Int} (h:HP S hid hv rid mid mv l) (x:Int × Int) (hx:∀i,i<l.length->(zy l i).1≠x.1) (hn:l.length+1<=2147483648):PCalls Tryz.prog 322 [.ptr hid hv 0,.ifc 332 (.agg (yd x))] S (fun _ S'=>Off S [hid,rid,mid] S'/\HP S' hid hv rid mid mv (l++[x])):=by
 obtain ⟨g,h,k⟩:=h
 exact (Zhi h x hn).mono fun p S' q=>⟨q.1,_,q.2,k.push x (k.gone _ hx)⟩
theorem Zhn {S:Store} {hid hv rid mid mv:Nat} {l:zI Int} (x:Int × Int) (h:HP S hid hv rid mid mv (l++[x])):PCalls Tryz.prog 321 [.ptr hid hv 0] S (fun p S'=>p=.ifc 332 (.agg (yd x))/\Off S [hid,rid,mid] S'/\HP S' hid hv rid mid mv l):=by
 obtain ⟨g,h,k⟩:=h
 exact (Zhj x h).mono fun p S' q=>⟨q.1,q.2.1,_,q.2.2,k.pop x⟩
theorem Zho (j:Nat):((j:Int)-1).tdiv 2=(zV j:Nat):=by
 unfold zV
 cases j with
 | zero=>rfl
 | succ k=>simp
theorem Zcl {S:Store} {hid hv rid mid mv:Nat} {l:zI Int} (h:HP S hid hv rid mid mv l) (j:Nat) (hj:j<l.length) :
  PCalls Tryz.prog 283 [hI hid hv,zS j] S (fun _ S'=>Off S [hid,rid,mid] S'/\HP S' hid hv rid mid mv (xu yL (j+1) l j)):=by
 refine xN Tryz.func283 rfl Tryz.ntmps283 (congrArg Array.toList Tryz.results283) (by simp) ?_
 refine zi (Wd (fun F S' m=>∃(lc:zI Int) (jc:Nat),m=jc/\jc<lc.length/\F 0=hI hid hv/\F 1=zS jc/\Off S [hid,rid,mid] S'/\HP S' hid hv rid mid mv lc/\xu yL (jc+1) lc jc=xu yL (j+1) l j) j ⟨l,j,rfl,hj,rfl,rfl,fun _ _=>rfl,h,rfl⟩ ?_)
 rintro jc F T ⟨lc,_,rfl,hjc,f0,f1,hoff,hp,hup⟩
 have hlen:=hp.len
 have w1:IntKind.i64.wrap ((jc:Int)-1)=(jc:Int)-1:=vV _ (by omega) (by omega)
 have hpar:zV jc<=jc:=by unfold zV;omega
 have w2:IntKind.i64.wrap (zV jc:Int)=zV jc:=vV _ (by omega) (by omega)
 refine zi (za (yG [] (by rfl) fun K hK=>?_))
 simp -implicitDefEqProofs [f0,f1,zS,w1,Zho,w2]
 refine hK _ _ ?_
 clear hK
 by_cases hc:zV jc=jc
 ·refine za (za (yG [] (by rfl) fun K hK=>?_))
  simp -implicitDefEqProofs [f0,f1,zS,hc]
  refine hK _ _ (zr rfl (fun _=>zu ?_) (fun q=>by simp at q))
  refine ⟨_,_,rfl,⟨ud _ _ _,?_⟩,ue hoff.offd⟩
  rw [<-hup]
  unfold xu
  rw [if_pos (.inl hc)]
  exact hp.cut
 ·refine za (za (yG [] (by rfl) fun K hK=>?_))
  have hc':¬((zV jc:Nat):Int)=jc:=by omega
  simp -implicitDefEqProofs [f0,f1,zS,hc,hc']
  refine vW rfl rfl rfl WX WH (by exact WZ hp jc (zV jc) hjc (by omega)) fun p S' hq=>?_
  obtain ⟨rfl,rfl⟩:=hq
  simp -implicitDefEqProofs [xy]
  refine hK _ _ ?_
  clear hK
  cases hl:il yL (zy lc jc) (zy lc (zV jc)) with
  | false =>
   refine zr rfl (fun _=>zu ?_) (fun q=>by simp at q)
   refine ⟨_,_,rfl,⟨ud _ _ _,?_⟩,ue hoff.offd⟩
   rw [<-hup]
   unfold xu
   rw [if_pos (.inr hl)]
   exact hp.cut
  | true =>
   refine zr rfl (fun q=>by simp at q) (fun _=>zh (za (yG [] (by rfl) fun K hK=>?_)))
   simp -implicitDefEqProofs [f0,f1,zS]
   refine vW rfl rfl rfl WY WI (by exact W0 hp (zV jc) jc (by omega) hjc) fun p S' hq=>?_
   obtain ⟨hq1,hq2⟩:=hq
   refine hK _ _ ?_
   clear hK
   refine qf (by rfl) (by simp;rfl) ?_
   refine ⟨zV jc,⟨swp lc (zV jc) jc,zV jc,rfl,by rw [wU];omega,f0,by rfl,hoff.trans hq1,hq2,?_⟩,by omega⟩
   rw [<-hup]
   conv=>rhs;unfold xu
   rw [if_neg (by rintro (e | e);exact hc e;rw [hl] at e;cases e)]
   exact Ze9 _ _ _ _ (by omega) (by unfold zV at *;omega)
theorem Zhp {S:Store} {hid hv rid mid mv:Nat} {l:zI Int} (h:HP S hid hv rid mid mv l) (i n:Nat) (hi:i<n) (hn:n<=l.length) :
  PCalls Tryz.prog 286 [hI hid hv,zS i,zS n] S (fun p S'=>p=xy (decide (i<(yR yL n l i n).2))/\Off S [hid,rid,mid] S'/\HP S' hid hv rid mid mv (yR yL n l i n).1):=by
 refine xN Tryz.func286 rfl Tryz.ntmps286 (congrArg Array.toList Tryz.results286) (by simp) ?_
 refine za (qf (by rfl) (by simp;rfl) (za (qf (by rfl) (by simp;rfl) (za ?_))))
 refine Qr (Q:=fun e F T=>e=.normal/\F 1=zS i/\F 7=zS (yR yL n l i n).2/\Off S [hid,rid,mid] T/\HP T hid hv rid mid mv (yR yL n l i n).1) (zi (Wd (fun F S' m=>∃(lc:zI Int) (ic:Nat),m=n-ic/\ic<n/\n<=lc.length/\F 0=hI hid hv/\F 1=zS i/\F 2=zS n/\F 7=zS ic/\Off S [hid,rid,mid] S'/\HP S' hid hv rid mid mv lc/\yR yL n lc ic n=yR yL n l i n) (n-i) ⟨l,i,rfl,hi,hn,rfl,rfl,rfl,rfl,fun _ _=>rfl,h,rfl⟩ ?_)) ?_
 rotate_left
 ·rintro e F T ⟨rfl,f1,f7,hoff,hp⟩
  refine za (yG [] (by rfl) fun K hK=>?_)
  simp -implicitDefEqProofs [f1,f7,zS]
  refine hK _ _ (zg ⟨_,_,rfl,⟨?_,ud _ _ _,hp.cut⟩,ue hoff.offd⟩)
  simp [xy]
 rintro _ F T ⟨lc,ic,rfl,hic,hnl,f0,f1,f2,f7,hoff,hp,hdown⟩
 have hlen:=hp.len
 have w1:IntKind.i64.wrap (2*(ic:Int))=2*(ic:Int):=vV _ (by omega) (by omega)
 have w2:IntKind.i64.wrap (2*(ic:Int)+1)=((2*ic+1:Nat):Int):=by rw [vV _ (by omega) (by omega)];omega
 have w3:IntKind.i64.wrap (((2*ic+1:Nat):Int)+1)=((2*ic+2:Nat):Int):=by rw [vV _ (by omega) (by omega)];omega
 refine zi (za (yG [] (by rfl) fun K hK=>?_))
 simp -implicitDefEqProofs only [f0,f1,f7,zS,w1,w2]
 generalize hk1:2*ic+1=k1 at w2 w3
 simp -implicitDefEqProofs [f0,f1,f7,zS,w1,w2]
 refine hK _ _ ?_
 clear hK
 by_cases hc:n<=k1
 ·refine za (za (yG [] (by rfl) fun K hK=>?_))
  have hc':(n:Int)<=k1:=by omega
  simp -implicitDefEqProofs [f0,f1,f2,f7,zS,hc,hc']
  refine hK _ _ (zr rfl (fun _=>zu ?_) (fun q=>by simp at q))
  have hd:yR yL n lc ic n=(lc,ic):=by
   cases n with
   | zero=>omega
   | succ n=>unfold yR;rw [if_pos (by omega)]
  rw [hdown] at hd
  refine ⟨rfl,f1,?_,hoff,?_⟩
  ·rw [hd];exact f7
  ·rw [hd];exact hp
 ·refine za (za (yG [] (by rfl) fun K hK=>?_))
  have hc':¬(n:Int)<=k1:=by omega
  have hc2:¬(k1:Int)<0:=by omega
  simp -implicitDefEqProofs [f0,f1,f2,f7,zS,hc',hc2]
  refine hK _ _ (zr rfl (fun q=>by simp at q) (fun _=>zh ?_))
  clear hK
  refine za (qf (by rfl) (by simp;rfl) ?_)
  obtain ⟨c1,c2,c3,c4,c5⟩:=ZaN vw lc ic n (by omega)
  have hkd:qU yL lc ic n<lc.length:=by omega
  refine za (Qr (Q:=fun e F' T'=>e=.normal/\T'=T/\F' 0=hI hid hv/\F' 1=zS i/\F' 2=zS n/\F' 7=zS ic/\F' 9=zS (qU yL lc ic n)) ?_ ?_)
  ·generalize hk2:2*ic+2=k2 at w3
   refine za (yG [] (by rfl) fun K hK=>?_)
   simp -implicitDefEqProofs [f0,f1,f2,f7,zS,w3]
   refine hK _ _ ?_
   clear hK
   by_cases h2:k2<n
   ·refine za (yG [] (by rfl) fun K hK=>?_)
    have h2':(k2:Int)<n:=by omega
    simp -implicitDefEqProofs [f0,f1,f2,f7,zS,h2,h2']
    refine vW rfl rfl rfl WX WH (by exact WZ hp k2 k1 (by omega) (by omega)) fun p S' hq=>?_
    obtain ⟨rfl,rfl⟩:=hq
    simp -implicitDefEqProofs [xy]
    refine hK _ _ ?_
    clear hK
    cases hl:il yL (zy lc k2) (zy lc k1) with
    | true =>
     refine zr rfl (fun _=>qf (by rfl) (by simp;rfl) ?_) (fun q=>by simp at q)
     refine ⟨rfl,rfl,f0,f1,f2,f7,?_⟩
     unfold qU
     rw [hk1,hk2,if_pos ⟨h2,hl⟩];rfl
    | false =>
     refine zr rfl (fun q=>by simp at q) (fun _=>zh ⟨rfl,rfl,f0,f1,f2,f7,?_⟩)
     unfold qU
     rw [hk1,hk2,if_neg (by rw [hl];simp)];rfl
   ·refine za (yG [] (by rfl) fun K hK=>?_)
    have h2':¬(k2:Int)<n:=by omega
    simp -implicitDefEqProofs [f0,f1,f2,f7,zS,h2,h2']
    refine hK _ _ (zr rfl (fun q=>by simp at q) (fun _=>zh ⟨rfl,rfl,f0,f1,f2,f7,?_⟩))
    unfold qU
    rw [hk1,hk2,if_neg (fun q=>h2 q.1)];rfl
  ·clear f0 f1 f2 f7 F
   rintro e F S' ⟨rfl,rfl,f0,f1,f2,f7,f9⟩
   have hstep:yR yL n lc ic n=if il yL (zy lc (qU yL lc ic n)) (zy lc ic)=false then (lc,ic) else yR yL n (swp lc ic (qU yL lc ic n)) (qU yL lc ic n) n:=by
    cases n with
    | zero=>omega
    | succ n =>
     conv=>lhs;unfold yR
     rw [if_neg (by omega)]
     split
     ·rfl
     ·exact Zfb _ _ _ _ _ (by omega) (by omega)
   rw [hdown] at hstep
   generalize hkk:qU yL lc ic n=kk at *
   refine za (za (yG [] (by rfl) fun K hK=>?_))
   simp -implicitDefEqProofs [f0,f1,f2,f7,f9,zS]
   refine vW rfl rfl rfl WX WH (by exact WZ hp kk ic (by omega) (by omega)) fun p S' hq=>?_
   obtain ⟨rfl,rfl⟩:=hq
   simp -implicitDefEqProofs [xy]
   refine hK _ _ ?_
   clear hK
   cases hl:il yL (zy lc kk) (zy lc ic) with
   | false =>
    rw [if_pos hl] at hstep
    refine zr rfl (fun _=>zu ⟨rfl,f1,?_,hoff,?_⟩) (fun q=>by simp at q)
    ·rw [hstep];exact f7
    ·rw [hstep];exact hp
   | true =>
    rw [if_neg (by rw [hl];simp)] at hstep
    refine zr rfl (fun q=>by simp at q) (fun _=>zh (za (yG [] (by rfl) fun K hK=>?_)))
    simp -implicitDefEqProofs [f0,f1,f2,f7,f9,zS]
    refine vW rfl rfl rfl WY WI (by exact W0 hp ic kk (by omega) hkd) fun p S' hq=>?_
    obtain ⟨hq1,hq2⟩:=hq
    refine hK _ _ ?_
    clear hK
    refine qf (by rfl) (by simp [f9];rfl) ?_
    refine ⟨n-kk,⟨swp lc ic kk,kk,rfl,c2,by rw [wU];exact hnl,f0,f1,f2,rfl,hoff.trans hq1,hq2,hstep.symm⟩,by omega⟩
end Go.Proofs.YtcnbiofjmioaiaaGreat.Pv
namespace Go.Proofs.YtcnbiofjmioaiaaGreat.Hp
section
variable {α:Type} [DecidableEq α] [Inhabited α] {lt:α->α->Bool}
def uf (lt:α->α->Bool) (l:zI α) (i n:Nat):zI α:=if i<(yR lt n l i n).2 then (yR lt n l i n).1 else xu lt (i+1) (yR lt n l i n).1 i
theorem Zhq (h:Str lt) (l:zI α) (i n:Nat) (hn:n<=l.length) (hi:i<n) (inv:DownInv lt l n i):vi lt (uf lt l i n) n/\(uf lt l i n).Perm l/\(uf lt l i n).length=l.length/\∀k,n<=k->zy (uf lt l i n) k=zy l k:=by
 obtain ⟨q1,q2,q3,q4,q5,q6,q7⟩:=ZaO h n l n i hn hi (by omega) inv
 unfold uf
 split
 ·rename_i hm;exact ⟨q6 hm,q1,q2,q3⟩
 ·rename_i hm
  obtain ⟨r1,r2⟩:=q7 (by omega)
  rw [r1]
  exact ZaM h (i+1) l n i hn hi (by omega) ⟨r2,inv.kids⟩
theorem Zhr {l:zI α} (x:Int × α) (h:vi lt l l.length):UpInv lt (l++[x]) (l.length+1) l.length:=by
 have ap:∀k,k<l.length->zy (l++[x]) k=zy l k:=fun k hk=>by
  unfold zy;rw [List.getD_eq_getElem?_getD,List.getD_eq_getElem?_getD,List.getElem?_append_left hk]
 refine ⟨fun k k0 kn kj=>?_,fun k k0 kn kp j0=>?_⟩
 ·have:=wC k0
  rw [ap k (by omega),ap (zV k) (by omega)]
  exact h k k0 (by omega)
 ·have:=wC k0;omega
theorem Zhs (hs:Str lt) {l:zI α} (i n:Nat) (hi:i<n) (hn:n+1=l.length) (h:vi lt l l.length):DownInv lt (swp l i n) n i:=by
 have at':=fun k=>Qk l i n k (by omega) (by omega)
 refine ⟨fun k k0 kn kp ki=>?_,fun k k0 kn kp i0=>?_⟩
 ·have:=wC k0
  rw [at' k,at' (zV k),if_neg (by omega),if_neg ki,if_neg (by omega),if_neg kp]
  exact h k k0 (by omega)
 ·have:=wC k0
  have:=wC i0
  rw [at' k,at' (zV i),if_neg (by omega),if_neg (by omega),if_neg (by omega),if_neg (by omega)]
  have e1:=h k k0 (by omega)
  rw [kp] at e1
  exact Ql hs e1 (h i i0 (by omega))
theorem Zht {l:zI α} (n:Nat) (h:vi lt l n):vi lt (l.take n) n:=by
 intro k k0 kn
 have:=wC k0
 have e:∀j,j<n->zy (l.take n) j=zy l j:=fun j hj=>by
  unfold zy;rw [List.getD_eq_getElem?_getD,List.getD_eq_getElem?_getD,List.getElem?_take,if_pos hj]
 rw [e k kn,e (zV k) (by omega)]
 exact h k k0 kn
end
theorem Zhu {α:Type} [Inhabited α] (l:zI α) (n:Nat) (hn:n+1=l.length):l=l.take n++[zy l n]:=by
 apply List.ext_getElem?
 intro k
 rw [List.getElem?_append]
 by_cases h1:k<n
 ·rw [if_pos (by simp;omega),List.getElem?_take,if_pos h1]
 ·rw [if_neg (by simp;omega)]
  by_cases h2:k=n
  ·subst h2
   have:k<l.length:=by omega
   simp [zy,this,Nat.min_eq_left (Nat.le_of_lt this)]
  ·rw [List.getElem?_eq_none (by omega),List.getElem?_eq_none (by simp;omega)]
end Go.Proofs.YtcnbiofjmioaiaaGreat.Hp
namespace Go.Proofs.YtcnbiofjmioaiaaGreat.Pv
open Go Hp
def HH (S:Store) (hid hv rid mid mv:Nat) (l:zI Int):Prop:=HP S hid hv rid mid mv l/\vi yL l l.length
theorem HH.cut {S T:Store} {hid hv rid mid mv:Nat} {l:zI Int} (h:HH T hid hv rid mid mv l):HH (cut S [hid,rid,mid] T) hid hv rid mid mv l:=⟨h.1.cut,h.2⟩
theorem Zhv {S:Store} {hid hv rid mid mv:Nat} {l:zI Int} (h:HH S hid hv rid mid mv l) (x:Int × Int) (hx:∀i,i<l.length->(zy l i).1≠x.1) (hn:l.length+1<=2147483648) :
  PCalls Tryz.prog 274 [hI hid hv,.ifc 332 (.agg (yd x))] S (fun _ S'=>Off S [hid,rid,mid] S'/\∃l',HH S' hid hv rid mid mv l'/\l'.Perm (x :: l)):=by
 obtain ⟨hp,hh⟩:=h
 refine xN Tryz.func274 rfl Tryz.ntmps274 (congrArg Array.toList Tryz.results274) (by simp) ?_
 refine za (yG [] (by rfl) fun K hK=>?_)
 simp -implicitDefEqProofs
 refine vW rfl rfl rfl Zhk ZgH (by exact Zhm hp x hx hn) fun p S1 hq=>?_
 obtain ⟨o1,p1⟩:=hq
 refine hK _ _ ?_
 clear hK
 refine yG [] (by rfl) fun K hK=>?_
 simp -implicitDefEqProofs
 refine vW rfl rfl rfl Zcj ZbJ (by exact Zck p1) fun p S2 hq=>?_
 obtain ⟨rfl,rfl⟩:=hq
 have w1:IntKind.i64.wrap (l.length:Int)=l.length:=vV _ (by omega) (by omega)
 simp -implicitDefEqProofs [zS,w1]
 obtain ⟨q1,q2,q3,_⟩:=ZaM vw (l.length+1) (l++[x]) (l.length+1) l.length (by simp) (by omega) (by omega) (Zhr x hh)
 refine ZT rfl rfl rfl ZbI (by exact Zcl p1 l.length (by simp)) fun p S3 hq=>?_
 obtain ⟨o3,p3⟩:=hq
 refine hK _ _ ⟨_,_,rfl,⟨ud _ _ _,_,HH.cut ⟨p3,?_⟩,q2.trans (List.perm_append_comm (l₁:=l) (l₂:=[x]))⟩,ue (o1.trans o3).offd⟩
 rw [q3];simpa using q1
theorem Zhw {S:Store} {hid hv rid mid mv:Nat} {l:zI Int} (h:HH S hid hv rid mid mv l) (i:Nat) (hi:i<l.length) :
  PCalls Tryz.prog 284 [hI hid hv,zS i] S (fun p S'=>p=.ifc 332 (.agg (yd (zy l i)))/\Off S [hid,rid,mid] S'/\∃l',HH S' hid hv rid mid mv l'/\(zy l i :: l').Perm l):=by
 obtain ⟨hp,hh⟩:=h
 have hlen:=hp.len
 obtain ⟨n,hn⟩:∃n,n+1=l.length:=⟨l.length-1,by omega⟩
 refine xN Tryz.func284 rfl Tryz.ntmps284 (congrArg Array.toList Tryz.results284) (by simp) ?_
 refine za (qf (by rfl) (by simp;rfl) (za (yG [] (by rfl) fun K hK=>?_)))
 simp -implicitDefEqProofs
 refine vW rfl rfl rfl Zcj ZbJ (by exact Zck hp) fun p S2 hq=>?_
 obtain ⟨rfl,rfl⟩:=hq
 have w1:IntKind.i64.wrap ((l.length:Int)-1)=n:=by rw [vV _ (by omega) (by omega)];omega
 simp -implicitDefEqProofs [zS,w1]
 refine hK _ _ ?_
 clear hK
 refine za (Qr (Q:=fun e F' T'=>e=.normal/\F' 0=hI hid hv/\Off S2 [hid,rid,mid] T'/\∃l3:zI Int,HP T' hid hv rid mid mv l3/\vi yL l3 n/\l3.Perm l/\l3.length=l.length/\zy l3 n=zy l i) ?_ ?_)
 ·refine za (qf (by rfl) (by simp [zS];rfl) ?_)
  by_cases hc:n=i
  ·refine zr rfl (fun q=>by simp [hc] at q) (fun _=>zh ⟨rfl,rfl,fun _ _=>rfl,l,hp,fun k k0 kn=>hh k k0 (by omega),.refl _,rfl,by rw [hc]⟩)
  ·have hc':¬(n:Int)=i:=by omega
   refine zr rfl (fun _=>?_) (fun q=>by simp [hc'] at q)
   refine za (yG [] (by rfl) fun K hK=>?_)
   simp -implicitDefEqProofs [zS]
   refine vW rfl rfl rfl WY WI (by exact W0 hp i n (by omega) (by omega)) fun p S3 hq=>?_
   obtain ⟨o3,p3⟩:=hq
   refine hK _ _ ?_
   clear hK
   have inv:=Zhs vw i n (by omega) hn hh
   have hsl:=wU l i n
   obtain ⟨s1,s2,s3,s4⟩:=Zhq vw (swp l i n) i n (by omega) (by omega) inv
   have hlast:zy (uf yL (swp l i n) i n) n=zy l i:=by rw [s4 n (Nat.le_refl _),Qk l i n n hi (by omega),if_pos rfl]
   refine za (yG [] (by rfl) fun K hK=>?_)
   simp -implicitDefEqProofs [zS]
   refine ZT rfl rfl rfl ZgF (by exact Zhp p3 i n (by omega) (by omega)) fun p S4 hq=>?_
   obtain ⟨rfl,o4,p4⟩:=hq
   simp -implicitDefEqProofs [xy]
   refine hK _ _ ?_
   clear hK
   by_cases hm:i<(yR yL n (swp l i n) i n).2
   ·refine zr rfl (fun q=>by simp at q;omega) (fun _=>zh ⟨rfl,rfl,o3.trans o4,uf yL (swp l i n) i n,?_,s1,s2.trans (Jq l _ _ hi (by omega)),s3.trans hsl,hlast⟩)
    unfold uf;rw [if_pos hm];exact p4
   ·refine zr rfl (fun _=>?_) (fun q=>by simp at q;omega)
    refine yG [] (by rfl) fun K hK=>?_
    simp -implicitDefEqProofs [zS]
    have hdl:(yR yL n (swp l i n) i n).1.length=l.length:=((ZaO vw n (swp l i n) n i (by omega) (by omega) (by omega) inv).2.1).trans hsl
    refine ZT rfl rfl rfl ZbI (by exact Zcl p4 i (by omega)) fun p S5 hq=>?_
    obtain ⟨o5,p5⟩:=hq
    refine hK _ _ ⟨rfl,rfl,(o3.trans o4).trans o5,uf yL (swp l i n) i n,?_,s1,s2.trans (Jq l _ _ hi (by omega)),s3.trans hsl,hlast⟩
    unfold uf;rw [if_neg hm];exact p5
 ·rintro e F T ⟨rfl,f0,hoff,l3,p3,h3,pm,hl3,hx⟩
  have hsp:=Zhu l3 n (by omega)
  rw [hx] at hsp
  rw [hsp] at p3 pm
  refine za (yG [] (by rfl) fun K hK=>?_)
  simp -implicitDefEqProofs [f0]
  refine vW rfl rfl rfl Zhl ZgG (by exact Zhn _ p3) fun p S4 hq=>?_
  obtain ⟨rfl,o4,p4⟩:=hq
  have hheap:vi yL (l3.take n) (l3.take n).length:=by
   have e:(l3.take n).length=n:=by simp;omega
   rw [e];exact Zht n h3
  refine hK _ _ (zg ⟨_,_,rfl,⟨rfl,ud _ _ _,_,HH.cut ⟨p4,hheap⟩,?_⟩,ue (hoff.trans o4).offd⟩)
  exact (List.perm_append_comm (l₁:=[zy l i]) (l₂:=l3.take n)).trans pm
open Go Hp
abbrev xc (a b:Int × Int):Bool:=il yL a b
def wg (r:zI Int):Prop:=r.Pairwise (fun a b=>xc a b=true)
def ug (x:Int × Int):zI Int->zI Int
 | []=>[x]
 | y :: r=>if xc x y=true then x :: y :: r else y :: ug x r
def uQ (id:Int) (r:zI Int):zI Int:=r.filter fun x=>decide (x.1≠id)
def jp (id:Int) (r:zI Int):Bool:=r.any fun x=>decide (x.1=id)
theorem QS (x:Int × Int):∀r,(ug x r).Perm (x :: r)
 | []=>.refl _
 | y :: r=>by
  unfold ug
  split
  ·exact .refl _
  ·exact ((QS x r).cons y).trans (.swap x y r)
theorem Zhx {a b c:Int × Int} (h1:xc a b=true) (h2:xc b c=true):xc a c=true:=(uC vw).tr _ _ _ h1 h2
theorem Zhy {a b:Int × Int} (h:xc a b=false) (hne:a.1≠b.1):xc b a=true:=by
 cases hq:xc b a with
 | true=>rfl
 | false=>exact absurd (congrArg Prod.fst ((uC vw).tot _ _ h hq)) hne
theorem Zcm (x:Int × Int):∀r,wg r->(∀y∈r,y.1≠x.1)->wg (ug x r)
 | [],_,_=>by simp [ug,wg]
 | y :: r,h,hx=>by
  unfold ug
  have h':=List.pairwise_cons.1 h
  split
  ·rename_i hl
   refine List.pairwise_cons.2 ⟨fun z hz=>?_,h⟩
   rcases List.mem_cons.1 hz with rfl | hz
   ·exact hl
   ·exact Zhx hl (h'.1 z hz)
  ·rename_i hl
   have hl':xc x y=false:=by simpa using hl
   refine List.pairwise_cons.2 ⟨fun z hz=>?_,Zcm x r h'.2 fun z hz=>hx z (List.mem_cons_of_mem _ hz)⟩
   rcases List.mem_cons.1 ((QS x r).subset hz) with rfl | hz
   ·exact Zhy hl' (Ne.symm (hx y (by simp)))
   ·exact h'.1 z hz
theorem Zhz (id:Int) (r:zI Int) (h:wg r):wg (uQ id r):=List.Pairwise.filter _ h
def HM (S:Store) (hid hv rid mid mv:Nat) (r:zI Int):Prop:=∃l,HH S hid hv rid mid mv l/\l.Perm r/\wg r
theorem HM.cut {S T:Store} {hid hv rid mid mv:Nat} {r:zI Int} (h:HM T hid hv rid mid mv r):HM (cut S [hid,rid,mid] T) hid hv rid mid mv r:=by obtain ⟨l,h,k⟩:=h;exact ⟨l,h.cut,k⟩
theorem HM.len {S:Store} {hid hv rid mid mv:Nat} {r:zI Int} (h:HM S hid hv rid mid mv r):r.length<=2147483648:=by obtain ⟨l,h,k,_⟩:=h;rw [<-k.length_eq];exact h.1.len
theorem W3 {l:zI Int} {i:Nat} (hi:i<l.length):zy l i∈l:=by
 have:zy l i=l[i]:=by unfold zy;simp [hi]
 rw [this];exact List.getElem_mem hi
theorem W4 {l:zI Int} {x:Int × Int} (h:x∈l):∃i,i<l.length/\zy l i=x:=by
 obtain ⟨i,hi,rfl⟩:=List.getElem_of_mem h
 exact ⟨i,hi,by unfold zy;simp [hi]⟩
theorem HS.look {S:Store} {hid hv rid mid mv:Nat} {l:zI Int} {g:Int->Option Nat} (h:HS S hid hv rid mid mv l g) (k:PosOk g l) (id:Int):∃es res,S mid=.map mv es/\j7 (.int .i64) (qh id) es 0=some res /\
  ((jp id l=false/\Qz true (.int .i64 0) res=.tup [zS 0,.sc (.bool false)])\/(jp id l=true/\∃i,i<l.length/\(zy l i).1=id/\Qz true (.int .i64 0) res=.tup [zS i,.sc (.bool true)])):=by
 obtain ⟨es,h3,h4⟩:=h.m
 obtain ⟨res,m1,m2,m3,_,_⟩:=h4.find (Z2 .i64) id
 refine ⟨es,res,h3,m1,?_⟩
 by_cases hi:∃i,i<l.length/\(zy l i).1=id
 ·obtain ⟨i,hi,e⟩:=hi
  refine .inr ⟨?_,i,hi,e,?_⟩
  ·simp only [jp,List.any_eq_true]
   exact ⟨_,W3 hi,by simpa using e⟩
  ·obtain ⟨j,rfl⟩:=m3 i (by rw [<-e];exact k.here i hi)
   rfl
 ·refine .inl ⟨?_,?_⟩
  ·simp only [jp,List.any_eq_false]
   intro x hx
   obtain ⟨i,hi',rfl⟩:=W4 hx
   simp;exact fun e=>hi ⟨i,hi',e⟩
  ·have:=m2 (k.gone id fun i hi' e=>hi ⟨i,hi',e⟩)
   subst this;rfl
theorem W5 {id:Int} {l r:zI Int} (h:l.Perm r):jp id l=jp id r:=by
 unfold jp
 rw [Bool.eq_iff_iff,List.any_eq_true,List.any_eq_true]
 exact ⟨fun ⟨x,hx,e⟩=>⟨x,h.subset hx,e⟩,fun ⟨x,hx,e⟩=>⟨x,h.symm.subset hx,e⟩⟩
theorem ZhA {S:Store} {hid hv rid mid mv:Nat} {r:zI Int} (h:HM S hid hv rid mid mv r) (id w:Int) (hn:r.length+1<=2147483648) :
  PCalls Tryz.prog 263 [.ptr hid hv 0,zS id,zS w] S (fun p S'=>p=xy (!jp id r)/\Off S [hid,rid,mid] S'/\HM S' hid hv rid mid mv (bif jp id r then r else ug (id,w) r)):=by
 obtain ⟨l,⟨hp,hh⟩,pm,hs⟩:=h
 have hp0:=hp
 obtain ⟨g,hS,hk⟩:=hp0
 obtain ⟨ver,h1,cs,h2,hR⟩:=hS.h
 obtain ⟨es,res,h3,h4,h5⟩:=hS.look hk id
 refine xN Tryz.func263 rfl Tryz.ntmps263 (congrArg Array.toList Tryz.results263) (by simp) ?_
 refine za (qf (by rfl) (by simp;rfl) (za (za (yG [] (by rfl) fun K hK=>?_))))
 simp -implicitDefEqProofs [h1]
 refine Yw rfl Tryz.underlying286 Tryz.underlying3 rfl rfl rfl h3 h4 (by simp;rfl) ?_
 rcases h5 with ⟨h5,h6⟩ | ⟨h5,i,hi,hid,h6⟩
 ·rw [h6]
  simp -implicitDefEqProofs
  refine hK _ _ ?_
  clear hK
  refine za (qf (by rfl) (by simp;rfl) (zr rfl (fun q=>by simp at q) (fun _=>zh ?_)))
  refine za (yG [] (by rfl) fun K hK=>?_)
  simp -implicitDefEqProofs [zS]
  have hx:∀i,i<l.length->(zy l i).1≠id:=by
   intro i hi e
   have:jp id l=true:=by
    simp only [jp,List.any_eq_true];exact ⟨_,W3 hi,by simpa using e⟩
   rw [h5] at this;cases this
  refine ZT rfl rfl rfl ZgB (by exact Zhv ⟨hp,hh⟩ (id,w) hx (by rw [pm.length_eq];exact hn)) fun p S3 hq=>?_
  obtain ⟨o3,l',hh',pm'⟩:=hq
  refine hK _ _ ?_
  clear hK
  refine za (qf (by rfl) (by simp;rfl) (zg ?_))
  rw [<-W5 pm,h5]
  refine ⟨_,_,rfl,⟨rfl,ud _ _ _,HM.cut ⟨l',hh',pm'.trans (((List.Perm.cons _ pm)).trans (QS _ _).symm),Zcm _ _ hs fun y hy e=>?_⟩⟩,ue o3.offd⟩
  obtain ⟨j,hj,rfl⟩:=W4 (pm.symm.subset hy)
  exact hx j hj e
 ·rw [h6]
  simp -implicitDefEqProofs
  refine hK _ _ ?_
  clear hK
  refine za (qf (by rfl) (by simp;rfl) (zr rfl (fun _=>?_) (fun q=>by simp at q)))
  refine za (qf (by rfl) (by simp;rfl) (zg ?_))
  rw [<-W5 pm,h5]
  exact ⟨_,_,rfl,⟨rfl,fun _ _=>rfl,⟨l,⟨hp,hh⟩,pm,hs⟩⟩,fun o=>.inl rfl⟩
open Go Hp
def Once (r:zI Int):Prop:=(r.map (·.1)).Nodup
theorem HP.once {S:Store} {hid hv rid mid mv:Nat} {l:zI Int} (h:HP S hid hv rid mid mv l):Once l:=by
 obtain ⟨g,_,k⟩:=h
 unfold Once
 refine List.pairwise_iff_getElem.2 fun i j hi hj hij e=>?_
 simp only [List.length_map] at hi hj
 simp only [List.getElem_map] at e
 have q:∀i (hi:i<l.length),zy l i=l[i]:=fun i hi=>by unfold zy;simp [hi]
 have:=k.inj hi hj (by rw [q i hi,q j hj];exact e)
 omega
theorem Once.perm {l r:zI Int} (h:l.Perm r) (k:Once l):Once r:=(List.Perm.nodup_iff (h.map fun x:Int × Int=>x.1)).1 k
theorem HM.once {S:Store} {hid hv rid mid mv:Nat} {r:zI Int} (h:HM S hid hv rid mid mv r):Once r:=by
 obtain ⟨l,⟨hp,_⟩,pm,_⟩:=h
 exact hp.once.perm pm
theorem Zcn {x:Int × Int} {l:zI Int} (h:Once (x :: l)):uQ x.1 (x :: l)=l:=by
 unfold uQ
 rw [List.filter_cons,if_neg (by simp),List.filter_eq_self]
 intro y hy
 simp only [decide_eq_true_eq]
 intro e
 have:=(List.nodup_cons.1 (show (x.1 :: l.map (·.1)).Nodup from h)).1
 exact this (List.mem_map.2 ⟨y,hy,e⟩)
theorem ZhB {l r:zI Int} (id:Int) (h:l.Perm r):(uQ id l).Perm (uQ id r):=h.filter _
theorem ZhC {id:Int} {l:zI Int} (h:jp id l=false):uQ id l=l:=by
 unfold uQ
 rw [List.filter_eq_self]
 intro y hy
 simp only [jp,List.any_eq_false] at h
 simpa using h y hy
theorem ZhD {S:Store} {hid hv rid mid mv:Nat} {r:zI Int} (h:HM S hid hv rid mid mv r) (id:Int) :
  PCalls Tryz.prog 276 [.ptr hid hv 0,zS id] S (fun p S'=>p=xy (jp id r)/\Off S [hid,rid,mid] S'/\HM S' hid hv rid mid mv (uQ id r)):=by
 have hM:=h
 obtain ⟨l,⟨hp,hh⟩,pm,hs⟩:=h
 have hp0:=hp
 obtain ⟨g,hS,hk⟩:=hp0
 obtain ⟨ver,h1,cs,h2,hR⟩:=hS.h
 obtain ⟨es,res,h3,h4,h5⟩:=hS.look hk id
 refine xN Tryz.func276 rfl Tryz.ntmps276 (congrArg Array.toList Tryz.results276) (by simp) ?_
 refine za (qf (by rfl) (by simp;rfl) (za (yG [] (by rfl) fun K hK=>?_)))
 simp -implicitDefEqProofs [h1]
 refine Yw rfl Tryz.underlying286 Tryz.underlying3 rfl rfl rfl h3 h4 (by simp;rfl) ?_
 rw [W5 pm] at h5
 rcases h5 with ⟨h5,h6⟩ | ⟨h5,i,hi,hid,h6⟩
 ·rw [h6]
  simp -implicitDefEqProofs
  refine hK _ _ ?_
  clear hK
  refine za (za (qf (by rfl) (by simp;rfl) (zr rfl (fun _=>?_) (fun q=>by simp at q))))
  refine za (qf (by rfl) (by simp;rfl) (zg ?_))
  rw [h5,ZhC h5]
  exact ⟨_,_,rfl,⟨rfl,fun _ _=>rfl,hM⟩,fun o=>.inl rfl⟩
 ·rw [h6]
  simp -implicitDefEqProofs [zS]
  refine hK _ _ ?_
  clear hK
  refine za (za (qf (by rfl) (by simp;rfl) (zr rfl (fun q=>by simp at q) (fun _=>zh ?_))))
  refine za (yG [] (by rfl) fun K hK=>?_)
  simp -implicitDefEqProofs
  refine ZT rfl rfl rfl ZgE (by exact Zhw ⟨hp,hh⟩ i hi) fun p S3 hq=>?_
  obtain ⟨_,o3,l',hh',pm'⟩:=hq
  refine hK _ _ ?_
  clear hK
  refine za (qf (by rfl) (by simp;rfl) (zg ?_))
  rw [h5]
  have e1:uQ id (zy l i :: l')=l':=by rw [<-hid];exact Zcn (Once.perm pm'.symm hp.once)
  refine ⟨_,_,rfl,⟨rfl,ud _ _ _,HM.cut ⟨l',hh',?_,Zhz id r hs⟩⟩,ue o3.offd⟩
  have:=ZhB id (pm'.trans pm)
  rw [e1] at this
  exact this
end Go.Proofs.YtcnbiofjmioaiaaGreat.Pv
namespace Go.Proofs.YtcnbiofjmioaiaaGreat.Hp
section
variable {α:Type} [DecidableEq α] [Inhabited α] {lt:α->α->Bool}
theorem ZhE (hs:Str lt) {l:zI α} (h:vi lt l l.length):∀k,k<l.length->il lt (zy l k) (zy l 0)=false:=by
 intro k
 induction k using Nat.strongRecOn with
 | _ k ih =>
  intro hk
  rcases Nat.eq_zero_or_pos k with e | e
  ·subst e;exact (uC hs).irr _
  ·have:=wC e
   exact Ql hs (h k e hk) (ih (zV k) this (by omega))
end
end Go.Proofs.YtcnbiofjmioaiaaGreat.Hp
namespace Go.Proofs.YtcnbiofjmioaiaaGreat.Pv
open Go Hp
theorem HM.root {S:Store} {hid hv rid mid mv:Nat} {x:Int × Int} {r:zI Int} {l:zI Int} (h:HH S hid hv rid mid mv l) (pm:l.Perm (x :: r)) (hs:wg (x :: r)):zy l 0=x:=by
 have hl:0<l.length:=by rw [pm.length_eq];simp
 obtain ⟨k,hk,e⟩:=W4 (pm.symm.subset (List.mem_cons_self))
 have h1:=ZhE vw h.2 k hk
 rw [e] at h1
 rcases List.mem_cons.1 (pm.subset (W3 hl)) with h2 | h2
 ·exact h2
 ·have:=(List.pairwise_cons.1 hs).1 _ h2
  rw [show xc x (zy l 0)=false from h1] at this;cases this
def Z3:zI Int->PV
 | []=>.tup [zS 0,zS 0,xy false]
 | x :: _=>.tup [zS x.1,zS x.2,xy true]
theorem ZhF {S:Store} {hid hv rid mid mv:Nat} {r:zI Int} (h:HM S hid hv rid mid mv r) :
  PCalls Tryz.prog 275 [.ptr hid hv 0] S (fun p S'=>p=Z3 r/\S'=S):=by
 obtain ⟨l,hh,pm,hs⟩:=h
 have hp:=hh.1
 obtain ⟨g,hS,hk⟩:=hp
 obtain ⟨ver,h1,cs,h2,hR⟩:=hS.h
 refine xN Tryz.func275 rfl Tryz.ntmps275 (congrArg Array.toList Tryz.results275) (by simp) ?_
 refine za (qf (by rfl) (by simp;rfl) (za (za (yG [] (by rfl) fun K hK=>?_))))
 simp -implicitDefEqProofs [h1]
 refine hK _ _ ?_
 clear hK
 cases r with
 | nil =>
  have hl:l.length=0:=by rw [pm.length_eq];rfl
  refine zr rfl (fun _=>?_) (fun q=>by simp at q;exact absurd (List.eq_nil_of_length_eq_zero hl) q)
  refine za (qf (by rfl) (by simp;rfl) (za (qf (by rfl) (by simp;rfl) (zg ?_))))
  exact ⟨_,S,rfl,⟨rfl,rfl⟩,fun o=>.inl rfl⟩
 | cons x r =>
  have hl:0<l.length:=by rw [pm.length_eq];simp
  have hx:=HM.root hh pm hs
  obtain ⟨tl,e1⟩:=hR.at 0 hl
  rw [hx] at e1
  simp at e1
  refine zr rfl (fun q=>by simp at q;subst q;simp at hl) (fun _=>zh ?_)
  refine za (yG [] (by rfl) fun K hK=>?_)
  have hl':0<l.length:=hl
  simp -implicitDefEqProofs [h1,h2,hl',e1]
  refine ZW rfl (by simp;rfl) (by simp) fun a ha=>?_
  simp -implicitDefEqProofs
  refine hK _ _ ?_
  clear hK
  refine za (ZfJ mixed (by rfl) (by rfl) (by rfl) (by simp;rfl) (zg ?_))
  refine ⟨_,S,rfl,⟨rfl,rfl⟩,fun o=>?_⟩
  by_cases e:o=a
  ·exact .inr (e ▸ ha)
  ·exact .inl (by rw [qH _ _ _ _ e])
theorem ZhG {S:Store} {hid hv rid mid mv:Nat} {r:zI Int} (h:HM S hid hv rid mid mv r) :
  PCalls Tryz.prog 264 [.ptr hid hv 0] S (fun p S'=>p=Z3 r/\Off S [hid,rid,mid] S'/\HM S' hid hv rid mid mv r.tail):=by
 refine xN Tryz.func264 rfl Tryz.ntmps264 (congrArg Array.toList Tryz.results264) (by simp) ?_
 refine za (qf (by rfl) (by simp;rfl) (za (yG [] (by rfl) fun K hK=>?_)))
 simp -implicitDefEqProofs
 refine ZT rfl rfl rfl ZgC (by exact ZhF h) fun p S2 hq=>?_
 obtain ⟨rfl,rfl⟩:=hq
 cases r with
 | nil =>
  simp -implicitDefEqProofs [Z3]
  refine hK _ _ ?_
  clear hK
  refine za (za (qf (by rfl) (by simp;rfl) (zr rfl (fun q=>by simp at q) (fun _=>zh ?_))))
  refine za (qf (by rfl) (by simp;rfl) (zg ?_))
  exact ⟨_,S2,rfl,⟨rfl,fun _ _=>rfl,h⟩,fun o=>.inl rfl⟩
 | cons x r =>
  simp -implicitDefEqProofs [Z3]
  refine hK _ _ ?_
  clear hK
  refine za (za (qf (by rfl) (by simp;rfl) (zr rfl (fun _=>?_) (fun q=>by simp at q))))
  refine yG [] (by rfl) fun K hK=>?_
  simp -implicitDefEqProofs
  refine ZT rfl rfl rfl ZgD (by exact ZhD h x.1) fun p S3 hq=>?_
  obtain ⟨_,o3,h3⟩:=hq
  refine hK _ _ ?_
  clear hK
  refine za (qf (by rfl) (by simp;rfl) (zg ?_))
  rw [Zcn h.once] at h3
  exact ⟨_,S3,rfl,⟨rfl,o3,h3⟩,fun o=>.inl rfl⟩
open Go Hp
theorem HM.congr {S T:Store} {hid hv rid mid mv:Nat} {r:zI Int} (h:HM S hid hv rid mid mv r) (e:∀o∈[hid,rid,mid],T o=S o):HM T hid hv rid mid mv r:=by
 obtain ⟨l,⟨⟨g,h,k⟩,hh⟩,pm,hs⟩:=h
 exact ⟨l,⟨⟨g,h.congr e,k⟩,hh⟩,pm,hs⟩
def HX (o:Ob × Ob × Ob) (a hv mv:Nat) (r:zI Int):Prop:=∀S:Store,S a=o.1->S (a+1)=o.2.1->S (a+2)=o.2.2->HM S (a+1) hv (a+2) a mv r
def uh (obs:List Ob) (j:Nat) (o:Ob × Ob × Ob):List Ob:=((obs.set j o.1).set (j+1) o.2.1).set (j+2) o.2.2
theorem HM.hx {S:Store} {a hv mv:Nat} {r:zI Int} (h:HM S (a+1) hv (a+2) a mv r):HX (S a,S (a+1),S (a+2)) a hv mv r:=by
 intro T h1 h2 h3
 refine h.congr fun o ho=>?_
 simp at ho
 rcases ho with rfl | rfl | rfl
 ·exact h2
 ·exact h3
 ·exact h1
theorem HX.hm {S:Store} {nx j hv mv:Nat} {obs:List Ob} {o:Ob × Ob × Ob} {r:zI Int} (h:HX o (nx+j) hv mv r) (h1:obs[j]?=some o.1) (h2:obs[j+1]?=some o.2.1) (h3:obs[j+2]?=some o.2.2):HM (ext S nx obs) (nx+j+1) hv (nx+j+2) (nx+j) mv r:=by
 refine h _ ?_ ?_ ?_
 ·rw [yS,List.getD_eq_getElem?_getD,h1];rfl
 ·rw [Nat.add_assoc,yS,List.getD_eq_getElem?_getD,h2];rfl
 ·rw [Nat.add_assoc,yS,List.getD_eq_getElem?_getD,h3];rfl
theorem ZhH {S T:Store} {nx j:Nat} {obs:List Ob} (h:Off (ext S nx obs) [nx+j+1,nx+j+2,nx+j] T) (hl:j+2<obs.length):T=ext S nx (uh obs j (T (nx+j),T (nx+j+1),T (nx+j+2))):=by
 funext i
 by_cases h1:i=nx+j
 ·subst h1
  rw [yS,List.getD_eq_getElem?_getD,uh,List.getElem?_set_ne (by omega),List.getElem?_set_ne (by omega),List.getElem?_set_self (by omega)];rfl
 by_cases h2:i=nx+j+1
 ·subst h2
  rw [Nat.add_assoc,yS,List.getD_eq_getElem?_getD,uh,List.getElem?_set_ne (by omega),List.getElem?_set_self (by simp;omega)];rfl
 by_cases h3:i=nx+j+2
 ·subst h3
  rw [Nat.add_assoc,yS,List.getD_eq_getElem?_getD,uh,List.getElem?_set_self (by simp;omega)];rfl
 rw [h i (by simp;omega)]
 simp only [ext]
 split
 ·rfl
 ·rw [List.getD_eq_getElem?_getD,List.getD_eq_getElem?_getD,uh,List.getElem?_set_ne (by omega),List.getElem?_set_ne (by omega),List.getElem?_set_ne (by omega)]
section
variable {S:Store} {nx j hv mv:Nat} {obs:List Ob} {o:Ob × Ob × Ob} {r:zI Int}
theorem Zco {f:FuncId} {args:List PV} {q:PV} {r':zI Int} (he:qt Tryz.prog f) (hl:j+2<obs.length)
  (h:PCalls Tryz.prog f args (ext S nx obs) (fun p T=>p=q/\Off (ext S nx obs) [nx+j+1,nx+j+2,nx+j] T/\HM T (nx+j+1) hv (nx+j+2) (nx+j) mv r')) :
  Spec Tryz.prog f args (ext S nx obs) (fun p T=>p=q/\∃o',HX o' (nx+j) hv mv r'/\T=ext S nx (uh obs j o')):=by
 refine ⟨he,h.mono ?_⟩
 rintro p T ⟨h1,h2,h3⟩
 exact ⟨h1,_,h3.hx,ZhH h2 hl⟩
variable (h:HX o (nx+j) hv mv r) (h1:obs[j]?=some o.1) (h2:obs[j+1]?=some o.2.1) (h3:obs[j+2]?=some o.2.2)
include h h1 h2 h3
theorem Zcp (id w:Int) (hn:r.length+1<=2147483648):Spec Tryz.prog 263 [.ptr (nx+j+1) hv 0,I id,I w] (ext S nx obs) (fun p T=>p=B (!jp id r)/\∃o',HX o' (nx+j) hv mv (bif jp id r then r else ug (id,w) r)/\T=ext S nx (uh obs j o')) :=
 Zco Zgz (List.getElem?_eq_some_iff.1 h3).1 (ZhA (h.hm h1 h2 h3) id w hn)
theorem ZhI:Spec Tryz.prog 264 [.ptr (nx+j+1) hv 0] (ext S nx obs) (fun p T=>p=Z3 r/\∃o',HX o' (nx+j) hv mv r.tail/\T=ext S nx (uh obs j o')) :=
 Zco ZgA (List.getElem?_eq_some_iff.1 h3).1 (ZhG (h.hm h1 h2 h3))
end
theorem ZhJ {S:Store} {nx:Nat} {obs:List Ob}:Spec Tryz.prog 261 [] (ext S nx obs) (fun p T=>∃hv mv o,p=.ptr (nx+obs.length+1) hv 0/\HX o (nx+obs.length) hv mv []/\T=ext S nx (obs++[o.1,o.2.1,o.2.2])):=by
 have hd:=qN (S:=S) (nx:=nx) (obs:=obs)
 have e:∀o:Ob × Ob × Ob,ext S nx (obs++[o.1,o.2.1,o.2.2])=ext (ext S nx obs) (nx+obs.length) [o.1,o.2.1,o.2.2]:=by
  intro o
  have p1:=jl (S:=S) (nx:=nx) (obs:=obs) o.1
  have p2:=jl (S:=S) (nx:=nx) (obs:=obs++[o.1]) o.2.1
  have p3:=jl (S:=S) (nx:=nx) (obs:=obs++[o.1]++[o.2.1]) o.2.2
  have q0:=yX hd
  have q1:=jl (S:=ext S nx obs) (nx:=nx+obs.length) (obs:=[]) o.1
  have q2:=jl (S:=ext S nx obs) (nx:=nx+obs.length) (obs:=[o.1]) o.2.1
  have q3:=jl (S:=ext S nx obs) (nx:=nx+obs.length) (obs:=[o.1,o.2.1]) o.2.2
  simp only [List.length_append,List.length_cons,List.length_nil,List.append_assoc,List.cons_append,List.nil_append,Nat.add_zero,Nat.zero_add] at p1 p2 p3 q1 q2 q3
  rw [<-p3,<-p2,<-p1,<-q3,<-q2,<-q1,q0]
  simp only [Nat.add_assoc]
 generalize ext S nx obs=S1 at *
 generalize nx+obs.length=m at *
 refine uc hd Tryz.func261 Tryz.ntmps261 Tryz.results261 ?_
 refine za (zb ?_)
 refine za (zb ?_)
 intro mv hv
 refine y8 1 0 332 2 rfl rfl fun rv=>?_
 refine zg ⟨_,_,rfl,⟨hv,mv,(.map mv [],.cells hv 327 [.sl (m+2) rv 2 0 0,.mp m mv],.cells rv 332 []),rfl,?_,(e _).symm⟩,fun o=>.inl (by simp)⟩
 intro T h1 h2 h3
 refine ⟨[],⟨⟨fun _=>none,⟨⟨rv,h2,[],h3,[],rfl⟩,⟨[],h1,Zcf _ _⟩,⟨by omega,by omega,by omega⟩,by simp⟩,⟨fun i hi=>by simp at hi,fun _ _=>rfl⟩⟩,fun k k0 kn=>by simp at kn⟩,.refl _,by simp [wg]⟩
open Go Hp
@[simp] theorem ZqE (a b c:Ob) (l:List Ob) (o:Ob × Ob × Ob):uh (a :: b :: c :: l) 0 o=o.1 :: o.2.1 :: o.2.2 :: l:=rfl
open Go Hp
instance:Enc (Int × Int):=⟨fun x=>[I x.1,I x.2],2,fun _=>rfl,fun _=>rfl⟩
@[simp] theorem ZqF (s:Int × Int):Enc.enc s=[I s.1,I s.2]:=rfl
@[simp high] theorem ZqG (l:zI Int):(l.flatMap Enc.enc).length=l.length*2:=j8 l
@[simp high] theorem ZqH (l:zI Int):(l.flatMap Enc.enc).take (l.length*2)=l.flatMap Enc.enc:=uM l
open Go Hp
theorem HM.alive {S:Store} {nx hid hv rid mid mv:Nat} {r:zI Int} (h:HM S hid hv rid mid mv r) (hd:zQ nx S):∀o∈[hid,rid,mid],o<nx:=by
 intro o ho
 have:S o≠.dead:=by
  obtain ⟨l,⟨⟨g,h,_⟩,_⟩,_⟩:=h
  obtain ⟨ver,h1,cs,h2,_⟩:=h.h
  obtain ⟨es,h3,_⟩:=h.m
  simp at ho
  rcases ho with rfl | rfl | rfl
  ·rw [h1];simp
  ·rw [h2];simp
  ·rw [h3];simp
 exact Nat.lt_of_not_le fun q=>this (hd o q)
theorem HM.old {S:Store} {nx hid hv rid mid mv:Nat} {obs:List Ob} {r:zI Int} (h:HM S hid hv rid mid mv r) (hd:zQ nx S):HM (ext S nx obs) hid hv rid mid mv r :=
 h.congr fun o ho=>by have:=h.alive hd o ho;simp [ext,this]
section
variable {S:Store} {nx hid hv rid mid mv:Nat} {obs:List Ob} {r:zI Int}
variable (h:HM S hid hv rid mid mv r) (hd:zQ nx S)
include h hd
end
structure Deed where
 kind:Int
 id:Int
 w:Int
instance:Enc Deed:=⟨fun d=>[I d.kind,I d.id,I d.w],3,fun _=>rfl,fun _=>rfl⟩
@[simp] theorem ZqI (d:Deed):Enc.enc d=[I d.kind,I d.id,I d.w]:=rfl
@[simp high] theorem ZqJ (l:List Deed):(l.flatMap Enc.enc).length=l.length*3:=j8 l
@[simp high] theorem ZqK (l:List Deed):(l.flatMap Enc.enc).take (l.length*3)=l.flatMap Enc.enc:=uM l
open Go Hp Go.Sort
def wJ (a b:Int):Int:=if a<b then -1 else if b<a then 1 else 0
def xS (l:List Int) (i:Nat):Int × Int:=((i:Int),l.getD i 0)
def xC (l:List Int) (i j:Fin l.length):Int:=if wJ (l.getD i 0) (l.getD j 0)=0 then wJ (i.val:Int) j.val else wJ (l.getD i 0) (l.getD j 0)
theorem QT (l:List Int) (i j:Fin l.length):ltOf (xC l) i j=xc (xS l i) (xS l j):=by
 unfold ltOf xC wJ xc il xS yL
 simp only
 generalize l.getD i.val 0=a
 generalize l.getD j.val 0=b
 by_cases h:a=b
 ·subst h
  have e1:(if a<a then (-1:Int) else if a<a then 1 else 0)=0:=by rw [if_neg (by omega),if_neg (by omega)]
  rw [e1,if_pos rfl,if_pos rfl]
  by_cases h4:(i.val:Int)<j.val
  ·rw [if_pos h4];simp;omega
  ·rw [if_neg h4]
   by_cases h5:(j.val:Int)<i.val
   ·rw [if_pos h5];simp;omega
   ·rw [if_neg h5];simp;omega
 ·rw [if_neg h]
  by_cases h2:a<b
  ·have e1:(if a<b then (-1:Int) else if b<a then 1 else 0)=-1:=by rw [if_pos h2]
   rw [e1,if_neg (by decide)];simp [h2]
  ·have e1:(if a<b then (-1:Int) else if b<a then 1 else 0)=1:=by rw [if_neg h2,if_pos (by omega)]
   rw [e1,if_neg (by decide)];simp [h2]
theorem Xh (l:List Int):SWO (ltOf (xC l)):=by
 have H:=uC vw
 refine ⟨fun x=>?_,fun x y z h1 h2=>?_,fun x y z h1 h2=>?_⟩
 ·rw [QT];exact H.irr _
 ·rw [QT] at *;exact H.tr _ _ _ h1 h2
 ·rw [QT] at *
  cases h:xc (xS l x) (xS l z) with
  | false=>rfl
  | true =>
   exfalso
   cases h3:xc (xS l y) (xS l x) with
   | true=>have hh:xc (xS l y) (xS l z)=true:=H.tr _ _ _ h3 h;rw [h2] at hh;cases hh
   | false =>
    have e:=H.tot _ _ h1 h3
    rw [e,h2] at h;cases h
theorem Zcq (l:List Int):∀x y,ltOf (xC l) x y=false->ltOf (xC l) y x=false->x=y:=by
 intro x y h1 h2
 rw [QT] at h1 h2
 have:=(uC vw).tot _ _ h1 h2
 have:(x.val:Int)=y.val:=congrArg Prod.fst this
 exact Fin.ext (by omega)
def Z4 (l:List Int):List (Fin l.length):=(List.finRange l.length).mergeSort fun x y=>!(ltOf (xC l)) y x
theorem W6 (l:List Int):(Z4 l).Perm (List.finRange l.length):=List.mergeSort_perm _ _
theorem ZhK (l:List Int):((Z4 l).map fun i:Fin l.length=>xS l i.val).Perm ((List.range l.length).map (xS l)):=by
 refine ((W6 l).map _).trans ?_
 have e:(List.finRange l.length).map (fun i:Fin l.length=>xS l i.val)=(List.range l.length).map (xS l):=by
  apply List.ext_getElem
  ·simp
  ·intro i h1 h2;simp
 rw [e]
theorem ZhL (l:List Int):(Z4 l).Nodup:=(W6 l).nodup_iff.2 (List.nodup_finRange _)
theorem ZhM (l:List Int):wg ((Z4 l).map fun i:Fin l.length=>xS l i.val):=by
 have H:=uC vw
 have h1:(Z4 l).Pairwise fun a b=>(!(ltOf (xC l)) b a)=true:=by
  refine List.pairwise_mergeSort ?_ ?_ _
  ·intro a b c h1 h2
   simp only [Bool.not_eq_true'] at *
   exact (Xh l).ntrans c b a h2 h1
  ·intro a b
   simp only [Bool.or_eq_true,Bool.not_eq_true']
   cases h:ltOf (xC l) b a with
   | false=>exact .inl rfl
   | true =>
    refine .inr ?_
    cases h2:ltOf (xC l) a b with
    | false=>rfl
    | true=>have:=(Xh l).trans _ _ _ h h2;rw [(Xh l).irrefl] at this;cases this
 have h2:=List.Pairwise.and h1 (ZhL l)
 unfold wg
 refine List.Pairwise.map _ ?_ h2
 rintro a b ⟨h3,h4⟩
 have h3':ltOf (xC l) b a=false:=by simpa using h3
 rw [<-QT]
 cases h:ltOf (xC l) a b with
 | true=>rfl
 | false=>exact absurd (Zcq l a b h h3') h4
def wh (l:List Int):List Int:=(Z4 l).map fun i=>(i.val:Int)
theorem W7 (l:List Int):(wh l).length=l.length:=by
 unfold wh;rw [List.length_map,(W6 l).length_eq];simp
theorem ZhN {l:List Int} {z:Int} (h:z∈wh l):0<=z/\z<l.length:=by
 obtain ⟨i,_,rfl⟩:=List.mem_map.1 h
 have:=i.isLt
 omega
end Go.Proofs.YtcnbiofjmioaiaaGreat.Pv
namespace Go.Proofs.YtcnbiofjmioaiaaGreat.Hp
section
variable {α:Type} {lt:α->α->Bool}
def Sd (lt:α->α->Bool) (l:List α):Prop:=l.Pairwise fun a b=>lt a b=true
theorem ZhO (rows:List (List α)) (i:Nat) (y:α) (tl:List α) (h:rows[i]?=some (y :: tl)):rows.flatten.Perm (y :: (rows.set i tl).flatten):=by
 induction rows generalizing i with
 | nil=>simp at h
 | cons r rows ih =>
  cases i with
  | zero =>
   simp at h;subst h
   simp
  | succ i =>
   simp only [List.getElem?_cons_succ] at h
   have:=ih i h
   simp only [List.flatten_cons,List.set_cons_succ]
   exact (this.append_left r).trans List.perm_middle
theorem ZhP (H:Str lt) {P:List α} (hP:Sd lt P) {rows:List (List α)} (hr:∀r∈rows,Sd lt r) {k:Nat} (hp:rows.flatten.Perm (P.drop k)) {i:Nat} {y:α} {tl:List α} (hi:rows[i]?=some (y :: tl))
  (hmin:∀(j:Nat) z tz,rows[j]?=some (z :: tz)->j≠i->lt y z=true) :
  P[k]?=some y/\(rows.set i tl).flatten.Perm (P.drop (k+1))/\∀r∈rows.set i tl,Sd lt r:=by
 have hfs:=ZhO rows i y tl hi
 have hsi:Sd lt (y :: tl):=hr _ (List.mem_of_getElem? hi)
 -- y is the least of what is left
 have hle:∀z∈rows.flatten,z=y\/lt y z=true:=by
  intro z hz
  obtain ⟨r,hrm,hzr⟩:=List.mem_flatten.1 hz
  obtain ⟨j,hj⟩:=List.mem_iff_getElem?.1 hrm
  by_cases e:j=i
  ·subst e
   rw [hi] at hj
   cases hj
   rcases List.mem_cons.1 hzr with e | e
   ·exact .inl e
   ·exact .inr ((List.pairwise_cons.1 hsi).1 z e)
  ·cases r with
   | nil=>cases hzr
   | cons a ar =>
    have h1:=hmin j a ar hj e
    rcases List.mem_cons.1 hzr with e2 | e2
    ·exact .inr (e2 ▸ h1)
    ·exact .inr (H.tr _ _ _ h1 ((List.pairwise_cons.1 (hr _ hrm)).1 z e2))
 have hyP:y∈P.drop k:=hp.subset (hfs.symm.subset List.mem_cons_self)
 cases hd:P.drop k with
 | nil=>rw [hd] at hyP;cases hyP
 | cons x rest =>
  have hPd:Sd lt (x :: rest):=by rw [<-hd];exact List.Pairwise.sublist (List.drop_sublist k P) hP
  have hx:x=y:=by
   rw [hd] at hyP
   rcases List.mem_cons.1 hyP with e | e
   ·exact e.symm
   ·have h1:=(List.pairwise_cons.1 hPd).1 y e
    rcases hle x (hp.symm.subset (by rw [hd];exact List.mem_cons_self)) with h | h
    ·exact h
    ·have:=H.tr _ _ _ h1 h;rw [H.irr] at this;cases this
  subst hx
  have hk:P[k]?=some x:=by
   have:(P.drop k)[0]?=some x:=by rw [hd];rfl
   rwa [List.getElem?_drop,Nat.add_zero] at this
  have hd1:P.drop (k+1)=rest:=by
   have:P.drop (k+1)=(P.drop k).drop 1:=by rw [List.drop_drop]
   rw [this,hd];rfl
  refine ⟨hk,?_,fun r hrm=>?_⟩
  ·rw [hd1]
   rw [hd] at hp
   exact List.Perm.cons_inv (hfs.symm.trans hp)
  ·rcases List.mem_or_eq_of_mem_set hrm with h | h
   ·exact hr r h
   ·rw [h];exact (List.pairwise_cons.1 hsi).2
theorem ZhQ {P:List α} {rows:List (List α)} {k:Nat} (hp:rows.flatten.Perm (P.drop k)) (hk:k<=P.length) (h0:∀r∈rows,r=[]):k=P.length:=by
 have:rows.flatten=[]:=List.flatten_eq_nil_iff.2 h0
 rw [this] at hp
 have:=hp.length_eq
 simp at this
 omega
theorem Zcr (H:Str lt):∀{a b:List α},a.Perm b->Sd lt a->Sd lt b->a=b
 | [],b,h,_,_=>by rw [List.nil_perm.1 h]
 | x :: a,[],h,_,_=>by cases List.perm_nil.1 h
 | x :: a,y :: b,h,ha,hb=>by
  have ha':=List.pairwise_cons.1 ha
  have hb':=List.pairwise_cons.1 hb
  have e:x=y:=by
   rcases List.mem_cons.1 (h.subset (List.mem_cons_self)) with e | hx
   ·exact e
   ·rcases List.mem_cons.1 (h.symm.subset (List.mem_cons_self)) with e | hy
    ·exact e.symm
    ·have:=H.tr _ _ _ (ha'.1 y hy) (hb'.1 x hx)
     rw [H.irr] at this;cases this
  subst e
  rw [Zcr H (List.Perm.cons_inv h) ha'.2 hb'.2]
theorem ZhR (H:Str lt) (l:List α) (hn:l.Nodup):Sd lt (l.mergeSort fun x y=>!lt y x):=by
 have h1:(l.mergeSort fun x y=>!lt y x).Pairwise fun a b=>(!lt b a)=true:=by
  refine List.pairwise_mergeSort ?_ ?_ _
  ·intro a b c h1 h2
   simp only [Bool.not_eq_true'] at *
   cases e:lt c a with
   | false=>rfl
   | true =>
    exfalso
    cases e2:lt b c with
    | true=>have:=H.tr _ _ _ e2 e;rw [h1] at this;cases this
    | false=>have e3:=H.tot _ _ e2 h2;rw [<-e3,h1] at e;cases e
  ·intro a b
   simp only [Bool.or_eq_true,Bool.not_eq_true']
   cases e:lt b a with
   | false=>exact .inl rfl
   | true =>
    refine .inr ?_
    cases e2:lt a b with
    | false=>rfl
    | true=>have:=H.tr _ _ _ e e2;rw [H.irr] at this;cases this
 have h2:=List.Pairwise.and h1 ((List.mergeSort_perm l _).nodup_iff.2 hn)
 refine List.Pairwise.imp ?_ h2
 rintro a b ⟨h3,h4⟩
 cases e:lt a b with
 | true=>rfl
 | false=>exact absurd (H.tot _ _ e (by simpa using h3)) h4
end
end Go.Proofs.YtcnbiofjmioaiaaGreat.Hp
namespace Go.Proofs.YtcnbiofjmioaiaaGreat.Pv
open Go Hp
def jS (x:Inst) (a b:Int):Int:=arc x (a+1) 0+arc x 0 (b+1)-arc x (a+1) (b+1)
theorem Zcs (x:Inst):∀(l:List Int) (k u v:Int) (m:List Int),yQ x k (l++u :: v :: m)=yQ x k (l++[u])+yQ x 0 (v :: m)-jS x u v
 | [],k,u,v,m=>by
  have e:yQ x 0 (v :: m)=arc x 0 (v+1)+yQ x (v+1) m:=rfl
  rw [e]
  simp only [List.nil_append,yQ,jS]
  omega
 | y :: l,k,u,v,m=>by
  simp only [List.cons_append,yQ]
  rw [Zcs x l (y+1) u v m]
  have e:yQ x 0 (v :: m)=arc x 0 (v+1)+yQ x (v+1) m:=rfl
  omega
theorem ZhS (x:Inst) (all:List Int) (k:Nat) (u v:Int) (hu:all[k]?=some u) (hv:all[k+1]?=some v):yc x all=yc x (all.take (k+1))+yc x (all.drop (k+1))-jS x u v:=by
 have e1:all.take (k+1)=all.take k++[u]:=by
  rw [List.take_add_one,hu];rfl
 have e2:all.drop (k+1)=v :: all.drop (k+2):=by
  obtain ⟨h,rfl⟩:=List.getElem?_eq_some_iff.1 hv
  exact List.drop_eq_getElem_cons h
 have e3:all=all.take k++u :: v :: all.drop (k+2):=by
  conv=>lhs;rw [<-List.take_append_drop (k+1) all,e1,e2]
  simp
 have hw:∀l:List Int,l≠[]->yc x l=yQ x 0 l:=fun l h=>by unfold yc;rw [if_neg h]
 rw [hw all (by rw [e3];simp),hw (all.take (k+1)) (by rw [e1];simp),hw (all.drop (k+1)) (by rw [e2];simp)]
 conv=>lhs;rw [e3,Zcs]
 rw [e1,e2]
structure Pr where
 a:Int
 b:Int
 s:Int
deriving DecidableEq
def xe (p q:Pr):Bool:=if p.s=q.s then (if p.a=q.a then decide (p.b<q.b) else decide (p.a<q.a)) else decide (q.s<p.s)
theorem W8:Str xe:=by
 refine ⟨fun a=>by simp [xe],fun a b c h1 h2=>?_,fun a b h1 h2=>?_⟩
 ·unfold xe at *
  split at h1<;>split at h2<;>split<;>(try split at h1)<;>(try split at h2)<;>(try split)<;>simp only [decide_eq_true_eq] at *<;>omega
 ·obtain ⟨a1,a2,a3⟩:=a
  obtain ⟨b1,b2,b3⟩:=b
  unfold xe at *
  simp only at *
  split at h1<;>split at h2<;>(try split at h1)<;>(try split at h2)<;>simp only [decide_eq_false_iff_not] at *<;>simp only [Pr.mk.injEq]<;>omega
def q9 (x:Inst) (c:List Int) (a:Int):List Pr:=(c.filter fun b=>decide (b≠a)).map fun b=>⟨a,b,jS x a b⟩
def wZ (x:Inst) (c:List Int):List Pr:=c.flatMap (q9 x c)
def qv (x:Inst) (c:List Int):List Pr:=(wZ x c).mergeSort fun p q=>!xe q p
theorem QU {x:Inst} {c:List Int} {p:Pr}:p∈wZ x c<->p.a∈c/\p.b∈c/\p.b≠p.a/\p.s=jS x p.a p.b:=by
 unfold wZ q9
 simp only [List.mem_flatMap,List.mem_map,List.mem_filter,decide_eq_true_eq]
 constructor
 ·rintro ⟨a,ha,b,⟨hb,hne⟩,rfl⟩;exact ⟨ha,hb,hne,rfl⟩
 ·rintro ⟨ha,hb,hne,hs⟩;exact ⟨p.a,ha,p.b,⟨hb,hne⟩,by rw [<-hs]⟩
theorem W9 {x:Inst} {c:List Int} (h:c.Nodup):(wZ x c).Nodup:=by
 unfold wZ
 unfold List.Nodup
 rw [List.pairwise_flatMap]
 refine ⟨fun a ha=>?_,?_⟩
 ·unfold q9
  refine List.Pairwise.map _ ?_ (List.Pairwise.filter _ h)
  intro u v huv e
  exact huv (congrArg Pr.b e)
 ·refine List.Pairwise.imp ?_ h
  intro a b hab
  intro p hp q hq e
  subst e
  unfold q9 at hp hq
  obtain ⟨u,_,rfl⟩:=List.mem_map.1 hp
  obtain ⟨v,_,e⟩:=List.mem_map.1 hq
  exact hab (congrArg Pr.a e).symm
theorem Va {x:Inst} {c:List Int} (h:c.Nodup):Sd xe (qv x c):=ZhR W8 _ (W9 h)
theorem Z5 (x:Inst) (c:List Int):(qv x c).Perm (wZ x c):=List.mergeSort_perm _ _
theorem ZhT {x:Inst} {c:List Int} (h:c.Nodup):(qv x c).length=c.length*(c.length-1):=by
 rw [(Z5 x c).length_eq]
 unfold wZ
 rw [List.length_flatMap]
 have:c.map (fun a=>(q9 x c a).length)=c.map fun _=>c.length-1:=by
  refine List.map_congr_left fun a ha=>?_
  unfold q9
  rw [List.length_map]
  have:=List.Nodup.erase_eq_filter h a
  have h2:=List.length_erase_of_mem ha
  rw [this] at h2
  rw [<-h2]
  congr 1
  refine List.filter_congr fun b _=>?_
  by_cases e:b=a<;>simp [e]
 rw [this,List.map_const',List.sum_replicate_nat]
theorem ZhU {x:Inst} {c:List Int} (h:c.Nodup) {l:List Pr} (hp:l.Perm (wZ x c)) (hs:Sd xe l):l=qv x c :=
 Zcr W8 (hp.trans (Z5 x c).symm) hs (Va h)
theorem ZhV {x:Inst} {c d:List Int} (hc:c.Nodup) (hd:d.Nodup) (h:c.Perm d):(wZ x c).Perm (wZ x d):=by
 refine (List.perm_ext_iff_of_nodup (W9 hc) (W9 hd)).2 fun p=>?_
 rw [QU,QU,h.mem_iff,h.mem_iff]
theorem ZhW {x:Inst} {c d:List Int} (hc:c.Nodup) (hd:d.Nodup) (h:c.Perm d):qv x c=qv x d :=
 ZhU hd ((Z5 x c).trans (ZhV hc hd h)) (Va hc)
open Go Hp
def yH:Nat->List (List Pr)->zI Int
 | _,[]=>[]
 | i,[] :: rows=>yH (i+1) rows
 | i,(p :: _) :: rows=>((i:Int),-p.s) :: yH (i+1) rows
theorem YN:∀(rows:List (List Pr)) (i:Nat) (x:Int × Int),x∈yH i rows<->∃(k:Nat) (p:Pr) (tl:List Pr),rows[k]?=some (p :: tl)/\x=(((i+k:Nat):Int),-p.s)
 | [],i,x=>by simp [yH]
 | [] :: rows,i,x=>by
  rw [yH,YN rows (i+1) x]
  constructor
  ·rintro ⟨k,p,tl,h,rfl⟩
   exact ⟨k+1,p,tl,by simpa using h,by rw [show i+1+k=i+(k+1) by omega]⟩
  ·rintro ⟨k,p,tl,h,rfl⟩
   match k with
   | 0=>simp at h
   | k+1=>exact ⟨k,p,tl,by simpa using h,by rw [show i+1+k=i+(k+1) by omega]⟩
 | (q :: ql) :: rows,i,x=>by
  rw [yH,List.mem_cons,YN rows (i+1) x]
  constructor
  ·rintro (rfl | ⟨k,p,tl,h,rfl⟩)
   ·exact ⟨0,q,ql,rfl,rfl⟩
   ·exact ⟨k+1,p,tl,by simpa using h,by rw [show i+1+k=i+(k+1) by omega]⟩
  ·rintro ⟨k,p,tl,h,rfl⟩
   match k with
   | 0=>simp at h;obtain ⟨rfl,rfl⟩:=h;exact .inl rfl
   | k+1=>exact .inr ⟨k,p,tl,by simpa using h,by rw [show i+1+k=i+(k+1) by omega]⟩
theorem Xi:∀(rows:List (List Pr)) (i k:Nat) (p:Pr) (tl:List Pr),k<rows.length->(yH i (rows.set k (p :: tl))).Perm ((((i+k:Nat):Int),-p.s) :: yH i (rows.set k []))
 | [],_,_,_,_,h=>by simp at h
 | r :: rows,i,0,p,tl,_=>by simp [yH]
 | [] :: rows,i,k+1,p,tl,h=>by
  have:=Xi rows (i+1) k p tl (by simpa using h)
  simp only [List.set_cons_succ,yH]
  rwa [show i+1+k=i+(k+1) by omega] at this
 | (q :: ql) :: rows,i,k+1,p,tl,h=>by
  have:=Xi rows (i+1) k p tl (by simpa using h)
  simp only [List.set_cons_succ,yH]
  rw [show i+1+k=i+(k+1) by omega] at this
  exact (this.cons _).trans (.swap _ _ _)
theorem ZhX {rows:List (List Pr)} {k:Nat} {p:Pr} {tl:List Pr} (h:rows[k]?=some (p :: tl)):(yH 0 rows).Perm ((((k:Nat):Int),-p.s) :: yH 0 (rows.set k [])):=by
 obtain ⟨hk,e⟩:=List.getElem?_eq_some_iff.1 h
 have:=Xi rows 0 k p tl hk
 rwa [Nat.zero_add,<-e,List.set_getElem_self] at this
theorem Xj:∀(rows:List (List Pr)) (i:Nat),(yH i rows).length<=rows.length
 | [],_=>by simp [yH]
 | [] :: rows,i=>by have:=Xj rows (i+1);simp only [yH,List.length_cons];omega
 | (q :: ql) :: rows,i=>by have:=Xj rows (i+1);simp only [yH,List.length_cons];omega
structure Rows' (c:List Int) (rows:List (List Pr)):Prop where
 len:rows.length=c.length
 a:∀(i:Nat) r,rows[i]?=some r->∀p∈r,c[i]?=some p.a
theorem ZhY {c:List Int} (hc:c.Pairwise (· < ·)) {rows:List (List Pr)} (hr:Rows' c rows) {x:Int × Int} {r:zI Int} (hs:wg (x :: r)) (hp:(yH 0 rows).Perm (x :: r)) :
  ∃(i:Nat) (y:Pr) (tl:List Pr),x=((i:Int),-y.s)/\rows[i]?=some (y :: tl)/\r.Perm (yH 0 (rows.set i []))/\∀(j:Nat) z tz,rows[j]?=some (z :: tz)->j≠i->xe y z=true:=by
 obtain ⟨i,y,tl,hi,ex⟩:=(YN rows 0 x).1 (hp.symm.subset List.mem_cons_self)
 rw [Nat.zero_add] at ex
 subst ex
 refine ⟨i,y,tl,rfl,hi,(List.Perm.cons_inv ((ZhX hi).symm.trans hp)).symm,fun j z tz hj hne=>?_⟩
 have hz:(((j:Nat):Int),-z.s)∈yH 0 rows:=(YN rows 0 _).2 ⟨j,z,tz,hj,by rw [Nat.zero_add]⟩
 rcases List.mem_cons.1 (hp.subset hz) with e | e
 ·have:(j:Int)=i:=congrArg Prod.fst e
  exact absurd (by omega) hne
 ·have h1:=(List.pairwise_cons.1 hs).1 _ e
  have ay:=hr.a i _ hi y (by simp)
  have az:=hr.a j _ hj z (by simp)
  unfold xc il yL at h1
  simp only at h1
  unfold xe
  by_cases e2:-y.s=-z.s
  ·rw [if_pos e2] at h1
   rw [if_pos (by omega)]
   have hij:i<j:=by simp at h1;omega
   obtain ⟨k1,e3⟩:=List.getElem?_eq_some_iff.1 ay
   obtain ⟨k2,e4⟩:=List.getElem?_eq_some_iff.1 az
   have:=List.pairwise_iff_getElem.1 hc i j k1 k2 hij
   rw [e3,e4] at this
   rw [if_neg (by omega)]
   simpa using this
  ·rw [if_neg e2] at h1
   rw [if_neg (by omega)]
   simp at h1
   simp;omega
open Go Hp
def qi (l:List Pr):List Int:=l.map fun p=>-p.s
def wq (l:List Pr) (i:Int):Pr:=l.getD i.toNat ⟨0,0,0⟩
def xg (x:Inst) (c:List Int) (a:Int):List Pr:=(wh (qi (q9 x c a))).map (wq (q9 x c a))
theorem ZhZ (l:List Int):(wh l).Perm ((List.range l.length).map fun i:Nat=>(i:Int)):=by
 have h:=(ZhK l).map (·.1)
 rw [List.map_map,List.map_map] at h
 exact h
theorem Zh0 (l:List Pr):((wh (qi l)).map (wq l)).Perm l:=by
 refine ((ZhZ _).map _).trans ?_
 have:((List.range (qi l).length).map fun i:Nat=>(i:Int)).map (wq l)=l:=by
  rw [List.map_map]
  apply List.ext_getElem
  ·simp [qi]
  ·intro i h1 h2
   simp [wq,List.getD_eq_getElem?_getD,h2]
 rw [this]
theorem Zh1 {l:List Pr} (h:∀(i j:Nat) p q,i<j->l[i]?=some p->l[j]?=some q->p.a=q.a/\p.b<q.b):Sd xe ((wh (qi l)).map (wq l)):=by
 have hs:=ZhM (qi l)
 unfold wh
 rw [List.map_map]
 unfold wg at hs
 rw [List.pairwise_map] at hs
 unfold Sd
 rw [List.pairwise_map]
 refine List.Pairwise.imp ?_ hs
 intro i j hij
 have hn:(qi l).length=l.length:=by simp [qi]
 have hi:i.val<l.length:=by have:=i.isLt;omega
 have hj:j.val<l.length:=by have:=j.isLt;omega
 have gi:l[i.val]?=some l[i.val]:=List.getElem?_eq_getElem hi
 have gj:l[j.val]?=some l[j.val]:=List.getElem?_eq_getElem hj
 have wi:(qi l).getD i.val 0=-(l[i.val]).s:=by simp [qi,List.getD_eq_getElem?_getD,hi]
 have wj:(qi l).getD j.val 0=-(l[j.val]).s:=by simp [qi,List.getD_eq_getElem?_getD,hj]
 have pi:wq l (i.val:Int)=l[i.val]:=by simp [wq,List.getD_eq_getElem?_getD,hi]
 have pj:wq l (j.val:Int)=l[j.val]:=by simp [wq,List.getD_eq_getElem?_getD,hj]
 simp only [Function.comp,pi,pj]
 unfold xc il xS yL at hij
 rw [wi,wj] at hij
 simp only at hij
 generalize l[i.val]=p at *
 generalize l[j.val]=q at *
 unfold xe
 by_cases e:-p.s=-q.s
 ·rw [if_pos e] at hij
  have hlt:i.val<j.val:=by simp at hij;omega
  obtain ⟨h1,h2⟩:=h i.val j.val p q hlt gi gj
  rw [if_pos (by omega),if_pos h1]
  simpa using h2
 ·rw [if_neg e] at hij
  rw [if_neg (by omega)]
  simp at hij
  simp;omega
theorem Zh2 {x:Inst} {c:List Int} (hc:c.Pairwise (· < ·)) (a:Int):∀(i j:Nat) p q,i<j->(q9 x c a)[i]?=some p->(q9 x c a)[j]?=some q->p.a=q.a/\p.b<q.b:=by
 have h:(q9 x c a).Pairwise fun p q=>p.a=q.a/\p.b<q.b:=by
  unfold q9
  rw [List.pairwise_map]
  exact List.Pairwise.imp (fun h=>⟨rfl,h⟩) (List.Pairwise.filter _ hc)
 intro i j p q hij hp hq
 obtain ⟨h1,rfl⟩:=List.getElem?_eq_some_iff.1 hp
 obtain ⟨h2,rfl⟩:=List.getElem?_eq_some_iff.1 hq
 exact List.pairwise_iff_getElem.1 h i j h1 h2 hij
theorem Vb (x:Inst) (c:List Int) (a:Int):(xg x c a).Perm (q9 x c a):=Zh0 _
theorem Zh3 {x:Inst} {c:List Int} (hc:c.Pairwise (· < ·)) (a:Int):Sd xe (xg x c a):=Zh1 (Zh2 hc a)
theorem Zh4 {x:Inst} {c:List Int} (hc:c.Pairwise (· < ·)):Rows' c (c.map (xg x c))/\(∀r∈c.map (xg x c),Sd xe r)/\(c.map (xg x c)).flatten.Perm (qv x c):=by
 refine ⟨⟨by simp,fun i r hr p hp=>?_⟩,fun r hr=>?_,?_⟩
 ·rw [List.getElem?_map] at hr
  obtain ⟨a,ha,rfl⟩:=Option.map_eq_some_iff.1 hr
  have:=(Vb x c a).subset hp
  unfold q9 at this
  obtain ⟨b,_,rfl⟩:=List.mem_map.1 this
  exact ha
 ·obtain ⟨a,_,rfl⟩:=List.mem_map.1 hr
  exact Zh3 hc a
 ·refine List.Perm.trans ?_ (Z5 x c).symm
  unfold wZ
  rw [<-List.flatMap_def]
  have main:∀l:List Int,(l.flatMap (xg x c)).Perm (l.flatMap (q9 x c)):=by
   intro l
   induction l with
   | nil=>exact .refl _
   | cons a l ih=>simp only [List.flatMap_cons];exact (Vb x c a).append ih
  exact main c
theorem Zh5 {x:Inst} {c:List Int} (hc:c.Pairwise (· < ·)) {rows:List (List Pr)} {k:Nat} (h1:Rows' c rows) (h2:∀r∈rows,Sd xe r) (h3:rows.flatten.Perm ((qv x c).drop k)) {it:Int × Int} {r:zI Int} (hs:wg (it :: r)) (hp:(yH 0 rows).Perm (it :: r)) :
  ∃(i:Nat) (y:Pr) (tl:List Pr),it=((i:Int),-y.s)/\rows[i]?=some (y :: tl)/\r.Perm (yH 0 (rows.set i []))/\(qv x c)[k]?=some y/\Rows' c (rows.set i tl)/\(∀r∈rows.set i tl,Sd xe r)/\(rows.set i tl).flatten.Perm ((qv x c).drop (k+1)):=by
 have hn:c.Nodup:=List.Pairwise.imp (fun h e=>by omega) hc
 obtain ⟨i,y,tl,e1,e2,e3,e4⟩:=ZhY hc h1 hs hp
 obtain ⟨m1,m2,m3⟩:=ZhP W8 (Va hn) h2 h3 e2 e4
 refine ⟨i,y,tl,e1,e2,e3,m1,⟨by rw [List.length_set];exact h1.len,fun j r hr p hpr=>?_⟩,m3,m2⟩
 rw [List.getElem?_set] at hr
 split at hr
 ·rename_i e
  subst e
  split at hr
  ·cases hr
   exact h1.a i _ e2 p (List.mem_cons_of_mem _ hpr)
  ·cases hr
 ·exact h1.a j r hr p hpr
open Go Hp
instance:Inhabited Pr:=⟨⟨0,0,0⟩⟩
instance:Enc Pr:=⟨fun p=>[I p.a,I p.b,I p.s],3,fun _=>rfl,fun _=>rfl⟩
@[simp] theorem ZqL (p:Pr):Enc.enc p=[I p.a,I p.b,I p.s]:=rfl
@[simp high] theorem ZqM (l:List Pr):(l.flatMap Enc.enc).length=l.length*3:=j8 l
@[simp high] theorem ZqN (l:List Pr):(l.flatMap Enc.enc).take (l.length*3)=l.flatMap Enc.enc:=uM l
def jh (x:Inst):Prop:=∀a b,0<=arc x a b/\arc x a b<=2147483648
theorem Vc {x:Inst} (h:jh x) (a b:Int):-2147483648<=jS x a b/\jS x a b<=4294967296:=by
 have h1:=h (a+1) 0
 have h2:=h 0 (b+1)
 have h3:=h (a+1) (b+1)
 unfold jS
 omega
theorem Zh6 (x:Inst) (a b:Int) (hx:jh x) (ha:small a) (hb:small b):Pure Tryz.prog 272 [.agg (zv x),I a,I b] (I (jS x a b)):=by
 have w1:=vu ha
 have w2:=vu hb
 have h1:=hx (a+1) 0
 have h2:=hx 0 (b+1)
 have h3:=hx (a+1) (b+1)
 have w3:IntKind.i64.wrap (arc x (a+1) 0+arc x 0 (b+1))=arc x (a+1) 0+arc x 0 (b+1):=wr _ (by omega) (by omega)
 have w4:IntKind.i64.wrap (arc x (a+1) 0+arc x 0 (b+1)-arc x (a+1) (b+1))=jS x a b:=wr _ (by omega) (by omega)
 refine zz Tryz.func272 Tryz.ntmps272 Tryz.results272 fun S nx hd=>?_
 refine za (zb ?_)
 intro v0
 refine za (zF none (Row.pures [0,1,2,3,4,5,6,7,8,9,10,11,12,13,14,15,16] .done) mixed (zP w1 w2 w3 w4) ?_)
 refine zN (wI _ _ _) (zP w1 w2 w3 w4) ?_
 refine zN (wI _ _ _) (zP w1 w2 w3 w4) ?_
 refine zN (wI _ _ _) (zP w1 w2 w3 w4) ?_
 exact zg (zk hd rfl rfl)
open Go
theorem Zct {vs:Array Value} (h:2=vs.size):∃u v,vs=#[u,v]:=by
 match vs,h with
 | ⟨[u,v]⟩,_=>exact ⟨u,v,rfl⟩
theorem Zh7 {C:Ctx} {S:Store} {w:World} {v:Value} (h:Rel C S w (.sc (.slice none 0 0)) v):v=.slice none 0 0:=by cases h;rfl
theorem Zh8 (n:Nat) (h0:0<n) (hn:n<=1048576) (S:Store) (nx:Nat) (hd:zQ nx S) :
  Spec Tryz.prog 277 [.sc (.slice none 0 0),I n] S (fun p S'=>∃v,p=.sl nx v 2 0 0/\S'=S.set nx (.cells v 35 [])):=by
 refine ⟨qn Tryz.func277 (by rfl) rfl,?_⟩
 intro C w vs hS hl hr
 obtain ⟨u,v,rfl⟩:=Zct hl
 obtain rfl:=Zh7 (hr 0 _ u rfl rfl)
 obtain rfl:=Z1 (hr 1 _ v rfl rfl)
 obtain ⟨i0,hi0⟩:=Option.isSome_iff_exists.1 WG
 have hz:=z35
 have hc:=WF
 have hb:=b35
 simp only [Program.zeroOf,Program.cellsOf,Program.bytesOf',hi0,Option.bind_some,Option.map_some,Option.getD_some,Option.some.injEq] at hz hc hb
 refine (Tryz.slices_Grow_stop i0 _ hi0 hz (by omega) n w h0 (by rw [hb];omega) (by omega)).mono ?_
 rintro e w' ⟨rfl,rfl⟩
 have hfr:Fresh C S nx C.clock:=.clock C (hd nx (Nat.le_refl _))
 obtain ⟨d1,d2⟩:=hS.drew
 obtain ⟨t1,t2⟩:=d1.object' hfr 35 ((#[]:Array Value)++Builtin.zeroCells (Value.agg #[.int .i64 0,.int .i64 0]).cells (0+n-0)++Builtin.zeroCells (Value.agg #[.int .i64 0,.int .i64 0]).cells (grownCap w (0+n) 0 35-(0+n))) [] (by simp) (fun i v hi=>by simp at hi) (fun i p v hp=>by simp at hp)
 have hge:=grownCap_ge w (0+n) 0 35
 simp only [Nat.zero_add] at hge
 refine ⟨_,_,_,_,rfl,⟨C.clock,rfl,rfl⟩,Qx C S w _ _ _ _ _ _ _ _ rfl (Nat.zero_le _) (Nat.zero_le _) (grownCap_le_maxLen w _ _ _ (by unfold maxLen;omega)) ?_,t1,d2.trans t2⟩
 simp only [Array.size_append,size_zeroCells]
 simp [Value.cells]
 omega
theorem Zh9 (ls:List (List Stop)) (hls:ls.length<=1048576) (h0:0<ls.flatten.length) (hn:ls.flatten.length<=1048576):Pure Tryz.prog 265 [L ls] (L ls.flatten):=by
 refine zz Tryz.func265 Tryz.ntmps265 Tryz.results265 fun S nx hd=>?_
 refine za (zb ?_)
 refine za (zb ?_)
 repeat apply za
 refine zb ?_
 refine zi (zB (fun s:Nat × Nat=>s.1<=ls.length/\s.2=(ls.take s.1).flatten.length) (fun (k,n)=>[(0,L ls),(3,I (n:Int)),(9,L ls),(10,I ls.length),(11,I k)]) (fun _=>[]) (fun s=>ls.length-s.1) (0,0) [] ⟨by simp,by simp⟩ (by simp) (by simp) ?_)
 rintro ⟨k,n⟩ ⟨hk,ho⟩
 simp only at hk ho ⊢
 refine za (zb ?_)
 refine za (zr rfl (fun hc=>?_) (fun hc=>?_))
 ·simp at hc
  obtain ⟨t,tl,a1,a2,a3,e0⟩:=zC rfl ls k hc
  have hs1:(ls.take (k+1)).flatten.length=n+t.length:=by rw [a3,ho];simp
  have hs2:(ls.take (k+1)).flatten.length<=ls.flatten.length:=by
   conv=>rhs;rw [<-List.take_append_drop (k+1) ls,List.flatten_append,List.length_append]
   omega
  have w1:IntKind.i64.wrap ((n:Int)+(t.length:Nat))=(n:Int)+(t.length:Nat):=wr _ (by omega) (by omega)
  have w2:¬((n:Int)+(t.length:Nat)<0):=by omega
  refine zh (za (zi (za (ze [] (zn e0 hc) ?_))))
  refine za (ze [] w1 ?_)
  refine za (ze [] w2 ?_)
  refine zo rfl (zh (zb ?_))
  exact zq (k+1,n+t.length) [] ⟨hc,hs1.symm⟩ (by simp;omega) (by simp [zt k (by omega)]) rfl (by simp)
 ·simp at hc
  obtain rfl:k=ls.length:=by omega
  rw [List.take_length] at ho
  rw [<-ho] at h0
  have hn':n<=1048576:=by omega
  clear ho
  refine zu (za (z8 [] (by rfl) (by rfl) fun K Gc Gh hK hGc hGh X hX0 hX=>?_))
  simp -implicitDefEqProofs [hX0,hX]
  try clear hX0 hX X
  refine hGc _ _ _ _ _ _ _ fun hsuf=>((Zh8 n h0 hn' _ _ qN).mono ?_).v
  rintro _ _ ⟨v1,rfl,rfl⟩
  refine ⟨_,_,jl _,?_⟩
  clear hGc hGh
  clear Gc Gh
  refine zW hsuf (D:=[]) (by rfl) fun Gc Gh hGc hGh X hX0 hX=>?_
  simp -implicitDefEqProofs [hX0,hX]
  clear hX0 hX X
  refine hK _ _ _ ?_
  clear hK hGc hGh
  clear K Gc Gh
  repeat apply za
  refine zb ?_
  refine zi (zB (fun s:Nat × List Stop × Nat=>s.1<=ls.length/\s.2.1=(ls.take s.1).flatten) (fun (k,out,v)=>[(6,.sl nx v 2 0 out.length),(25,L ls),(26,I ls.length),(27,I k)]) (fun (k,out,v)=>[.cells v 35 (out.flatMap Enc.enc)]) (fun s=>ls.length-s.1) (0,[],v1) [] ⟨by simp,by simp⟩ (by simp) (by simp) ?_)
  rintro ⟨k,out,v⟩ ⟨hk,ho⟩
  simp only at hk ho ⊢
  refine za (zb ?_)
  refine za (zr rfl (fun hc=>?_) (fun hc=>?_))
  ·simp at hc
   obtain ⟨t,tl,a1,a2,a3,e0⟩:=zC rfl ls k hc
   have hs1:(ls.take (k+1)).flatten=out++t:=by rw [a3,ho];simp
   have hs2:(ls.take (k+1)).flatten.length<=ls.flatten.length:=by
    conv=>rhs;rw [<-List.take_append_drop (k+1) ls,List.flatten_append,List.length_append]
    omega
   rw [hs1] at hs2
   simp only [List.length_append] at hs2
   refine zh (za (zi (za (ze [] (zn e0 hc) ?_))))
   refine zb ?_
   refine ⟨by omega,?_⟩
   refine zb ?_
   exact zq (k+1,out++t,v+1) [] ⟨hc,hs1.symm⟩ (by simp;omega) (by simp [zt k (by omega)]) rfl (by simp)
  ·simp at hc
   obtain rfl:k=ls.length:=by omega
   rw [List.take_length] at ho
   refine zu (zX 0 rfl ?_)
   refine za (zb ?_)
   exact zg (zk hd (by simp;rfl) (by simp [zp,ho]))
open Go Hp
def w8 (T:zj) (c:Int):Nat:=T.findIdx fun t=>t.any fun s=>decide (s.c=c)
def uR (a:zG):Option Int:=a[a.length-1]?.map (·.c)
def Zl (b:zG):Option Int:=b[0]?.map (·.c)
def yV (x:Inst) (num:Int) (p:Pr) (i k:Nat) (a b:zG):Bool :=
 decide (i≠k) && decide (uR a=some p.a) && decide (Zl b=some p.b) && !(decide (p.s<=0) && decide (num<=x.veh)) && decide (zK x (a++b)=0)
def YO (x:Inst) (st:zj × Int) (p:Pr) (i k:Nat):zj × Int :=
 bif yV x st.2 p i k (st.1.getD i []) (st.1.getD k []) then ((st.1.set i (st.1.getD i []++st.1.getD k [])).set k [],st.2-1) else st
def qq (x:Inst) (st:zj × Int) (p:Pr):zj × Int:=YO x st p (w8 st.1 p.a) (w8 st.1 p.b)
def Vd (x:Inst) (ss:List Stop):zj × Int:=(qv x (ss.map (·.c))).foldl (qq x) (ss.map fun s=>[s],(ss.length:Int))
def xD (x:Inst) (ss:List Stop):zj:=(Vd x ss).1.filter fun t=>!t.isEmpty
structure JI (ss:List Stop) (T:zj) (g:Int->Option Int):Prop where
 len:T.length=ss.length
 perm:T.flatten.Perm ss
 g:∀(i:Nat) t s,T[i]?=some t->s∈t->g s.c=some (i:Int)
theorem JI.place {ss:List Stop} {T:zj} {g:Int->Option Int} (h:JI ss T g) {i:Nat} {t:zG} {s:Stop} (hi:T[i]?=some t) (hs:s∈t):w8 T s.c=i:=by
 have hex:∃t∈T,(t.any fun s'=>decide (s'.c=s.c))=true:=⟨t,List.mem_of_getElem? hi,List.any_eq_true.2 ⟨s,hs,by simp⟩⟩
 have hlt:w8 T s.c<T.length:=List.findIdx_lt_length_of_exists hex
 have hq:=List.findIdx_getElem (w:=hlt)
 obtain ⟨s',h1,h2⟩:=List.any_eq_true.1 hq
 have h2':s'.c=s.c:=by simpa using h2
 have e1:=h.g (w8 T s.c) _ s' (List.getElem?_eq_getElem hlt) h1
 have e2:=h.g i t s hi hs
 rw [h2',e2] at e1
 have:=Option.some.inj e1
 omega
theorem JI.there {ss:List Stop} {T:zj} {g:Int->Option Int} (h:JI ss T g) {c:Int} (hc:c∈ss.map (·.c)):∃(i:Nat) (t:zG) (s:Stop),T[i]?=some t/\s∈t/\s.c=c/\g c=some (i:Int)/\w8 T c=i:=by
 obtain ⟨s,hs,rfl⟩:=List.mem_map.1 hc
 obtain ⟨t,ht,hst⟩:=List.mem_flatten.1 (h.perm.symm.subset hs)
 obtain ⟨i,hi⟩:=List.mem_iff_getElem?.1 ht
 exact ⟨i,t,s,hi,hst,rfl,h.g i t s hi hst,h.place hi hst⟩
theorem QV {T:zj}:∀{i:Nat} {a:zG},T[i]?=some a->T.flatten.Perm (a++(T.set i []).flatten):=by
 induction T with
 | nil=>intro i a h;simp at h
 | cons t T ih =>
  intro i a h
  cases i with
  | zero=>simp at h;subst h;simp
  | succ i =>
   simp only [List.getElem?_cons_succ] at h
   simp only [List.flatten_cons,List.set_cons_succ]
   refine ((ih h).append_left t).trans ?_
   rw [<-List.append_assoc,<-List.append_assoc]
   exact List.perm_append_comm.append_right _
theorem Zia {T:zj} {i:Nat} (b:zG) (h:i<T.length):(T.set i b).flatten.Perm (b++(T.set i []).flatten):=by
 have:=QV (T:=T.set i b) (i:=i) (a:=b) (by simp [h])
 rwa [List.set_set] at this
theorem Zib {T:zj} {i k:Nat} {a b:zG} (hi:T[i]?=some a) (hk:T[k]?=some b) (hne:i≠k):((T.set i (a++b)).set k []).flatten.Perm T.flatten:=by
 have hil:=(List.getElem?_eq_some_iff.1 hi).1
 rw [List.set_comm _ _ hne]
 have h1:=Zia (T:=T.set k []) (i:=i) (a++b) (by simpa using hil)
 have h2:=QV hk
 have h3:=QV (T:=T.set k []) (i:=i) (a:=a) (by rw [List.getElem?_set_ne (fun e=>hne e.symm)];exact hi)
 refine h1.trans (List.Perm.symm ?_)
 refine h2.trans ((h3.append_left b).trans ?_)
 rw [<-List.append_assoc]
 exact List.perm_append_comm.append_right _
def Zm (g:Int->Option Int) (b:zG) (i:Nat) (j:Nat):Int->Option Int:=fun c=>if c∈(b.take j).map (·.c) then some (i:Int) else g c
theorem Zic (g:Int->Option Int) (b:zG) (i:Nat):Zm g b i 0=g:=by funext c;simp [Zm]
theorem Zid {g:Int->Option Int} {b:zG} {i j:Nat} {s:Stop} (h:b.take (j+1)=b.take j++[s]):qp (Zm g b i j) s.c (some (i:Int))=Zm g b i (j+1):=by
 funext c
 simp only [qp,Zm,h,List.map_append,List.mem_append,List.map_cons,List.map_nil,List.mem_singleton]
 by_cases e:c=s.c
 ·simp [e]
 ·simp [e]
theorem JI.join {ss:List Stop} {T:zj} {g:Int->Option Int} (h:JI ss T g) {i k:Nat} {a b:zG} (hi:T[i]?=some a) (hk:T[k]?=some b) (hne:i≠k):JI ss ((T.set i (a++b)).set k []) (Zm g b i b.length):=by
 have hil:=(List.getElem?_eq_some_iff.1 hi).1
 have hkl:=(List.getElem?_eq_some_iff.1 hk).1
 refine ⟨by simp [h.len],(Zib hi hk hne).trans h.perm,fun i' t s ht hs=>?_⟩
 unfold Zm
 rw [List.take_length]
 by_cases e1:k=i'
 ·subst e1
  rw [List.getElem?_set_self (by simpa using hkl)] at ht
  cases ht;cases hs
 ·rw [List.getElem?_set_ne e1] at ht
  by_cases e2:i=i'
  ·subst e2
   rw [List.getElem?_set_self hil] at ht
   cases ht
   by_cases e3:s.c∈b.map (·.c)
   ·rw [if_pos e3]
   ·rw [if_neg e3]
    rcases List.mem_append.1 hs with hs | hs
    ·exact h.g i a s hi hs
    ·exact absurd (List.mem_map.2 ⟨s,hs,rfl⟩) e3
  ·rw [List.getElem?_set_ne e2] at ht
   have h1:=h.g i' t s ht hs
   rw [if_neg]
   ·exact h1
   ·intro e3
    obtain ⟨s',hs',e4⟩:=List.mem_map.1 e3
    have h2:=h.g k b s' hk hs'
    rw [e4,h1] at h2
    have:=Option.some.inj h2
    exact e1 (by omega)
theorem JI.nil:JI [] [] (fun _=>none):=⟨rfl,.refl _,fun i t s h=>by simp at h⟩
theorem JI.snoc {ss:List Stop} {T:zj} {g:Int->Option Int} (h:JI ss T g) (s:Stop) (hs:s.c ∉ ss.map (·.c)):JI (ss++[s]) (T++[[s]]) (qp g s.c (some (ss.length:Int))):=by
 refine ⟨by simp [h.len],by simpa using h.perm.append_right [s],fun i t s' ht hst=>?_⟩
 unfold qp
 rcases Nat.lt_or_ge i T.length with hl | hl
 ·rw [List.getElem?_append_left hl] at ht
  have h1:s'∈ss:=h.perm.subset (List.mem_flatten.2 ⟨t,List.mem_of_getElem? ht,hst⟩)
  rw [if_neg]
  ·exact h.g i t s' ht hst
  ·intro e;exact hs (e ▸ List.mem_map.2 ⟨s',h1,rfl⟩)
 ·rw [List.getElem?_append_right hl] at ht
  have hi:i-T.length=0:=by
   have:=(List.getElem?_eq_some_iff.1 ht).1
   simp at this;omega
  rw [hi] at ht
  simp at ht
  subst ht
  simp at hst
  subst hst
  rw [if_pos rfl,<-h.len]
  congr 1
  have:i=T.length:=by omega
  rw [this]
open Go Hp
theorem Xk {P:Program} {r:Rd} {n N:Nat} {Q:Exit->(Nat->PV)->Store->Prop} {F:Nat->PV} {c:Code} {T:Store} {o ver e0:Nat} {cs:List PV} (i:Nat) (hs:T o=.cells ver e0 cs) (hi:cs[i]?=some (.sc (.slice none 0 0)))
  (h:PW P r n N c Q F (T.set o (.cells ver e0 (cs.set i (.lst 0 []))))):PW P r n N c Q F T:=by
 refine vq (F':=F) (S':=T.set o (.cells ver e0 (cs.set i (.lst 0 [])))) (fun C w a st=>?_) h
 have:=st.sim.relabel (cs':=cs.set i (.lst 0 [])) hs (by simp) (by
  intro k p' hp'
  rw [List.getElem?_set] at hp'
  split at hp'
  ·rename_i hij
   subst hij
   split at hp'
   ·cases hp'
    refine .inr ⟨_,hi,fun v hv=>?_⟩
    cases hv
    exact .lst0
   ·cases hp'
  ·exact .inl hp')
 exact ⟨C,⟨this.1,st.size,fun k=>(st.fr k).mono this.2,r.keep this.2 st.v⟩,this.2⟩
abbrev YP (x:Inst) (tid tv n:Nat) (num:Int) (mid mv:Nat):List PV:=[I x.days,I x.veh,I x.cap,I x.len,L x.cust,L x.dist,.sl tid tv 1 0 n,I num,.mp mid mv]
theorem Ve (cs:List PV) (k:Nat) (x:PV) (h:k<cs.length):yb cs k [x]=cs.set k x:=by
 rw [yb,List.set_eq_take_append_cons_drop,if_pos h];simp
theorem Zcu (T:zj):T.flatMap Enc.enc=T.map fun t=>L t:=by induction T<;>simp_all
theorem qB {S:Store} {nx id:Nat} {o:Ob} (hd:zQ nx S) (h:S id=o) (hne:o≠.dead):id<nx:=by
 rcases Nat.lt_or_ge id nx with q | q
 ·exact q
 ·rw [hd id q] at h;exact absurd h.symm hne
theorem Zie (x:Inst) (ss:List Stop) (T:zj) (g:Int->Option Int) (num:Int) (es:List (Value × PV)) {S:Store} {jid jv tid tv mid mv:Nat} (hx:x.cust.length<=1048576) (hss:ss.length<=1000) (hnum:-1048576<=num/\num<=1048576) (hI:JI ss T g) (hm:MapIs qh I es g)
  (hj:S jid=.cells jv 288 (YP x tid tv ss.length num mid mv)) (ht:S tid=.cells tv 31 (T.flatMap Enc.enc)) (hmid:S mid=.map mv es) (d1:jid≠tid) (d2:jid≠mid) (d3:tid≠mid)
  (p:Pr) (hpa:p.a∈ss.map (·.c)) (hpb:p.b∈ss.map (·.c)) :
  Spec Tryz.prog 242 [.ptr jid jv 0,.agg [I p.a,I p.b,I p.s]] S (fun _ S'=>∃es' g',MapIs qh I es' g'/\JI ss (qq x (T,num) p).1 g' /\
   S'=((S.set jid (.cells jv 288 (YP x tid tv ss.length (qq x (T,num) p).2 mid mv))).set tid (.cells tv 31 ((qq x (T,num) p).1.flatMap Enc.enc))).set mid (.map mv es')):=by
 obtain ⟨i,a,sa,hia,hsa,hsac,hga,hpi⟩:=hI.there hpa
 obtain ⟨k,b,sb,hkb,hsb,hsbc,hgb,hpk⟩:=hI.there hpb
 have hkey:KeyOk (.int .i64) qh:=Z2 .i64
 obtain ⟨ra,fa1,fa2,fa3,fa4,fa5⟩:=hm.find hkey p.a
 obtain ⟨rb,fb1,fb2,fb3,fb4,fb5⟩:=hm.find hkey p.b
 obtain ⟨ja,rfl⟩:=fa3 _ hga
 obtain ⟨jb,rfl⟩:=fb3 _ hgb
 refine qO Tryz.func242 Tryz.ntmps242 Tryz.results242 fun nx hd=>?_
 have hlj:jid<nx:=qB hd hj (by simp)
 have hlt:tid<nx:=qB hd ht (by simp)
 have hlm:mid<nx:=qB hd hmid (by simp)
 have xj:=fun obs=>zH (S:=S) (obs:=obs) hlj
 have xt:=fun obs=>zH (S:=S) (obs:=obs) hlt
 have xm:=fun obs=>zH (S:=S) (obs:=obs) hlm
 refine za (zb ?_)
 intro v0
 have hil:=(List.getElem?_eq_some_iff.1 hia).1
 have hkl:=(List.getElem?_eq_some_iff.1 hkb).1
 have hgi:T.getD i []=a:=by rw [List.getD_eq_getElem?_getD,hia];rfl
 have hgk:T.getD k []=b:=by rw [List.getD_eq_getElem?_getD,hkb];rfl
 have hdef:qq x (T,num) p=bif yV x num p i k a b then ((T.set i (a++b)).set k [],num-1) else (T,num):=by
  unfold qq YO
  simp only [hpi,hpk,hgi,hgk]
 have hstay:yV x num p i k a b=false->∃es' g',MapIs qh I es' g'/\JI ss (qq x (T,num) p).1 g' /\
   S=((S.set jid (.cells jv 288 (YP x tid tv ss.length (qq x (T,num) p).2 mid mv))).set tid (.cells tv 31 ((qq x (T,num) p).1.flatMap Enc.enc))).set mid (.map mv es'):=by
  intro hc
  rw [hdef,hc]
  refine ⟨es,g,hm,hI,?_⟩
  simp only [cond_false]
  rw [YJ S jid _ hj,YJ S tid _ ht,YJ S mid _ hmid]
 have hal2:a.length<=1000:=by
  have h1:=(QV hia).length_eq
  have h2:=hI.perm.length_eq
  rw [List.length_append] at h1
  omega
 have hbl2:b.length<=1000:=by
  have h1:=(QV hkb).length_eq
  have h2:=hI.perm.length_eq
  rw [List.length_append] at h1
  omega
 obtain ⟨m,hal⟩:∃m,a.length=m+1:=⟨a.length-1,by cases a with | nil=>cases hsa | cons _ _=>simp⟩
 have hb0:0<b.length:=by cases b with | nil=>cases hsb | cons _ _=>simp
 obtain ⟨la,tla,la1,la2,la3,la4,la5⟩:=el 2 rfl a m (by omega)
 obtain ⟨fb,b',hbc⟩:∃fb b',b=fb :: b':=by cases b with | nil=>cases hsb | cons x y=>exact ⟨x,y,rfl⟩
 have hend:uR a=some la.c:=by unfold uR;rw [hal,Nat.add_sub_cancel,la1];rfl
 have hhead:Zl b=some fb.c:=by rw [hbc];rfl
 obtain ⟨ai,tai,i1,i2,i3,i0⟩:=zC rfl T i hil
 rw [hia] at i1;cases i1
 obtain ⟨bk,tbk,k1,k2,k3,k0⟩:=zC rfl T k hkl
 rw [hkb] at k1;cases k1
 have hTl:=hI.len
 have hil2:i<ss.length:=by omega
 have hkl2:k<ss.length:=by omega
 refine za (yk (nx:=nx) (σ:=Unit) (fun _=>True) (fun _=>[(0,.ptr jid jv 0),(3,.ptr nx v0 0),(4,I i),(5,I k)]) (fun _=>S) (fun _=>[.cells v0 175 [I p.a,I p.b,I p.s]]) ?_ ?_)
 ·repeat apply za
  refine wG none (Row.pures [0,1,2,3,4,5,7,8,9,10,11,12] (.alt 6 (Row.pures [14] (.alt 13 (Row.pures [15] .done) .stop)) (.alt 13 (.alt 6 (Row.pures [14,15] .done) .stop) .stop))) mixed (by rfl) (by rfl) (by rfl) fun K Gp Gc Gh hK hGp hGc hGh X hX0 hX1 hX2 hX=>?_
  simp -implicitDefEqProofs [hX0,hX1,hX2,hX,xj,xt,xm,hj,ht,hmid]
  try clear hX0 hX1 hX2 hX X
  refine ⟨?_,?_⟩
  ·refine hGh _ _ _ _ _ (by rfl) (Yw rfl Tryz.underlying286 Tryz.underlying3 rfl rfl rfl ((xm _).trans hmid) fa1 z3 ?_)
   refine ⟨by simp [yB],?_⟩
   clear hGp hGc hGh
   clear Gp Gc Gh
   refine jm fun Gp Gc Gh hGp hGc hGh X hX0 hX1 hX2 hX=>?_
   simp -implicitDefEqProofs [hX0,hX1,hX2,hX]
   try clear hX0 hX1 hX2 hX X
   refine hGh _ _ _ _ _ (by rfl) (Yw rfl Tryz.underlying286 Tryz.underlying3 rfl rfl rfl ((xm _).trans hmid) fb1 z3 ?_)
   refine ⟨by simp [yB],?_⟩
   clear hGp hGc hGh
   clear Gp Gc Gh
   refine jm fun Gp Gc Gh hGp hGc hGh X hX0 hX1 hX2 hX=>?_
   simp -implicitDefEqProofs [hX0,hX1,hX2,hX]
   try clear hX0 hX1 hX2 hX X
   refine hK _ _ _ ?_
   clear hK hGp hGc hGh
   clear K Gp Gc Gh
   exact zD () [] trivial (by simp [Qz]) rfl (by simp)
  ·refine hGh _ _ _ _ _ (by rfl) (Yw rfl Tryz.underlying286 Tryz.underlying3 rfl rfl rfl ((xm _).trans hmid) fb1 z3 ?_)
   refine ⟨by simp [yB],?_⟩
   clear hGp hGc hGh
   clear Gp Gc Gh
   refine jm fun Gp Gc Gh hGp hGc hGh X hX0 hX1 hX2 hX=>?_
   simp -implicitDefEqProofs [hX0,hX1,hX2,hX]
   try clear hX0 hX1 hX2 hX X
   refine hGh _ _ _ _ _ (by rfl) (Yw rfl Tryz.underlying286 Tryz.underlying3 rfl rfl rfl ((xm _).trans hmid) fa1 z3 ?_)
   refine ⟨by simp [yB],?_⟩
   clear hGp hGc hGh
   clear Gp Gc Gh
   refine jm fun Gp Gc Gh hGp hGc hGh X hX0 hX1 hX2 hX=>?_
   simp -implicitDefEqProofs [hX0,hX1,hX2,hX]
   try clear hX0 hX1 hX2 hX X
   refine hK _ _ _ ?_
   clear hK hGp hGc hGh
   clear K Gp Gc Gh
   exact zD () [] trivial (by simp [Qz]) rfl (by simp)
 intro _ _
 refine za (zF none (Row.pures [0,1,2,3,4,5,6,7,8,9,10,11,12,13,14,15] .done) mixed (zL xj xt hj ht i0 (zP k0 hil2 hkl2 hTl)) ?_)
 have wm:IntKind.i64.wrap (m:Int)=m:=wr _ (by omega) (by omega)
 have hm1:m<a.length:=by omega
 refine za (yk (nx:=nx) (σ:=Unit) (fun _=>¬i=k/\la.c=p.a/\fb.c=p.b) (fun _=>[(0,.ptr jid jv 0),(3,.ptr nx v0 0),(4,I i),(5,I k),(6,L a),(7,L b)]) (fun _=>S) (fun _=>[.cells v0 175 [I p.a,I p.b,I p.s]]) ?_ ?_)
 ·by_cases h1:i=k
  ·have hc:yV x num p i k a b=false:=by simp [yV,h1]
   refine za (zF none (Row.pures [0,1,2,3,4,5,6,7,8,9,10,11,12,13,14,15,16,17,18,19,20,21,22,23] .done) mixed (zn h1 zx) ?_)
   exact zm rfl (zg ⟨_,S,rfl,hstay hc,zU hd⟩)
  have h1':¬(i:Int)=(k:Int):=by omega
  have hm2:(m:Int)<(m:Int)+1:=by omega
  by_cases h2:la.c=p.a
  case neg =>
   have hc:yV x num p i k a b=false:=by simp [yV,hend,h2]
   refine za (zF none (Row.pures [0,1,2,3,4,5,6,7,8,9,10,11,12,13,14,15,16,17,18,19,20,21,22,23] .done) mixed (zL h1' h2 hal wm hm2 (zE la4 la5 zx)) ?_)
   exact zm rfl (zg ⟨_,S,rfl,hstay hc,zU hd⟩)
  by_cases h3:fb.c=p.b
  case neg =>
   have hc:yV x num p i k a b=false:=by simp [yV,hhead,h3]
   refine za (zF none (Row.pures [0,1,2,3,4,5,6,7,8,9,10,11,12,13,14,15,16,17,18,19,20,21,22,23] .done) mixed (zL h1' h2 h3 hal wm (yD hm2 la4 la5 hbc zx)) ?_)
   exact zm rfl (zg ⟨_,S,rfl,hstay hc,zU hd⟩)
  refine za (zF none (Row.pures [0,1,2,3,4,5,6,7,8,9,10,11,12,13,14,15,16,17,18,19,20,21,22,23] .done) mixed (zL h1' h2 h3 hal wm (yD hm2 la4 la5 hbc zx)) ?_)
  exact zo rfl (zh (zD () [] ⟨h1,h2,h3⟩ (by simp [hal,hbc]) rfl (by simp)))
 rintro _ ⟨h1,h2,h3⟩
 have hN0:-9223372036854775808<=num:=by omega
 refine za (yk (nx:=nx) (σ:=Unit) (fun _=>¬(p.s<=0/\num<=x.veh)) (fun _=>[(0,.ptr jid jv 0),(3,.ptr nx v0 0),(4,I i),(5,I k),(6,L a),(7,L b)]) (fun _=>S) (fun _=>[.cells v0 175 [I p.a,I p.b,I p.s]]) ?_ ?_)
 ·by_cases h4:p.s<=0
  ·by_cases h5:num<=x.veh
   ·have hc:yV x num p i k a b=false:=by simp [yV,h4,h5]
    refine za (zF none (Row.pures [0,1,2,3,4,5,6,7,8,9,10,11,12,13,14] .done) mixed (yD xj hj h4 h5 zx) ?_)
    exact zm rfl (zg ⟨_,S,rfl,hstay hc,zU hd⟩)
   ·refine za (zF none (Row.pures [0,1,2,3,4,5,6,7,8,9,10,11,12,13,14] .done) mixed (yD xj hj h4 h5 zx) ?_)
    exact zo rfl (zh (zD () [] (by simp [h5]) (by simp) rfl (by simp)))
  ·refine za (zF none (Row.pures [0,1,2,3,4,5,6,7,8,9,10,11,12,13,14] .done) mixed (zn h4 zx) ?_)
   exact zo rfl (zh (zD () [] (by simp [h4]) (by simp) rfl (by simp)))
 intro _ h4
 have hcon:=Zh9 [a,b] (by simp) (by simp;omega) (by simp;omega)
 rw [show [a,b].flatten=a++b from by simp] at hcon
 refine za (zb ?_)
 refine zA hcon ?_
 refine za (yk (nx:=nx) (σ:=Unit) (fun _=>zK x (a++b)=0) (fun _=>[(0,.ptr jid jv 0),(3,.ptr nx v0 0),(4,I i),(5,I k),(6,L a),(7,L b),(8,L (a++b))]) (fun _=>S) (fun _=>[.cells v0 175 [I p.a,I p.b,I p.s]]) ?_ ?_)
 ·refine za (ze [] (zn xj hj) ?_)
  refine zA (QQ x (a++b) hx (by simp;omega)) ?_
  by_cases h5:zK x (a++b)=0
  ·repeat apply za
   refine zo (by simp [h5]) ?_
   exact zh (zD () [] h5 (by simp) rfl (by simp))
  ·have hc:yV x num p i k a b=false:=by simp [yV,h5]
   refine zm (by simp [h5]) ?_
   exact zg ⟨_,S,rfl,hstay hc,zU hd⟩
 intro _ h5
 have h4':(decide (p.s<=0) && decide (num<=x.veh))=false:=Bool.eq_false_iff.2 fun q=>h4 (by simpa using q)
 have hjoin:yV x num p i k a b=true:=by unfold yV;rw [h4',hend,hhead,h2,h3,h5];simp [h1]
 rw [hdef,hjoin]
 simp only [cond_true]
 have yj:=fun (o:Ob) obs=>(zH (S:=S.set mid o) (obs:=obs) hlj).trans ((Store.set_other _ _ _ _ d2).trans hj)
 have ym:=fun (o:Ob) obs=>(zH (S:=S.set mid o) (obs:=obs) hlm).trans (Store.set_same _ _ _)
 repeat apply za
 refine zb ?_
 refine zi (yP (σ:=Nat × List (Value × PV)) (fun s=>s.1<=b.length/\MapIs qh I s.2 (Zm g b i s.1)) (fun s=>[(0,.ptr jid jv 0),(4,I i),(5,I k),(8,L (a++b)),(90,L b),(91,I b.length),(92,I s.1)]) (fun s=>S.set mid (.map mv s.2)) (fun _=>[.cells v0 175 [I p.a,I p.b,I p.s]]) (fun s=>b.length-s.1) (zD (0,es) [] ⟨by simp,by rw [Zic];exact hm⟩ (by simp) (YJ S mid _ hmid) (by simp)) ?_)
 rintro ⟨j,es2⟩ ⟨hjl,hm2'⟩
 simp only at hjl hm2' ⊢
 refine za (zb ?_)
 refine za (zr rfl (fun hq=>?_) (fun hq=>?_))
 ·simp at hq
  obtain ⟨s,tl,a1,a2,a3,e1,e0⟩:=el 2 rfl b j hq
  obtain ⟨rs,f1,_,_,f4,_⟩:=hm2'.find hkey s.c
  have hnew:=f4 (i:Int)
  rw [Zid a3] at hnew
  refine zh (za (zi (za (ze [] (zE e1 e0 hq) ?_))))
  intro v1
  refine wG (some [jid,nx+1]) (Row.pures [0,1,2,3,4,5,6] (.alt 7 (.done) .stop)) mixed (by rfl) (by rfl) (by rfl) fun K Gp Gc Gh hK hGp hGc hGh X hX0 hX1 hX2 hX=>?_
  simp -implicitDefEqProofs [hX0,hX1,hX2,hX,yj]
  try clear hX0 hX1 hX2 hX X
  refine hGh _ _ _ _ _ (by rfl) (QA (.inl rfl) Tryz.underlying286 Tryz.underlying3 rfl rfl rfl (ym _ _) f1 ?_)
  rw [vr _ hlm,Store.set_set]
  refine ⟨by simp [yB,yj],?_⟩
  clear hGp hGc hGh
  clear Gp Gc Gh
  refine jm fun Gp Gc Gh hGp hGc hGh X hX0 hX1 hX2 hX=>?_
  simp -implicitDefEqProofs [hX0,hX1,hX2,hX]
  try clear hX0 hX1 hX2 hX X
  refine hK _ _ _ ?_
  clear hK hGp hGc hGh
  clear K Gp Gc Gh
  refine zb ?_
  exact zq (j+1,qX (qh s.c) (I i) es2 rs) [_] ⟨hq,hnew⟩ (by simp;omega) (by simp [zt j (by omega)]) rfl (by simp;rfl)
 ·simp at hq
  obtain rfl:j=b.length:=by omega
  refine zu ?_
  have yt1:=fun (o:Ob) obs=>(zH (S:=S.set mid o) (obs:=obs) hlt).trans ((Store.set_other _ _ _ _ d3).trans ht)
  have yt2:=fun (o o':Ob) obs=>(zH (S:=(S.set mid o).set tid o') (obs:=obs) hlt).trans (Store.set_same _ _ _)
  have yj2:=fun (o o':Ob) obs=>(zH (S:=(S.set mid o).set tid o') (obs:=obs) hlj).trans ((Store.set_other _ _ _ _ d1).trans ((Store.set_other _ _ _ _ d2).trans hj))
  have hlen1:(T.flatMap Enc.enc).length=ss.length:=by rw [jg,hTl]
  have hs1:=Ve (T.flatMap Enc.enc) i (L (a++b)) (by omega)
  have hs2:=Ve ((T.flatMap Enc.enc).set i (L (a++b))) k (.sc (.slice none 0 0)) (by simp;omega)
  have hlt1:¬nx<=tid:=by omega
  have hlj1:¬nx<=jid:=by omega
  have wn:IntKind.i64.wrap (num-1)=num-1:=wr _ (by omega) (by omega)
  refine za (zF (some [jid]) (Row.pures [0,1,2,3,4,5,6,7,8,9,10,11] (.alt 12 (Row.pures [13] (.alt 14 (.done) .stop)) .stop)) mixed (zL yj yt1 yt2 yj2 hs1 (zL hs2 hil2 hkl2 hlen1 hlt1 hTl)) ?_)
  refine ⟨by omega,by omega,?_⟩
  have hcs:((((T.flatMap Enc.enc).set i (L (a++b))).set k (.sc (.slice none 0 0))).set k (.lst 0 []))=((T.set i (a++b)).set k []).flatMap Enc.enc:=by
   rw [List.set_set,Zcu,Zcu,List.map_set,List.map_set]
   rfl
  refine Xk (o:=tid) k (yt2 _ _ _) (by rw [List.getElem?_set_self (by simp;omega)]) ?_
  rw [vr _ hlt,Store.set_set,hcs]
  generalize ((T.set i (a++b)).set k []).flatMap Enc.enc=cs' at *
  refine ze [] (zE yj2 hlj1 wn) ?_
  have e1:∀(o o' o'':Ob),((S.set mid o).set tid o').set jid o''=((S.set jid o'').set tid o').set mid o:=by
   intro o o' o''
   rw [Store.set_comm _ jid tid _ _ (fun e=>d1 e.symm),Store.set_comm _ jid mid _ _ (fun e=>d2 e.symm),Store.set_comm _ tid mid _ _ (fun e=>d3 e.symm)]
  rw [e1]
  have hdd:∀(o o' o'':Ob),zQ nx (((S.set jid o'').set tid o').set mid o):=by
   intro o o' o'' q hq
   rw [Store.set_other _ _ _ _ (by omega),Store.set_other _ _ _ _ (by omega),Store.set_other _ _ _ _ (by omega)]
   exact hd q hq
  exact ⟨_,_,rfl,⟨es2,_,hm2',hI.join hia hkb h1,rfl⟩,zU (hdd _ _ _)⟩
open Go Go.Shelf Go.RowKit Go.Lib Go.Sort
def Se:Store:=fun _=>.dead
def Ce:Ctx:=⟨fun _=>none,0,0⟩
theorem Zif (w:World):Sim Ce Se w :=
 ⟨fun _ h=>absurd rfl h,(fun _ _ h=>by cases h),fun _ _ _ _ _ h=>absurd rfl h,(fun _ _ _ _ h=>by cases h),(fun _ _ _ h=>by cases h)⟩
theorem Vf (b:Nat):¬Ce.M Se b:=by rintro ⟨o,k,h,_⟩;exact h rfl
inductive Fz:PV->Prop where
 | junk:Fz .junk
 | sc (v:Value):Fz (.sc v)
 | agg {cs:List PV} (h:∀p∈cs,Fz p):Fz (.agg cs)
 | lst {n:Nat} {cs:List PV} (h:∀p∈cs,Fz p):Fz (.lst n cs)
 | ip {cs:List PV} (h:∀p∈cs,Fz p):Fz (.ip cs)
theorem Zig {C:Ctx} {S:Store} {w:World} {p:PV} {v:Value} (h:Rel C S w p v):Fz p->Rel Ce Se w p v:=by
 induction h with
 | junk v=>intro _;exact .junk v
 | sc v=>intro _;exact .sc v
 | agg hl h1 _ ih=>intro hz;cases hz with | agg hz=>exact .agg hl h1 fun i c v hc hv=>ih i c v hc hv (hz c (List.mem_of_getElem? hc))
 | tup hl _ ih=>intro hz;cases hz
 | lst0=>intro _;exact .lst0
 | lst1 hn hm hb hM hs h1 _ ih=>intro hz;cases hz with | lst hz=>exact .lst1 hn hm hb (Vf _) hs h1 fun i c v hc hv=>ih i c v hc hv (hz c (List.mem_of_getElem? hc))
 | ip hb hM hs h1 _ ih=>intro hz;cases hz with | ip hz=>exact .ip hb (Vf _) hs h1 fun i c v hc hv=>ih i c v hc hv (hz c (List.mem_of_getElem? hc))
 | nl0=>intro hz;cases hz
 | nl _ _ _ _ _ _ _=>intro hz;cases hz
 | ptr _ _ _=>intro hz;cases hz
 | sl _ _ _=>intro hz;cases hz
 | fn _ _ _ _ _ _=>intro hz;cases hz
 | ifc _ _=>intro hz;cases hz
 | mp _ _ _=>intro hz;cases hz
theorem Zih {W w':World} {C':Ctx} {S':Store} (h:Step Ce Se W C' S' w'):∃q os',w'=grow (W.drewN q) os':=by
 obtain ⟨p,hp⟩:=regrown_of_below (w:=W) (w':=w') ⟨h.os,h.tape.1,h.output,h.size,fun b hb=>(h.blocks b hb (Vf b)).1⟩
 have hd:=h.tape.2
 rw [hp] at hd
 refine ⟨p.d-W.drawn,p.os,?_⟩
 rw [hp]
 have hd':W.drawn<=p.d:=hd
 have e:W.drawn+(p.d-W.drawn)=p.d:=by omega
 unfold grow redrawn World.drewN
 rw [e]
section
variable {P:Program} {α:Type} [Inhabited α] {val:α->Int}
theorem Zii {C:Ctx} {S:Store} {w:World} {x:Int} {v:Value} (h:Rel C S w (I x) v):v=.int .i64 x:=by cases h;rfl
abbrev xE (val:α->Int) (x:α):Value:=.int .i64 (val x)
theorem Zij {g:Nat} {caps:List PV} {cf:α->α->Int} (hg:∀x y:α,Pure P g (I (val x) :: I (val y) :: caps) (I (cf x y))) (cb:Array Value) (hl:caps.length=cb.size) {w:World} {blk size:Nat}
  (hr:∀(m:Nat) (os:Array Obj) (dk:Array α),dk.size=size->∀(i:Nat) (c:PV) (v:Value),caps[i]?=some c->cb[i]?=some v->Rel Ce Se (sortWorld (xE val) w blk 0 m dk os) c v):CmpLays1 P g cb (xE val) cf blk 0 size w:=by
 intro m os dk hs x y
 refine ((hg x y Se).2 Ce (sortWorld (xE val) w blk 0 m dk os) (#[xE val x,xE val y]++cb) (Zif _) (by simp;omega) ?_).mono ?_
 ·intro i c v hc hv
  match i with
  | 0=>rw [Array.getElem?_append_left (by simp)] at hv;cases hc;cases hv;exact .sc _
  | 1=>rw [Array.getElem?_append_left (by simp)] at hv;cases hc;cases hv;exact .sc _
  | i+2 =>
   simp only [List.getElem?_cons_succ] at hc
   rw [Array.getElem?_append_right (by simp)] at hv
   exact hr m os dk hs i c v hc (by simpa using hv)
 ·rintro e w' ⟨p,v,S',C',rfl,⟨rfl,rfl⟩,hrel,_,hst⟩
  cases hrel
  exact ⟨rfl,Zih hst⟩
theorem Zcv {C:Ctx} {S:Store} {w:World} (hS:Sim C S w) {id ver e b k:Nat} {cs0:List PV} {c:Array Value} (hid:S id=.cells ver e cs0) (g1:C.loc id=some (b,k)) (g2:w.heap[b]?=some (.cells c e (0,0))) (g3:c.size=k) (dk:Array α) (hdk:dk.size<=k) (q:Nat) (os:Array Obj) :
  Sim (C.at id ver (C.loc id)) (S.set id (.cells ver e (dk.toList.map fun x=>I (val x)))) (sortWorld (xE val) w b 0 q dk os) /\
  Step C S w (C.at id ver (C.loc id)) (S.set id (.cells ver e (dk.toList.map fun x=>I (val x)))) (sortWorld (xE val) w b 0 q dk os):=by
 have hb:b<w.heap.size:=yW g2
 have hh:(sortWorld (xE val) w b 0 q dk os).heap[b]?=some (.cells (putCells (xE val) 0 dk c) e (0,0)):=by
  unfold sortWorld
  rw [heap_grow_old _ _ (by simpa using hb)]
  simp [putRow,mapBlock,Sort.ahead,Array.getElem?_modify,g2,onCells]
 have hgr:w.grownBy (sortWorld (xE val) w b 0 q dk os) (some b):=by
  refine ⟨rfl,rfl,rfl,by simp [sortWorld],fun j hj hne=>?_⟩
  unfold sortWorld
  rw [heap_grow_old _ _ (by simpa using hj)]
  have:b≠j:=fun e=>hne (by rw [e])
  simp [putRow,mapBlock,Sort.ahead,Array.getElem?_modify,this]
 have hcell:∀i,i<dk.size->∀v,(putCells (xE val) 0 dk c)[i]?=some v->v=xE val dk[i]!:=by
  intro i hi v hv
  have hic:i<c.size:=by omega
  simp [putCells,hi,hic] at hv
  rw [<-hv,getElem!_pos dk i hi]
 refine hS.turn (l:=C.loc id) (ver':=ver) (cs':=dk.toList.map fun x=>I (val x)) hid (Nat.le_refl _) (fun _=>rfl) ⟨by rw [g1];exact hgr,Nat.le_add_right _ _⟩
  (.inr ⟨b,k,_,g1,.inr (by rw [g1];rfl),hh,by simp [putCells,g3],by simpa using hdk,fun i v hi hv=>?_,fun i p v hp hv=>?_⟩)
 ·rw [hcell i (by simpa using hi) v hv];rfl
 ·have hi:i<dk.size:=by have:=(List.getElem?_eq_some_iff.1 hp).1;simpa using this
  rw [hcell i hi v hv]
  rw [List.getElem?_map,Array.getElem?_toList,Array.getElem?_eq_getElem hi] at hp
  simp only [Option.map_some,Option.some.injEq] at hp
  rw [<-hp,getElem!_pos dk i hi]
  exact .sc _
theorem Zik {ρ:Ren} (L:SlLaysF.n6 P ρ) (hE:qt P (ρ.f 6)) {S:Store} {id ver:Nat} {f:PV}:Spec P (ρ.f 6) [.sl id ver 1 0 0,f] S (fun p S'=>S'=S):=by
 refine ⟨hE,?_⟩
 intro C w vs hS hl hr
 obtain ⟨v0,v1,rfl⟩:∃v0 v1,vs=#[v0,v1]:=by
  match vs,hl with
  | ⟨[a,b]⟩,_=>exact ⟨a,b,rfl⟩
 have hv0:=hr 0 _ v0 rfl rfl
 cases hv0 with
 | sl h1 h2 h3 =>
  obtain ⟨a,cap,rfl,q1,q2,q3,q4⟩:=h1
  refine (AnyF.slices_SortFunc_none { L with } a cap _ w).mono ?_
  rintro e w' ⟨rfl,rfl⟩
  exact ⟨.junk,_,S,C,rfl,rfl,.junk _,hS,.refl _ _ _⟩
theorem Zil {ρ:Ren} (L:SlLaysF.n6 P ρ) (hE:qt P (ρ.f 6)) {S:Store} {id ver e:Nat} (zs:List α) (hid:S id=.cells ver e (zs.map fun x=>I (val x))) (hn:zs.length<=1048576)
  {g:Nat} (hG:qt P g) {caps:List PV} (hz:∀p∈caps,Fz p) (cf:α->α->Int) (hO:SWO (ltOf cf)) (hT:∀x y,(ltOf cf) x y=false->(ltOf cf) y x=false->x=y)
  (hg:∀x y:α,Pure P g (I (val x) :: I (val y) :: caps) (I (cf x y))) :
  Spec P (ρ.f 6) [.sl id ver 1 0 zs.length,.fn (.func g) [] caps] S (fun p S'=>S'=S.set id (.cells ver e ((zs.mergeSort fun x y=>!(ltOf cf) y x).map fun x=>I (val x)))):=by
 refine ⟨hE,?_⟩
 intro C w vs hS hl hr
 obtain ⟨v0,v1,rfl⟩:∃v0 v1,vs=#[v0,v1]:=by
  match vs,hl with
  | ⟨[a,b]⟩,_=>exact ⟨a,b,rfl⟩
 have hv0:=hr 0 _ v0 rfl rfl
 have hv1:=hr 1 _ v1 rfl rfl
 cases hv1 with
 | @fn _ _ _ fv cv hf hc hh' hcap =>
 obtain rfl:fv=#[]:=by
  have:fv.size=0:=by simpa using hf.symm
  exact Array.eq_empty_of_size_eq_zero this
 cases hv0 with
 | sl h1 h2 h3 =>
  obtain ⟨a,cap,rfl,q1,q2,q3,q4⟩:=h1
  by_cases h0:zs=[]
  ·subst h0
   refine (AnyF.slices_SortFunc_none { L with } a cap _ w).mono ?_
   rintro e w' ⟨rfl,rfl⟩
   refine ⟨.junk,_,S,C,rfl,?_,.junk _,hS,.refl _ _ _⟩
   funext i
   simp only [Store.set,List.mergeSort_nil]
   split
   ·rename_i e;rw [e,hid]
   ·rfl
  ·have hpos:0<zs.length:=List.length_pos_iff.2 h0
   rcases hS.cells id ver _ _ hid with ⟨hn',hnil⟩ | ⟨b,k,c,g1,g2,g3,g4,g5,g6⟩
   ·simp at hnil;exact absurd hnil h0
   ·have ha:a=some ⟨b,0,none⟩:=by
     rcases (h3 ver (by rw [hid];rfl)).2 rfl with ⟨z1,_⟩ | ⟨b',k',a',cap',z1,z2,z3,z4⟩
     ·rw [g1] at z1;cases z1
     ·rw [g1] at z1;cases z1;cases z2;exact (z3 rfl).1
    subst ha
    rw [List.length_map] at g4 g5
    have hcells:∀i (hi:i<zs.length),c[i]?=some (xE val zs[i]):=by
     intro i hi
     have hi':i<c.size:=by omega
     have e1:(zs.map fun x=>I (val x))[i]?=some (I (val zs[i])):=by simp [hi]
     have e2:c[i]?=some c[i]:=by simp
     rw [e2,Zii (g6 i _ _ e1 e2)]
    have hH:Holds (xE val) w b 0 zs.toArray:=by
     intro j hj
     have hj':j<zs.length:=by simpa using hj
     refine ⟨?_,by simp [World.frozen?,g2]⟩
     simp only [World.cell?,g2,Nat.zero_add,Option.isSome_none,Bool.false_eq_true,if_false]
     rw [hcells j hj',getElem!_pos zs.toArray j hj]
     simp
    have hlays:CmpLays1 P g cv (xE val) cf b 0 zs.toArray.size w:=by
     refine Zij hg cv (by simpa using hc) fun m os dk hs i p v hp hv=>?_
     obtain ⟨_,st⟩:=Zcv (val:=val) hS hid g1 g2 g3 dk (by rw [hs];simpa using g4) m os
     exact Zig ((hcap i p v hp hv).mono st) (hz p (List.mem_of_getElem? hp))
    have hk:=Any.slices_SortFunc_total L (xE val) (fun _=>rfl) cf hO g cv b 0 cap zs.toArray w hG hlays hH (yW g2) (by simp;omega) hT
    simp only [List.size_toArray] at hk
    refine hk.mono ?_
    rintro e w' ⟨rfl,m,os,rfl⟩
    obtain ⟨t1,t2⟩:=Zcv (val:=val) hS hid g1 g2 g3 (zs.mergeSort fun x y=>!(ltOf cf) y x).toArray (by simpa using g4) m os
    exact ⟨.junk,_,_,_,rfl,rfl,.junk _,t1,t2⟩
end
open Go
theorem Zcw (x:Int):Pure Tryz.prog 224 [I x] (B false):=by
 refine zz Tryz.func224 Tryz.ntmps224 Tryz.results224 fun S nx hd=>?_
 refine za (zb ?_)
 refine za (zb ?_)
 exact zg (zk hd (by simp;rfl) rfl)
theorem Zcx (x y:Int):Pure Tryz.prog 282 [I x,I y] (I (wJ x y)):=by
 refine zz Tryz.func282 Tryz.ntmps282 Tryz.results282 fun S nx hd=>?_
 refine za (zb ?_)
 refine za (zb ?_)
 refine zA (Zcw x) ?_
 refine za (zb ?_)
 refine zA (Zcw y) ?_
 repeat apply za
 refine zb ?_
 refine zo (by simp) ?_
 refine zh ?_
 repeat apply za
 refine zb ?_
 refine zo (by simp) ?_
 refine zh ?_
 by_cases h1:x<y
 ·repeat apply za
  refine ze [] h1 ?_
  refine zm (by simp [h1]) ?_
  refine za (zb ?_)
  exact zg (zk hd (by simp;rfl) (by simp [wJ,h1,zp]))
 repeat apply za
 refine ze [] h1 ?_
 refine zo (by simp [h1]) ?_
 refine zh ?_
 by_cases h2:y<x
 ·repeat apply za
  refine ze [] h2 ?_
  refine zm (by simp [h2]) ?_
  refine za (zb ?_)
  exact zg (zk hd (by simp;rfl) (by simp [wJ,h1,h2,zp]))
 repeat apply za
 refine ze [] h2 ?_
 refine zo (by simp [h2]) ?_
 refine zh (za (zb ?_))
 exact zg (zk hd (by simp;rfl) (by simp [wJ,h1,h2,zp]))
theorem Zim (x y:Int):Pure Tryz.prog 281 [.lst 2 [I x,I y]] (I (if x=0 then y else x)):=by
 refine zz Tryz.func281 Tryz.ntmps281 Tryz.results281 fun S nx hd=>?_
 refine za (zb ?_)
 refine za (zb ?_)
 repeat apply za
 refine zb ?_
 refine zi (zB (fun s:Nat=>s<=2/\(0<s->x=0)/\(1<s->y=0)) (fun k=>[(3,I 0),(6,.lst 2 [I x,I y]),(7,I 2),(8,I k)]) (fun _=>[]) (fun s=>2-s) 0 [] (by simp) (by simp) (by simp) ?_)
 rintro k ⟨hk,hk1,hk2⟩
 match k,hk,hk1,hk2 with
 | 0,_,_,_ =>
  refine za (zb ?_)
  refine za (zm (by simp) ?_)
  refine zh (za (zi (za (zb ?_))))
  by_cases hx:x=0
  ·refine za (ze [] hx ?_)
   refine zo (by simp [hx]) ?_
   refine zh (zb ?_)
   exact zq 1 [] ⟨by omega,fun _=>hx,by omega⟩ (by omega) (by simp [hx];rfl) rfl (by simp)
  ·refine za (ze [] hx ?_)
   refine zm (by simp [hx]) ?_
   refine za (zb ?_)
   exact zg (zk hd (by simp;rfl) (by simp [hx,zp]))
 | 1,_,hk1,_ =>
  have hx:=hk1 (by omega)
  refine za (zb ?_)
  refine za (zm (by simp) ?_)
  refine zh (za (zi (za (zb ?_))))
  by_cases hy:y=0
  ·refine za (ze [] hy ?_)
   refine zo (by simp [hy]) ?_
   refine zh (zb ?_)
   exact zq 2 [] ⟨by omega,fun _=>hx,fun _=>hy⟩ (by omega) (by simp [hy];rfl) rfl (by simp)
  ·refine za (ze [] hy ?_)
   refine zm (by simp [hy]) ?_
   refine za (zb ?_)
   exact zg (zk hd (by simp;rfl) (by simp [hx,zp]))
 | 2,_,hk1,hk2 =>
  refine za (zb ?_)
  refine za (zo (by simp) ?_)
  refine zu (za (zb ?_))
  exact zg (zk hd (by simp;rfl) (by simp [hk1 (by omega),hk2 (by omega),zp]))
theorem Zin (l:List Int) (i j:Fin l.length) (hn:l.length<=1048576):Pure Tryz.prog 280 [I i.val,I j.val,.ip [L l]] (I (xC l i j)):=by
 obtain ⟨a,tl,a1,a2,a3,e0⟩:=zC rfl l i.val i.isLt
 obtain ⟨b,tl2,b1,b2,b3,e1⟩:=zC rfl l j.val j.isLt
 have hi:=i.isLt
 have hj:=j.isLt
 have ha:l.getD i.val 0=a:=by rw [List.getD_eq_getElem?_getD,a1];rfl
 have hb:l.getD j.val 0=b:=by rw [List.getD_eq_getElem?_getD,b1];rfl
 have hor:=Zim (wJ a b) (wJ i.val j.val)
 have hres:xC l i j=if wJ a b=0 then wJ (i.val:Int) j.val else wJ a b:=by unfold xC;rw [ha,hb]
 rw [hres]
 refine zz Tryz.func280 Tryz.ntmps280 Tryz.results280 fun S nx hd=>?_
 refine za (zb ?_)
 refine za (zF none (Row.pures [0,1,2,3,4,5,6,7,8,9,10,11,12,13,14] .done) mixed (zP hi hj e0 e1) ?_)
 refine zN (Zcx a b) (zP hi hj e0 e1) ?_
 refine zN (Zcx i.val j.val) trivial ?_
 refine zN (hor) trivial ?_
 exact zg (zk hd (by simp;rfl) rfl)
theorem Vg (l:List Int):l.flatMap Enc.enc=l.map I:=by induction l<;>simp_all
theorem Zio (l:List Int):∀p∈[PV.ip [L l]],Fz p:=by
 intro p hp
 simp only [List.mem_singleton] at hp
 subst hp
 refine .ip fun q hq=>?_
 simp only [List.mem_singleton] at hq
 subst hq
 refine .lst fun r hr=>?_
 rw [Vg] at hr
 obtain ⟨x,_,rfl⟩:=List.mem_map.1 hr
 exact .sc _
def xT (n k:Nat):List Int:=(List.range n).map fun i=>if i<k then (i:Int) else 0
theorem Zip (n k:Nat):(xT n k).length=n:=by simp [xT]
theorem Ziq (n:Nat):xT n 0=List.replicate n 0:=by
 apply List.ext_getElem
 ·simp [xT]
 ·intro i h1 h2;simp [xT]
theorem Zir (n k:Nat) (h:k<n):(xT n k).set k (k:Int)=xT n (k+1):=by
 apply List.ext_getElem
 ·simp [xT]
 ·intro i h1 h2
  rw [List.getElem_set]
  simp only [xT,List.getElem_map,List.getElem_range]
  by_cases e:k=i
  ·subst e;rw [if_pos rfl,if_pos (by omega)]
  ·rw [if_neg e]
   by_cases h3:i<k
   ·rw [if_pos h3,if_pos (by omega)]
   ·rw [if_neg h3,if_neg (by omega)]
theorem Zis (n:Nat):xT n n=(List.finRange n).map fun x=>(x.val:Int):=by
 apply List.ext_getElem
 ·simp [xT]
 ·intro i h1 h2
  have:i<n:=by simpa [xT] using h1
  simp [xT,this]
theorem Zcy {α:Type} (l:List α) (f:α->Int):(l.map f).flatMap Enc.enc=l.map fun x=>I (f x):=by induction l<;>simp_all
theorem Zit (n:Nat):qW n (.int .i64 0)=(List.replicate n (0:Int)).flatMap Enc.enc:=by
 induction n with
 | zero=>simp
 | succ n ih=>rw [uJ,ih,List.replicate_succ];simp [qy,Value.cells]
theorem Ziu (l:List Int) (k:Nat) (v:Int) (h:k<l.length):yb (l.flatMap Enc.enc) k [I v]=(l.set k v).flatMap Enc.enc:=by
 rw [Vg,Vg,yb,List.map_set,List.set_eq_take_append_cons_drop,if_pos (by simpa using h)]
 simp
theorem Ziv (l:List Int) (hn:l.length<=1048576):Pure Tryz.prog 273 [L l] (L (wh l)):=by
 have hE:qt Tryz.prog 279:=qn Tryz.func279 (by rfl) rfl
 have hG:qt Tryz.prog 280:=qn Tryz.func280 (by rfl) rfl
 refine zz Tryz.func273 Tryz.ntmps273 Tryz.results273 fun S nx hd=>?_
 refine za (zb ?_)
 intro v0
 refine za (zb ?_)
 refine ⟨by omega,fun v1=>?_⟩
 repeat apply za
 refine zb ?_
 refine zi (zB (fun s:Nat=>s<=l.length) (fun k=>[(1,.ptr nx v0 0),(3,.sl (nx+1) v1 1 0 l.length),(9,I l.length),(10,I k)]) (fun k=>[.cells v0 45 [L l],.cells v1 3 ((xT l.length k).flatMap Enc.enc)]) (fun s=>l.length-s) 0 [] (by simp) (by simp) (by simp [Ziq,Zit]) ?_)
 rintro k hk
 refine za (zb ?_)
 refine za (zr rfl (fun hc=>?_) (fun hc=>?_))
 ·simp at hc
  have hl1:=Zip l.length k
  have hsp:=Ziu (xT l.length k) k k (by omega)
  rw [Zir _ _ hc] at hsp
  refine zh (za (zi (za (zb ?_))))
  refine ze [] (zE hc hl1 hsp) ?_
  refine ⟨by omega,?_⟩
  refine zb ?_
  exact zq (k+1) [] hc (by omega) (by simp [zt k (by omega)]) rfl (by simp)
 ·simp at hc
  obtain rfl:k=l.length:=by omega
  refine zu ?_
  rw [Zis,Zcy]
  refine jR 0 rfl ?_
  refine za (z8 [] (by rfl) (by rfl) fun K Gc Gh hK hGc hGh X hX0 hX=>?_)
  simp -implicitDefEqProofs [hX0,hX]
  try clear hX0 hX X
  by_cases h0:l.length=0
  ·obtain rfl:l=[]:=List.eq_nil_of_length_eq_zero h0
   refine hGc _ _ _ _ _ _ _ fun hsuf=>((Zik Tryz.laysSlF6_f279 hE).mono ?_).v
   rintro _ _ rfl
   refine ⟨_,_,rfl,?_⟩
   clear hGc hGh
   clear Gc Gh
   refine zW hsuf (D:=[]) (by rfl) fun Gc Gh hGc hGh X hX0 hX=>?_
   simp -implicitDefEqProofs [hX0,hX]
   clear hX0 hX X
   refine hK _ _ _ ?_
   clear hK hGc hGh
   clear K Gc Gh
   refine zX 1 rfl ?_
   refine za (zb ?_)
   have hs0:wh []=[]:=List.eq_nil_of_length_eq_zero (W7 [])
   exact zg (zk hd (by simp;rfl) (by rw [hs0];rfl))
  ·haveI:Inhabited (Fin l.length):=⟨⟨0,by omega⟩⟩
   have hs:=fun S id ver hid=>Zil (S:=S) (id:=id) (ver:=ver) (e:=3) (val:=fun i:Fin l.length=>(i.val:Int)) Tryz.laysSlF6_f279 hE (List.finRange l.length) hid (by simp;omega) hG (Zio l) (xC l) (Xh l) (Zcq l) (fun x y=>Zin l x y hn)
   rw [List.length_finRange] at hs
   have hfl:=Zcy (Z4 l) (fun i=>(i.val:Int))
   have hsl:=W7 l
   refine hGc _ _ _ _ _ _ _ fun hsuf=>((hs _ (nx+1) v1 (by rw [yS];rfl)).mono ?_).v
   rintro _ _ rfl
   refine ⟨_,_,qA _ (by omega) (by simp),?_⟩
   rw [show (((List.finRange l.length).mergeSort fun x y=>!(ltOf (xC l)) y x).map fun x=>I (x.val:Int))=(wh l).flatMap Enc.enc from hfl.symm]
   clear hGc hGh
   clear Gc Gh
   refine zW hsuf (D:=[]) (by rfl) fun Gc Gh hGc hGh X hX0 hX=>?_
   simp -implicitDefEqProofs [hX0,hX,(show nx+1-nx=1 from by omega)]
   clear hX0 hX X
   refine hK _ _ _ ?_
   clear hK hGc hGh
   clear K Gc Gh
   refine zX 1 rfl ?_
   refine za (ze [] hsl ?_)
   exact zg (zk hd (by simp;rfl) (by simp [zp,hsl]))
open Go Hp
theorem Ziw (x:Inst) (c:List Int) (a b:Int):q9 x (c++[b]) a=q9 x c a++(if b≠a then [⟨a,b,jS x a b⟩] else []):=by
 unfold q9
 by_cases h:b=a<;>simp [h]
theorem Zix (x:Inst) (c:List Int) (a:Int):(q9 x c a).length<=c.length:=by
 unfold q9
 rw [List.length_map];exact List.length_filter_le _ _
theorem Ziy (l:List Pr) (p:Pr):qi (l++[p])=qi l++[-p.s]:=by simp [qi]
theorem Ziz (l:List Pr):(qi l).length=l.length:=by simp [qi]
theorem ZiA (x:Inst) (c:List Int) (a:Int) (hx:jh x) (hc:c.length<=1048576) (hs:∀b∈c,small b) (ha:small a):Pure Tryz.prog 262 [.agg (zv x),L c,I a] (L (xg x c a)):=by
 refine zz Tryz.func262 Tryz.ntmps262 Tryz.results262 fun S nx hd=>?_
 refine za (zb ?_)
 intro v0
 refine za (zb ?_)
 refine za (yT 7 175 3 rfl fun v1=>?_)
 refine zb ?_
 refine za (yT 8 3 1 rfl fun v2=>?_)
 refine za (zb ?_)
 refine zi (zB (fun s:Nat × List Pr × Nat × Nat=>s.1<=c.length/\s.2.1=q9 x (c.take s.1) a) (fun (k,ps,v1,v2)=>[(1,L c),(2,I a),(3,.ptr nx v0 0),(7,.sl (nx+1) v1 3 0 ps.length),(8,.sl (nx+2) v2 1 0 ps.length),(15,L c),(16,I c.length),(17,I k)]) (fun (k,ps,v1,v2)=>[.cells v0 25 (zv x),.cells v1 175 (ps.flatMap Enc.enc),.cells v2 3 ((qi ps).flatMap Enc.enc)]) (fun s=>c.length-s.1) (0,[],v1,v2) [] (by simp [q9]) (by simp) (by simp [qi]) ?_)
 rintro ⟨k,ps,v1,v2⟩ ⟨hk,ho⟩
 simp only at hk ho ⊢
 have hpl:ps.length<=k:=by rw [ho];refine Nat.le_trans (Zix _ _ _) ?_;simp;omega
 have hnl:=Ziz ps
 refine za (zb ?_)
 refine za (zr rfl (fun hq=>?_) (fun hq=>?_))
 ·simp at hq
  obtain ⟨b,tl,a1,a2,a3,e0⟩:=zC rfl c k hq
  have hb:=hs b (List.mem_of_getElem? a1)
  have hsv:=Vc hx a b
  have w5:IntKind.i64.wrap (-jS x a b)=-jS x a b:=wr _ (by omega) (by omega)
  have hsn:=Ziw x (c.take k) a b
  rw [<-a3,<-ho] at hsn
  refine zh (za (zi (za (ze [] (zn e0 hq) ?_))))
  refine za (zb ?_)
  refine zr rfl (fun hne=>?_) (fun hne=>?_)
  ·simp at hne
   rw [if_pos hne] at hsn
   refine za (zb ?_)
   refine zA (Zh6 x a b hx ha hb) ?_
   intro v3
   refine za (zb ?_)
   refine ⟨by omega,?_⟩
   have htk:List.take ps.length ((qi ps).flatMap Enc.enc)=(qi ps).flatMap Enc.enc:=by rw [<-hnl];exact Zf4 _
   have hnf:((qi ps).flatMap Enc.enc).length=ps.length:=by rw [qY,hnl]
   refine ze [] (zE w5 htk hnf) ?_
   refine ⟨by omega,?_⟩
   refine zb ?_
   exact zq (k+1,ps++[⟨a,b,jS x a b⟩],v1+1,v2+1) [_] ⟨hq,hsn.symm⟩ (by simp;omega) (by simp [zt k (by omega)]) rfl (by simp [Ziy];rfl)
  ·simp at hne
   rw [if_neg (by simp [hne]),List.append_nil] at hsn
   refine zh (zb ?_)
   exact zq (k+1,ps,v1,v2) [] ⟨hq,hsn.symm⟩ (by simp;omega) (by simp [zt k (by omega)]) rfl (by simp)
 ·simp at hq
  obtain rfl:k=c.length:=by omega
  rw [List.take_length] at ho
  refine zu (zX 1 rfl ?_)
  refine zX 2 rfl ?_
  refine za (zb ?_)
  refine za (yT 12 175 3 rfl fun v3=>?_)
  have hrw:xg x c a=(wh (qi ps)).map (wq ps):=by rw [ho];rfl
  rw [hrw]
  have hsl:=W7 (qi ps)
  have hmem:∀z∈wh (qi ps),0<=z/\z<ps.length:=fun z h=>by have:=ZhN h;omega
  have hcall:=Ziv (qi ps) (by omega)
  rw [show L (qi ps)=PV.lst ps.length ((qi ps).flatMap Enc.enc) from by rw [<-hnl]] at hcall
  generalize qi ps=ns at *
  refine za (ze [] hnl ?_)
  refine zA hcall ?_
  generalize wh ns=is at *
  refine zi (zB (fun s:Nat × List Pr × Nat=>s.1<=is.length/\s.2.1=(is.take s.1).map (wq ps)) (fun (k,os,v)=>[(7,L ps),(12,.sl (nx+3) v 3 0 os.length),(43,L is),(44,I is.length),(45,I k)]) (fun (k,os,v)=>[.cells v0 25 (zv x),.dead,.dead,.cells v 175 (os.flatMap Enc.enc)]) (fun s=>is.length-s.1) (0,[],v3) [] (by simp) (by simp [hnl]) (by simp) ?_)
  rintro ⟨k,os,v⟩ ⟨hk,ho2⟩
  simp only at hk ho2 ⊢
  refine za (zb ?_)
  refine za (zr rfl (fun hq=>?_) (fun hq=>?_))
  ·simp at hq
   obtain ⟨i,tl,a1,a2,a3,e0⟩:=zC rfl is k hq
   obtain ⟨q1,q2⟩:=hmem i (List.mem_of_getElem? a1)
   obtain ⟨j,rfl⟩:∃j:Nat,i=j:=⟨i.toNat,by omega⟩
   have hj:j<ps.length:=by omega
   obtain ⟨p,tp,b1,b2,b3,e1,e2⟩:=el 3 rfl ps j hj
   have hg:wq ps (j:Int)=p:=by simp [wq,List.getD_eq_getElem?_getD,b1]
   have hgs:(is.take (k+1)).map (wq ps)=os++[p]:=by rw [a3,ho2];simp [hg]
   have hgl:os.length=k:=by rw [ho2];simp;omega
   refine zh (za (zi (za (ze [] (zn e0 hq) ?_))))
   refine ze [] (zE e1 e2 hj) ?_
   refine ⟨by omega,?_⟩
   refine zb ?_
   exact zq (k+1,os++[p],v+1) [] ⟨hq,hgs.symm⟩ (by simp;omega) (by simp [zt k (by omega)]) rfl (by simp)
  ·simp at hq
   obtain rfl:k=is.length:=by omega
   rw [List.take_length] at ho2
   refine zu (zX 3 rfl ?_)
   refine za (zb ?_)
   exact zg (zk hd (by simp;rfl) (by simp [zp,ho2]))
open Go Hp
@[simp] theorem ZqO (d1 d2 a b c:Ob) (l:List Ob) (o:Ob × Ob × Ob):uh (d1 :: d2 :: a :: b :: c :: l) 2 o=d1 :: d2 :: o.1 :: o.2.1 :: o.2.2 :: l:=rfl
theorem HX.srt {o:Ob × Ob × Ob} {a hv mv:Nat} {r:zI Int} (h:HX o a hv mv r):wg r:=by
 obtain ⟨_,_,_,h⟩:=h (fun i=>if i=a then o.1 else if i=a+1 then o.2.1 else o.2.2) (by simp) (by simp) (by simp)
 exact h
theorem ZiB {id:Int} {r:zI Int} (h:∀x∈r,x.1≠id):jp id r=false:=by
 simp only [jp,List.any_eq_false];intro x hx;simpa using h x hx
def QW (p:Pr):List PV:=[.agg [I p.a,I p.b,I p.s]]
def jq (x:Inst) (c:List Int) (k:Nat):List (List Pr):=(c.take k).map (xg x c)
theorem Zcz (x:Inst) (c:List Int):jq x c 0=[]:=by simp [jq]
theorem ZiC {x:Inst} {c:List Int} {k:Nat} {a:Int} (h:c.take (k+1)=c.take k++[a]):jq x c (k+1)=jq x c k++[xg x c a]:=by simp [jq,h]
theorem ZiD (x:Inst) (c:List Int):jq x c c.length=c.map (xg x c):=by simp [jq]
theorem ZcA (x:Inst) (c:List Int) (k:Nat) (h:k<=c.length):(jq x c k).length=k:=by simp [jq];omega
def wK (rows:List (List Pr)) (n:Nat):List PV:=rows.flatMap Enc.enc++List.replicate (n-rows.length) (.sc (.slice none 0 0))
theorem ZcB (rows:List (List Pr)) (n:Nat) (h:rows.length<=n):(wK rows n).length=n:=by simp [wK];omega
theorem ZiE (n:Nat):wK [] n=qW n (.slice none 0 0):=by
 unfold wK
 simp only [List.flatMap_nil,List.nil_append,List.length_nil,Nat.sub_zero]
 induction n with
 | zero=>simp
 | succ n ih=>rw [uJ,List.replicate_succ,ih];simp [qy,Value.cells]
theorem ZiF (rows:List (List Pr)):wK rows rows.length=rows.flatMap Enc.enc:=by simp [wK]
theorem ZiG (rows:List (List Pr)) (n:Nat) (r:List Pr) (h:rows.length<n):yb (wK rows n) rows.length [L r]=wK (rows++[r]) n:=by
 unfold wK yb
 have h1:(rows.flatMap Enc.enc).length=rows.length:=jg rows
 obtain ⟨m,hm⟩:∃m,n-rows.length=m+1:=⟨n-rows.length-1,by omega⟩
 rw [hm,List.replicate_succ]
 rw [List.take_append_of_le_length (by omega),List.take_of_length_le (by omega)]
 rw [List.drop_append,List.drop_of_length_le (by simp)]
 simp [h1,show n-(rows.length+1)=m by omega]
theorem ZiH (rows:List (List Pr)) (n:Nat) (r:List Pr):(wK (rows++[r]) n)[rows.length]?=some (L r):=by
 unfold wK
 rw [List.flatMap_append,List.append_assoc,List.getElem?_append_right (by rw [jg];exact Nat.le_refl _),jg]
 simp
theorem ZiI (rows:List (List Pr)) (k:Nat) (r:List Pr) (h:k<rows.length):yb (rows.flatMap Enc.enc) k [L r]=(rows.set k r).flatMap Enc.enc:=by
 have e:∀l:List (List Pr),l.flatMap Enc.enc=l.map fun r=>L r:=fun l=>by induction l<;>simp_all
 rw [e,e,yb,List.map_set,List.set_eq_take_append_cons_drop,if_pos (by simpa using h)]
 simp
theorem Xl:∀(rows:List (List Pr)) (i:Nat) (r:List Pr),yH i (rows++[r])=yH i rows++yH (i+rows.length) [r]
 | [],i,r=>by simp [yH]
 | [] :: rows,i,r=>by
  simp only [List.cons_append,yH,List.length_cons]
  rw [Xl rows (i+1) r,show i+1+rows.length=i+(rows.length+1) by omega]
 | (p :: l) :: rows,i,r=>by
  simp only [List.cons_append,yH,List.length_cons]
  rw [Xl rows (i+1) r,show i+1+rows.length=i+(rows.length+1) by omega]
theorem ZiJ (rows:List (List Pr)):yH 0 (rows++[[]])=yH 0 rows:=by rw [Xl];simp [yH]
theorem ZiK (rows:List (List Pr)) (p:Pr) (tl:List Pr):(yH 0 (rows++[p :: tl])).Perm (((rows.length:Int),-p.s) :: yH 0 rows):=by
 rw [Xl]
 simp only [yH,Nat.zero_add]
 exact List.perm_append_comm
theorem ZcC {rows:List (List Pr)} {k:Nat} (h:rows.getD k []=[]) {r:zI Int} (hp:r.Perm (yH 0 rows)):jp (k:Int) r=false:=by
 refine ZiB fun x hx e=>?_
 obtain ⟨j,p,tl,hj,rfl⟩:=(YN rows 0 x).1 (hp.subset hx)
 simp only [Nat.zero_add] at e
 have:j=k:=by omega
 subst this
 rw [List.getD_eq_getElem?_getD,hj] at h
 cases h
theorem ZiL (x:Inst) (ss:List Stop):Pure Tryz.prog 241 [.agg (zv x),L ss] (.fn (.func 260) [] [.ip [L ss],.ip (zv x)]):=by
 refine zz Tryz.func241 Tryz.ntmps241 Tryz.results241 fun S nx hd=>?_
 refine za (zb ?_)
 intro v0 v1
 refine za (zb ?_)
 refine jR 0 rfl ?_
 refine jR 1 rfl ?_
 exact zg (zk hd (by simp;rfl) rfl)
theorem ZiM (x:Inst) (ss:List Stop) (hx:jh x) (hss:ss.length<=1048576) (hs:∀s∈ss,small s.c) (hnd:(ss.map (·.c)).Nodup):Zi Tryz.prog 260 [.ip [L ss],.ip (zv x)] ((qv x (ss.map (·.c))).map QW):=by
 have hcust:=fun S nx hd=>QM ss hss S nx hd
 obtain ⟨zs,hzs⟩:∃zs,zs=ss.map (·.c):=⟨_,rfl⟩
 have hzl:ss.length=zs.length:=by rw [hzs];simp
 rw [<-hzs,hzl] at hcust
 rw [<-hzs] at hnd ⊢
 have hzsm:∀b∈zs,small b:=by
  intro b hb;rw [hzs] at hb;obtain ⟨s,h1,rfl⟩:=List.mem_map.1 hb;exact hs s h1
 have hz1:=QO zs
 have hz2:=Zb7 zs
 have hz3:=(WS zs).2 hnd
 have hz4:=Zj zs
 have hz5:qv x zs=qv x (yK zs):=ZhW hnd hz3 hz2.symm
 have hz6:(yK zs).Pairwise (· < ·):=(List.Pairwise.and hz1 hz3).imp fun ⟨h1,h2⟩=>by omega
 have hzn:zs.length<=1048576:=by omega
 have hcsm:∀b∈yK zs,small b:=fun b hb=>hzsm b (hz2.subset hb)
 have hsort:=fun (S:Store) (id ver:Nat) (hid:S id=.cells ver 3 (zs.flatMap Enc.enc))=>Xd zs hid hzn
 rw [hz5]
 generalize yK zs=c at *
 clear hzs hz1 hz5
 refine QE Tryz.func260 (by rfl) rfl Tryz.ntmps260 (congrArg Array.toList Tryz.results260) (by simp) fun l V keep nx J hJd hY A0 hA0=>?_
 refine za (z8 [] (by rfl) (by rfl) fun K Gc Gh hK hGc hGh X hX0 hX=>?_)
 simp -implicitDefEqProofs [hX0,hX]
 try clear hX0 hX X
 refine hGc _ _ _ _ _ _ _ fun hsuf=>((hcust _ _ qN).mono ?_).v
 rintro _ _ ⟨v1,rfl,rfl⟩
 refine ⟨_,_,YC _,?_⟩
 clear hGc hGh
 clear Gc Gh
 refine zW hsuf (D:=[]) (by rfl) fun Gc Gh hGc hGh X hX0 hX=>?_
 simp -implicitDefEqProofs [hX0,hX,Nat.add_assoc]
 clear hX0 hX X
 refine hK _ _ _ ?_
 clear hK hGc hGh
 clear K Gc Gh
 refine za (z8 [] (by rfl) (by rfl) fun K Gc Gh hK hGc hGh X hX0 hX=>?_)
 simp -implicitDefEqProofs [hX0,hX]
 try clear hX0 hX X
 refine hGc _ _ _ _ _ _ _ fun hsuf=>((hsort _ _ _ (by simp)).mono ?_).v
 rintro _ _ rfl
 refine ⟨_,_,qA _ (by simp) (by simp),?_⟩
 clear hGc hGh
 clear Gc Gh
 refine zW hsuf (D:=[]) (by rfl) fun Gc Gh hGc hGh X hX0 hX=>?_
 simp -implicitDefEqProofs [hX0,hX]
 clear hX0 hX X
 refine hK _ _ _ ?_
 clear hK hGc hGh
 clear K Gc Gh
 rw [<-hz4]
 refine zX 1 rfl ?_
 refine za (z8 [] (by rfl) (by rfl) fun K Gc Gh hK hGc hGh X hX0 hX=>?_)
 simp -implicitDefEqProofs [hX0,hX]
 try clear hX0 hX X
 refine hGc _ _ _ _ _ _ _ fun hsuf=>(ZhJ.mono ?_).v
 rintro p _ ⟨hv,mv,o1,rfl,m1,rfl⟩
 refine ⟨_,_,rfl,?_⟩
 clear hGc hGh
 clear Gc Gh
 refine zW hsuf (D:=[]) (by rfl) fun Gc Gh hGc hGh X hX0 hX=>?_
 simp -implicitDefEqProofs [hX0,hX]
 clear hX0 hX X
 refine hK _ _ _ ?_
 clear hK hGc hGh
 clear K Gc Gh
 simp at m1
 refine za (zb ?_)
 refine ⟨by omega,fun v0=>?_⟩
 repeat apply za
 refine zb ?_
 have hpw:∀(row:List Pr) (a:Int),row=xg x c a->∀p∈row,IntKind.i64.wrap (-p.s)=-p.s:=by
  intro row a e p hp
  rw [e] at hp
  have h1:=(Vb x c a).subset hp
  unfold q9 at h1
  obtain ⟨b,_,rfl⟩:=List.mem_map.1 h1
  have:=Vc hx a b
  show IntKind.i64.wrap (-jS x a b)=-jS x a b
  exact wr _ (by omega) (by omega)
 refine zi (zB (fun s:Nat × zI Int × (Ob × Ob × Ob) × Nat=>s.1<=c.length/\s.2.1.Perm (yH 0 (jq x c s.1))/\HX s.2.2.1 (nx+2) hv mv s.2.1) (fun (k,its,o,v)=>[(0,jf l),(2,.ip (zv x)),(4,L c),(5,.ptr (nx+3) hv 0),(6,.sl (nx+5) v 1 0 c.length),(21,L c),(22,I c.length),(23,I k)]) (fun (k,its,o,v)=>[.dead,.dead,o.1,o.2.1,o.2.2,.cells v 312 (wK (jq x c k) c.length)]) (fun s=>c.length-s.1) (0,[],o1,v0) [] ⟨by simp,by simp [Zcz,yH],m1⟩ (by simp) (by simp [Zcz,ZiE]) ?_)
 rintro ⟨k,its,o,v⟩ ⟨hk,hp,hm⟩
 simp only at hk hp hm ⊢
 refine za (zb ?_)
 refine za (zr rfl (fun hq=>?_) (fun hq=>?_))
 ·simp at hq
  obtain ⟨a,tl,a1,a2,a3,e0⟩:=zC rfl c k hq
  have hkl:=ZcA x c k (by omega)
  have hks:=ZiC (x:=x) a3
  have hput:=ZiG (jq x c k) c.length (xg x c a) (by omega)
  have hat:=ZiH (jq x c k) c.length (xg x c a)
  have hrl:=ZcB (jq x c k) c.length (by omega)
  have hrl2:=ZcB (jq x c k++[xg x c a]) c.length (by simp;omega)
  rw [hkl] at hput hat
  have hno:jp (k:Int) its=false:=ZcC (k:=k) (rows:=jq x c k) (by rw [List.getD_eq_getElem?_getD,List.getElem?_eq_none (by omega)];rfl) hp
  have hil:its.length<=k:=by rw [hp.length_eq];exact Nat.le_trans (Xj _ _) (by omega)
  refine zh (za (zi (za (ze [] (zn e0 hq) ?_))))
  refine za (zb ?_)
  refine qZ [] (ZiA x c a hx (by omega) hcsm (hcsm a (List.mem_of_getElem? a1))) (zE hput hrl hq) ?_
  refine ⟨by omega,?_⟩
  have hw:=hpw (xg x c a) a rfl
  have hsn:=ZiK (jq x c k)
  have hsn0:=ZiJ (jq x c k)
  generalize hrow:xg x c a=row at *
  have hat2:∀h,(wK (jq x c k++[row]) c.length)[k]'h=L row:=fun h=>(List.getElem?_eq_some_iff.1 hat).2
  refine za (ze [] (zE hat2 hq hrl2) ?_)
  cases row with
  | nil =>
   refine zo rfl (zh (zb ?_))
   refine zq (k+1,its,o,v) [] ⟨hq,?_,hm⟩ (by simp;omega) (by simp [zt k (by omega)]) rfl (by simp [hks])
   simp only [hks,hsn0]
   exact hp
  | cons p rl =>
   have hwp:=hw p (by simp)
   refine zm (by simp) ?_
   refine z8 [] (by rfl) (by rfl) fun K Gc Gh hK hGc hGh X hX0 hX=>?_
   simp -implicitDefEqProofs [hX0,hX,hat2,hq,hrl2,hwp]
   try clear hX0 hX X
   refine hGc _ _ _ _ _ _ _ fun hsuf=>((Zcp (j:=2) hm rfl rfl rfl (k:Int) (-p.s) (by omega)).mono ?_).v
   rintro _ T ⟨rfl,o2,m2,rfl⟩
   refine ⟨_,_,rfl,?_⟩
   rw [hno] at m2
   simp only [cond_false] at m2
   clear hGc hGh
   clear Gc Gh
   refine zW hsuf (D:=[]) (by rfl) fun Gc Gh hGc hGh X hX0 hX=>?_
   simp -implicitDefEqProofs [hX0,hX]
   clear hX0 hX X
   refine hK _ _ _ ?_
   clear hK hGc hGh
   clear K Gc Gh
   refine zb ?_
   refine zq (k+1,ug ((k:Int),-p.s) its,o2,v) [] ⟨hq,?_,m2⟩ (by simp;omega) (by simp [zt k (by omega)]) rfl (by simp [hks])
   simp only [hks]
   have:=hsn p rl
   rw [hkl] at this
   exact (QS _ _).trans ((hp.cons _).trans this.symm)
 ·simp at hq
  obtain rfl:k=c.length:=by omega
  obtain ⟨hb1,hb2,hb3⟩:=Zh4 (x:=x) hz6
  rw [<-ZiD] at hb1 hb2 hb3
  have hrl:=ZcA x c c.length (Nat.le_refl _)
  have hrc:=ZiF (jq x c c.length)
  rw [hrl] at hrc
  rw [hrc]
  generalize jq x c c.length=rows at *
  refine zu (zi (yP (σ:=Nat × Store × List (List Pr) × zI Int × (Ob × Ob × Ob) × Nat) (fun s=>s.1<=(qv x c).length/\J s.1 s.2.1/\Rows' c s.2.2.1/\(∀r∈s.2.2.1,Sd xe r)/\s.2.2.1.flatten.Perm ((qv x c).drop s.1)/\s.2.2.2.1.Perm (yH 0 s.2.2.1)/\HX s.2.2.2.2.1 (nx+2) hv mv s.2.2.2.1) (fun s=>[(0,jf l),(5,.ptr (nx+3) hv 0),(6,.sl (nx+5) s.2.2.2.2.2 1 0 c.length)]) (fun s=>s.2.1) (fun s=>[.dead,.dead,s.2.2.2.2.1.1,s.2.2.2.2.1.2.1,s.2.2.2.2.1.2.2,.cells s.2.2.2.2.2 312 (s.2.2.1.flatMap Enc.enc)]) (fun s=>(qv x c).length-s.1) (zD (0,A0,rows,its,o,v) [] ⟨by simp,hA0,hb1,hb2,by simpa using hb3,hp,hm⟩ (by simp) rfl (by simp)) ?_))
  rintro ⟨i,A,rows,its,o,v⟩ ⟨hi,hJ,hr1,hr2,hr3,hp,hm⟩
  simp only at hi hJ hr1 hr2 hr3 hp hm ⊢
  have hrl:rows.length=c.length:=hr1.len
  have hs:=hm.srt
  refine zi (za (z8 [] (by rfl) (by rfl) fun K Gc Gh hK hGc hGh X hX0 hX=>?_))
  simp -implicitDefEqProofs [hX0,hX]
  try clear hX0 hX X
  refine hGc _ _ _ _ _ _ _ fun hsuf=>((ZhI (j:=2) hm rfl rfl rfl).mono ?_).v
  rintro _ T ⟨rfl,o2,m2,rfl⟩
  refine ⟨_,_,rfl,?_⟩
  cases its with
  | nil =>
   clear hGc hGh
   clear Gc Gh
   refine zW hsuf (D:=[]) (by rfl) fun Gc Gh hGc hGh X hX0 hX=>?_
   simp -implicitDefEqProofs [hX0,hX,Z3,zS,xy]
   clear hX0 hX X
   refine hK _ _ _ ?_
   clear hK hGc hGh
   clear K Gc Gh
   have h0:∀r∈rows,r=[]:=by
    intro r hr
    cases r with
    | nil=>rfl
    | cons p tl =>
     obtain ⟨j,hj⟩:=List.mem_iff_getElem?.1 hr
     have:=(YN rows 0 ((j:Int),-p.s)).2 ⟨j,p,tl,hj,by rw [Nat.zero_add]⟩
     rw [List.nil_perm.1 hp] at this
     cases this
   have hfin:=ZhQ hr3 hi h0
   repeat apply za
   refine ze [(2,61)] zx ?_
   exact zm rfl (zg (wX (hJd _ _ hJ) rfl (by simpa [hfin] using hJ)))
  | cons it r =>
   obtain ⟨q,y,tl,e1,e2,e3,e4,e5,e6,e7⟩:=Zh5 hz6 hr1 hr2 hr3 hs hp.symm
   subst e1
   have hql:=(List.getElem?_eq_some_iff.1 e2).1
   have hql2:q<c.length:=by omega
   obtain ⟨y',tr,a1,a2,a3,e0⟩:=zC rfl rows q hql
   rw [e2] at a1;cases a1
   have hil:=(List.getElem?_eq_some_iff.1 e4).1
   have hyx:((qv x c).map QW)[i]?=some (QW y):=by rw [List.getElem?_map,e4];rfl
   clear hGc hGh
   clear Gc Gh
   refine zW hsuf (D:=[]) (by rfl) fun Gc Gh hGc hGh X hX0 hX=>?_
   simp -implicitDefEqProofs [hX0,hX,Z3,zS,xy]
   clear hX0 hX X
   refine hK _ _ _ ?_
   clear hK hGc hGh
   clear K Gc Gh
   repeat apply za
   refine z8 [(2,61)] (by rfl) (by rfl) fun K Gc Gh hK hGc hGh X hX0 hX=>?_
   simp -implicitDefEqProofs [hX0,hX,e0,hql2,hrl,undef]
   try clear hX0 hX X
   refine hGh _ _ _ _ _ fun hsuf=>YD rfl rfl rfl (hY _ _ _ _ hyx hJ) ?_
   rintro _ ⟨A',hJ',rfl⟩
   refine ⟨_,_,rfl,?_⟩
   clear hGc hGh
   clear Gc Gh
   refine zW hsuf (D:=[(2,61)]) (by rfl) fun Gc Gh hGc hGh X hX0 hX=>?_
   simp -implicitDefEqProofs [hX0,hX]
   try clear hX0 hX X
   refine hK _ _ _ ?_
   clear hK hGc hGh
   clear K Gc Gh
   refine zo rfl (zh ?_)
   have hsp:=ZiI rows q tl hql
   have hrl2:(rows.set q tl).length=c.length:=by simp [hrl]
   have hql3:q<(rows.set q tl).length:=by omega
   obtain ⟨y',tr',a1,a2,a3,e0'⟩:=zC rfl (rows.set q tl) q hql3
   rw [List.getElem?_set_self hql] at a1;cases a1
   have hno:jp (q:Int) r=false:=ZcC (rows:=rows.set q []) (by rw [List.getD_eq_getElem?_getD,List.getElem?_set_self hql];rfl) e3
   have hlen:r.length<=1048576:=by rw [e3.length_eq];exact Nat.le_trans (Xj _ _) (by simp;omega)
   have hperm:=fun p tz=>Xi rows 0 q p tz hql
   refine za (ze [] (zP e0 hql2 hrl hsp) ?_)
   refine ⟨by omega,?_⟩
   refine za (ze [] (zE e0' hql2 hrl2) ?_)
   cases tl with
   | nil =>
    exact zo rfl (zh (zq (i+1,A',rows.set q [],r,o2,v) [] ⟨hil,hJ',e5,e6,e7,e3,m2⟩ (by simp;omega) (by simp) rfl (by simp)))
   | cons z tz =>
    have hzm:z∈(rows.set q (z :: tz)).flatten:=List.mem_flatten.2 ⟨z :: tz,List.mem_of_getElem? (List.getElem?_set_self hql),by simp⟩
    have hzp:z∈wZ x c:=(Z5 x c).subset (List.mem_of_mem_drop (e7.subset hzm))
    have hzs:=(QU.1 hzp).2.2.2
    have hwz:IntKind.i64.wrap (-z.s)=-z.s:=by
     rw [hzs]
     have:=Vc hx z.a z.b
     exact wr _ (by omega) (by omega)
    refine zm (by simp) ?_
    refine z8 [] (by rfl) (by rfl) fun K Gc Gh hK hGc hGh X hX0 hX=>?_
    simp -implicitDefEqProofs [hX0,hX,e0',hql2,hrl2,hwz]
    try clear hX0 hX X
    refine hGc _ _ _ _ _ _ _ fun hsuf=>((Zcp (j:=2) m2 rfl rfl rfl (q:Int) (-z.s) (by simp;omega)).mono ?_).v
    rintro _ T ⟨rfl,o3,m3,rfl⟩
    refine ⟨_,_,rfl,?_⟩
    simp only [List.tail_cons] at m3
    rw [hno] at m3
    simp only [cond_false] at m3
    clear hGc hGh
    clear Gc Gh
    refine zW hsuf (D:=[]) (by rfl) fun Gc Gh hGc hGh X hX0 hX=>?_
    simp -implicitDefEqProofs [hX0,hX]
    clear hX0 hX X
    refine hK _ _ _ ?_
    clear hK hGc hGh
    clear K Gc Gh
    refine zq (i+1,A',rows.set q (z :: tz),ug ((q:Int),-z.s) r,o3,v) [] ⟨hil,hJ',e5,e6,e7,?_,m3⟩ (by simp;omega) (by simp) rfl (by simp)
    have:=hperm z tz
    rw [Nat.zero_add] at this
    exact (QS _ _).trans ((e3.cons _).trans this.symm)
open Go Hp
theorem ZiN {x:Inst} {c:List Int} (h:c.Nodup) (hc:c.length<=1000):(qv x c).length<=1000000:=by
 rw [ZhT h]
 exact Nat.le_trans (Nat.mul_le_mul hc (Nat.sub_le _ _)) (Nat.mul_le_mul_left 1000 hc)
open Go Hp
open Go Hp
def Zn (x:Inst) (ss:List Stop) (i:Nat):zj × Int:=((qv x (ss.map (·.c))).take i).foldl (qq x) (ss.map fun s=>[s],(ss.length:Int))
theorem ZiO (x:Inst) (ss:List Stop):Zn x ss 0=(ss.map fun s=>[s],(ss.length:Int)):=by simp [Zn]
theorem ZiP {x:Inst} {ss:List Stop} {i:Nat} {p:Pr} (h:(qv x (ss.map (·.c)))[i]?=some p):Zn x ss (i+1)=qq x (Zn x ss i) p:=by
 unfold Zn
 obtain ⟨h1,e⟩:=List.getElem?_eq_some_iff.1 h
 rw [List.take_succ_eq_append_getElem h1,e,List.foldl_append];rfl
theorem ZiQ (x:Inst) (ss:List Stop):Zn x ss (qv x (ss.map (·.c))).length=Vd x ss:=by simp [Zn,Vd]
theorem ZiR (x:Inst) (T:zj) (num:Int) (p:Pr):num-1<=(qq x (T,num) p).2/\(qq x (T,num) p).2<=num:=by
 unfold qq YO
 cases yV x (T,num).2 p (w8 (T,num).1 p.a) (w8 (T,num).1 p.b) ((T,num).1.getD (w8 (T,num).1 p.a) []) ((T,num).1.getD (w8 (T,num).1 p.b) [])<;>simp<;>omega
theorem ZiS (x:Inst) (ss:List Stop) (hx:jh x) (hxc:x.cust.length<=1048576) (hss:ss.length<=1000) (hs:∀s∈ss,small s.c) (hnd:(ss.map (·.c)).Nodup):Pure Tryz.prog 212 [.agg (zv x),L ss] (.agg [L (xD x ss)]):=by
 have hpl:=ZiN (x:=x) hnd (by simpa using hss)
 have hkey:KeyOk (.int .i64) qh:=Z2 .i64
 have hdist:∀k s,ss[k]?=some s->s.c ∉ (ss.take k).map (·.c):=by
  intro k s h hm
  obtain ⟨s',h1,h2⟩:=List.mem_map.1 hm
  obtain ⟨j,hj⟩:=List.mem_iff_getElem?.1 h1
  rw [List.getElem?_take] at hj
  split at hj
  ·rename_i hjk
   have e1:(ss.map (·.c))[j]?=some s.c:=by rw [List.getElem?_map,hj,<-h2];rfl
   have e2:(ss.map (·.c))[k]?=some s.c:=by rw [List.getElem?_map,h];rfl
   obtain ⟨g1,g2⟩:=List.getElem?_eq_some_iff.1 e1
   obtain ⟨g3,g4⟩:=List.getElem?_eq_some_iff.1 e2
   exact List.pairwise_iff_getElem.1 hnd j k g1 g3 hjk (g2.trans g4.symm)
  ·cases hj
 refine zz Tryz.func212 Tryz.ntmps212 Tryz.results212 fun S nx hd=>?_
 refine za (zb ?_)
 intro v0 v1
 refine za (zb ?_)
 intro v2 v3 v4
 refine y8 3 6 31 1 rfl rfl fun v5=>?_
 repeat apply za
 refine zb ?_
 refine zi (zB (fun s:Nat × zj × List (Value × PV) × (Int->Option Int) × Nat=>s.1<=ss.length/\s.2.1=(ss.take s.1).map (fun s=>[s])/\MapIs qh I s.2.2.1 s.2.2.2.1/\JI (ss.take s.1) s.2.1 s.2.2.2.1) (fun (k,T,es,g,v5)=>[(1,L ss),(2,.ptr nx v0 0),(4,.ptr (nx+1) v1 0),(5,.ptr (nx+4) v4 0),(18,L ss),(19,I ss.length),(20,I k)])
  (fun (k,T,es,g,v5)=>[.cells v0 25 (zv x),.cells v1 58 [.sc (.slice none 0 0)],.map v2 es,.cells v3 288 (YP x (nx+5) v5 k ss.length (nx+2) v2),.cells v4 285 [.ptr (nx+3) v3 0],.cells v5 31 (T.flatMap Enc.enc)]) (fun s=>ss.length-s.1) (0,[],[],fun _=>none,v5) [] ⟨by simp,by simp,Zcf _ _,by simpa using JI.nil⟩ (by simp) (by simp) ?_)
 rintro ⟨k,T,es,g,v5⟩ ⟨hk,hT,hm,hI⟩
 simp only at hk hT hm hI ⊢
 have hTl:T.length=k:=by rw [hT];simp;omega
 refine za (zb ?_)
 refine za (zr rfl (fun hq=>?_) (fun hq=>?_))
 ·simp at hq
  obtain ⟨s,tl,a1,a2,a3,e1,e0⟩:=el 2 rfl ss k hq
  obtain ⟨rs,f1,_,_,f4,_⟩:=hm.find hkey s.c
  have hnew:=f4 (k:Int)
  have hIn:=hI.snoc s (hdist k s a1)
  have hkl:(ss.take k).length=k:=by simp;omega
  rw [hkl,<-a3] at hIn
  have hTs:T++[[s]]=(ss.take (k+1)).map fun s=>[s]:=by rw [a3,hT];simp
  have htf:(T.flatMap Enc.enc).take k=T.flatMap Enc.enc:=List.take_of_length_le (by rw [jg];omega)
  have htl:(T.flatMap Enc.enc).length=k:=by rw [jg,hTl]
  refine zh (za (zi (za (ze [] (zE e1 e0 hq) ?_))))
  intro v6
  refine za (zF (some [nx+4,nx+6]) (Row.pures [0,1,2,3,5,6,7] (.alt 4 (.alt 8 (Row.pures [9,10] (.alt 11 (.done) .stop)) .stop) .stop)) mixed (zn htf htl) ?_)
  refine ⟨⟨by omega,by omega⟩,?_⟩
  refine wG (some [nx+3,nx+4,nx+6]) (Row.pures [0,1,2,3,4,5,6] (.alt 7 (.done) .stop)) mixed (by rfl) (by rfl) (by rfl) fun K Gp Gc Gh hK hGp hGc hGh X hX0 hX1 hX2 hX=>?_
  simp -implicitDefEqProofs [hX0,hX1,hX2,hX]
  try clear hX0 hX1 hX2 hX X
  refine hGh _ _ _ _ _ (by rfl) (QA (.inl rfl) Tryz.underlying286 Tryz.underlying3 rfl rfl rfl (by simp) f1 ?_)
  rw [qA _ (by omega) (by simp),show nx+2-nx=2 from by omega]
  refine ⟨by simp [yB],?_⟩
  clear hGp hGc hGh
  clear Gp Gc Gh
  refine jm fun Gp Gc Gh hGp hGc hGh X hX0 hX1 hX2 hX=>?_
  simp -implicitDefEqProofs [hX0,hX1,hX2,hX]
  try clear hX0 hX1 hX2 hX X
  refine hK _ _ _ ?_
  clear hK hGp hGc hGh
  clear K Gp Gc Gh
  refine zb ?_
  exact zq (k+1,T++[[s]],qX (qh s.c) (I k) es rs,qp g s.c (some (k:Int)),v5+1) [_] ⟨hq,hTs,hnew,hIn⟩ (by simp;omega) (by simp [zt k (by omega)]) rfl (by simp;rfl)
 ·simp at hq
  obtain rfl:k=ss.length:=by omega
  rw [List.take_length] at hT hI
  refine zu ?_
  repeat apply za
  refine zb ?_
  refine zA (ZiL x ss) ?_
  refine zi (YE (xs:=(qv x (ss.map (·.c))).map QW) (σ:=zj × Int × List (Value × PV) × (Int->Option Int)) (fun i s=>(s.1,s.2.1)=Zn x ss i/\i<=(qv x (ss.map (·.c))).length/\MapIs qh I s.2.2.1 s.2.2.2/\JI ss s.1 s.2.2.2/\(ss.length:Int)-i<=s.2.1/\s.2.1<=ss.length) [(4,.ptr (nx+1) v1 0),(5,.ptr (nx+4) v4 0)] (fun _=>S)
   (fun (T,num,es,g)=>[.cells v0 25 (zv x),.cells v1 58 [.sc (.slice none 0 0)],.map v2 es,.cells v3 288 (YP x (nx+5) v5 ss.length num (nx+2) v2),.cells v4 285 [.ptr (nx+3) v3 0],.cells v5 31 (T.flatMap Enc.enc)]) (T,(ss.length:Int),es,g)
   (ZiM x ss hx (by omega) hs hnd) rfl (by intro x hx;obtain ⟨y,_,rfl⟩:=List.mem_map.1 hx;rfl) (by decide) (by simp) ⟨by rw [ZiO,hT],by simp,hm,hI,by simp,by simp⟩ rfl (by simp) (by simp) ?_ ?_)
  ·clear hm hI hT hTl
   rintro l i ⟨T,num,es,g⟩ more y ⟨hst,hi,hm,hI,hn1,hn2⟩ hy
   simp only at hst hi hm hI hn1 hn2 ⊢
   rw [List.getElem?_map] at hy
   obtain ⟨p,hp,rfl⟩:=Option.map_eq_some_iff.1 hy
   obtain ⟨hil,hpi⟩:=List.getElem?_eq_some_iff.1 hp
   have hmem:=QU.1 ((Z5 x _).subset (List.mem_of_getElem? hp))
   have hsucc:=ZiP hp
   rw [<-hst] at hsucc
   obtain ⟨nb1,nb2⟩:=ZiR x T num p
   refine z8 [] (by rfl) (by rfl) fun K Gc Gh hK hGc hGh X hX0 hX=>?_
   simp -implicitDefEqProofs [hX0,hX,QW]
   try clear hX0 hX X
   intro v6
   refine hK _ _ _ ?_
   clear hK hGc hGh
   clear K Gc Gh
   refine zi (z8 [] (by rfl) (by rfl) fun K Gc Gh hK hGc hGh X hX0 hX=>?_)
   simp -implicitDefEqProofs [hX0,hX]
   try clear hX0 hX X
   refine hGc _ _ _ _ _ _ _ fun hsuf=>((Zie x ss T g num es hxc hss (by omega) hI hm (jid:=nx+3) (tid:=nx+5) (mid:=nx+2) (by rw [yS];rfl) (by rw [yS];rfl) (by rw [yS];rfl) (by omega) (by omega) (by omega) p hmem.1 hmem.2.1).mono ?_).v
   rintro _ _ ⟨es2,g2,m2,i2,rfl⟩
   refine ⟨_,_,(by rw [qA _ (by omega) (by simp),qA _ (by omega) (by simp),qA _ (by omega) (by simp)]),?_⟩
   clear hGc hGh
   clear Gc Gh
   refine zW hsuf (D:=[]) (by rfl) fun Gc Gh hGc hGh X hX0 hX=>?_
   simp -implicitDefEqProofs [hX0,hX,(show nx+3-nx=3 from by omega),(show nx+5-nx=5 from by omega),(show nx+2-nx=2 from by omega)]
   clear hX0 hX X
   refine hK _ _ _ ?_
   clear hK hGc hGh
   clear K Gc Gh
   simp only [qz]
   exact xA ((qq x (T,num) p).1,(qq x (T,num) p).2,es2,g2) [_] ⟨hsucc.symm,by omega,m2,i2,by simp only;omega,by simp only;omega⟩ rfl (by simp;rfl)
  ·clear hm hI hT hTl
   rintro ⟨T,num,es,g⟩ ⟨hst,-,hm,hI,-,-⟩
   simp only [List.length_map] at hst hI ⊢
   rw [ZiQ] at hst
   have hTl:=hI.len
   have hjp:xD x ss=T.filter fun t=>!t.isEmpty:=by unfold xD;rw [<-hst]
   rw [hjp]
   refine za (zb ?_)
   intro v6
   refine y8 6 0 72 1 rfl rfl fun v7=>?_
   repeat apply za
   refine zb ?_
   refine zi (zB (fun s:Nat × zj × Nat=>s.1<=T.length/\s.2.1=(T.take s.1).filter fun t=>!t.isEmpty) (fun (k,out,v7)=>[(4,.ptr (nx+1) v1 0),(9,.ptr (nx+6) v6 0),(54,.sl (nx+5) v5 1 0 ss.length),(55,I ss.length),(56,I k)]) (fun (k,out,v7)=>[.cells v0 25 (zv x),.cells v1 58 [.sc (.slice none 0 0)],.map v2 es,.cells v3 288 (YP x (nx+5) v5 ss.length num (nx+2) v2),.cells v4 285 [.ptr (nx+3) v3 0],.cells v5 31 (T.flatMap Enc.enc),.cells v6 58 [.sl (nx+7) v7 1 0 out.length],.cells v7 72 (out.flatMap Enc.enc)]) (fun s=>T.length-s.1) (0,[],v7) [] ⟨by simp,by simp⟩ (by simp) (by simp) ?_)
   rintro ⟨k,out,v7⟩ ⟨hk,ho⟩
   simp only at hk ho ⊢
   have hol:out.length<=k:=by rw [ho];exact Nat.le_trans (List.length_filter_le _ _) (by simp;omega)
   refine za (zb ?_)
   refine za (zr rfl (fun hq=>?_) (fun hq=>?_))
   ·simp at hq
    obtain ⟨t,tl,a1,a2,a3,e0⟩:=zC rfl T k (by omega)
    have hfs:(T.take (k+1)).filter (fun t=>!t.isEmpty)=out++(if t=[] then [] else [t]):=by
     rw [a3,List.filter_append,<-ho]
     cases t<;>simp
    refine zh (za (zi (za (ze [] (zE e0 hq hTl) ?_))))
    refine za (zb ?_)
    cases t with
    | nil =>
     rw [if_pos rfl,List.append_nil] at hfs
     refine zo (by simp) ?_
     refine zh (zb ?_)
     exact zq (k+1,out,v7) [] ⟨by omega,hfs.symm⟩ (by simp;omega) (by simp [zt k (by omega)]) rfl (by simp)
    | cons s t =>
     rw [if_neg (by simp)] at hfs
     refine zm (by simp) ?_
     refine zb ?_
     refine ⟨by omega,?_⟩
     refine zb ?_
     exact zq (k+1,out++[s :: t],v7+1) [] ⟨by omega,hfs.symm⟩ (by simp;omega) (by simp [zt k (by omega)]) rfl (by simp)
   ·simp at hq
    obtain rfl:k=T.length:=by omega
    rw [List.take_length] at ho
    refine zu (zX 7 rfl ?_)
    refine za (zb ?_)
    exact zg (zk hd (by simp;rfl) (by simp [zp,ho]))
end Go.Proofs.YtcnbiofjmioaiaaGreat.Pv
