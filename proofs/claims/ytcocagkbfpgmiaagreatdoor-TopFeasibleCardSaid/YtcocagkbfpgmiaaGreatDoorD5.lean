/- Part of a proof, packed. -/
import Derived.Test.YtcocagkbfpgmiaaGreatDoorD4
open Go.Proofs.Tryz
set_option maxRecDepth 100000
set_option maxHeartbeats 3200000
namespace Go.Proofs.YtcocagkbfpgmiaaGreatDoor.Pv
open Go
theorem ZcP{q:List Int}(h:∀z∈q,0<=z/\z<=2147483648):∀k:Nat,k<=q.length->0<=(q.take k).sum/\(q.take k).sum<=2147483648*k:=by
 intro k
 induction k with
 | zero=>intro _;simp
 | succ k ih =>
  intro hk;have:=ih DQ;have hz:=h q[k] (A9 DQ);rw[AO DQ,Wx];omega
theorem Zp8(c:Cust)(q:List Int)(hc:CustFits c)(hq:q.length<=1048576):Pure prog 86 [.agg (zV c),L q] (.tup [L (yR c q).1,I (yR c q).2]):=by
 obtain⟨hr,hsz,hst⟩:=hc;refine zr func86 ntmps86 results86 λS nx hd=>?_
 refine D0 ?_;intro v0
 repeat apply za
 refine zb ?_;refine qa (nx:=nx) (σ:=Nat) (λv0=>q.any xS=false) (λv0=>[(1,L q),(2,.ptr nx v0 0)]) (λ_=>S) (λv0=>[.cells v0 87 (zV c)]) ?_ ?_
 ·refine zj (zC (λs:Nat=>s<=q.length/\(q.take s).any xS=false) (λk=>[(1,L q),(2,.ptr nx v0 0),(6,I k)]) (λ_=>[.cells v0 87 (zV c)]) (λs=>q.length-s) 0 [] DR DR DR ?_);rintro k ⟨hk,ho⟩
  repeat apply za
  refine zb ?_;refine zv rfl (λhc=>?_) (λhc=>?_)
  ·simp at hc;obtain⟨z,tl,a1,a2,a3,e0⟩:=zE rfl q k hc;have bad:xS z=true->yR c q=([],1):=λh=>by
    have:q.any xS=true:=by rw[BF];exact⟨z,Ab a1,h⟩
    simp[yR,this]
   refine zh (za (zj ?_))
   by_cases h1:z<0
   ·refine za (ze [(5,23)] (zJ e0 hc h1 zB) ?_);refine zk rfl (D0 ?_);refine uc 4 rfl ?_;exact zg (zi hd DT (by rw[bad (by simp[xS,h1])];rfl))
   by_cases h2:(2147483648:Int)<z
   ·refine za (ze [(5,23)] (zJ e0 hc h1 h2) ?_);refine zk rfl (D0 ?_);refine uc 4 rfl ?_;exact zg (zi hd DT (by rw[bad (by simp[xS,h2])];rfl))
   refine za (ze [(5,23)] (zJ e0 hc h1 h2) ?_);refine zm rfl (zh (zb ?_));exact zq (k+1) [] ⟨hc,by rw[a3,C7,ho];simp[xS];omega⟩ DQ (by simp[zu k (by omega)]) rfl DR
  ·simp at hc;obtain rfl:k=q.length:=DQ
   rw[Ai]at ho;exact zx (zS v0 [] ho DR rfl DR)
 ·intro v0 hb;have hq0:∀z∈q,0<=z/\z<=2147483648:=by
   intro z hz;rw[Ct]at hb;have:=hb z hz;simp[xS]at this;omega
  have hres:yR c q=match qm c.size c.rate c.start q with | none=>([],8) | some l=>(l,0):=by unfold yR;rw[hb];rfl
  refine D0 ?_;refine qt 7 3 1 rfl λv1=>?_
  repeat apply za
  refine zb ?_;refine zj (zC (λs:Nat × List Int × Nat=>s.1<=q.length/\s.2.1.length=s.1/\(0<=c.start+(q.take s.1).sum-c.rate*s.1/\c.start+(q.take s.1).sum-c.rate*s.1<=2147483648)/\qm c.size c.rate c.start q=(qm c.size c.rate (c.start+(q.take s.1).sum-c.rate*s.1) (q.drop s.1)).map (s.2.1++·))
   (λ(k,out,v1)=>[(1,L q),(2,.ptr nx v0 0),(7,.sl (nx+1) v1 1 0 out.length),(8,I k)])
   (λ(k,out,v1)=>[.cells v0 87 (zV c),.cells v1 3 (out.flatMap Enc.enc)]) (λs=>q.length-s.1) (0,[],v1) [] ?_ DR DR ?_)
  ·refine⟨by simp,by simp,by simpa using hst,?_⟩;simp
  rintro⟨k,out,v1⟩ ⟨hk,hol,hth,ho⟩;simp only at hk hol hth ho ⊢
  repeat apply za
  refine zb ?_;refine zv rfl (λhc=>?_) (λhc=>?_)
  ·simp at hc;obtain⟨z,tl,a1,a2,a3,e0⟩:=zE rfl q k hc;have hz:=hq0 z (Ab a1);have hst1:=ZcP hq0 k hk;have hst2:=ZcP hq0 (k+1) hc;have hsum:(q.take (k+1)).sum=(q.take k).sum+z:=by rw[a3,Wx]
   have hrk:0<=c.rate*k/\c.rate*k<=2147483648*1048576:=⟨DF hr.1 DQ,DG hr.2 DQ DQ DQ⟩;rw[a2]at ho;refine zh (za (zj (D0 ?_)))
   repeat apply za
   refine zb ?_;refine qa (nx:=nx) (σ:=Nat) (λ_=>True) (λv1=>[(1,L q),(2,.ptr nx v0 0),(7,.sl (nx+1) v1 1 0 out.length),(8,I k),(9,I (c.start+(q.take (k+1)).sum))]) (λ_=>S) (λv1=>[.cells v0 87 (zV c),.cells v1 3 (out.flatMap Enc.enc)]) ?_ ?_
   ·refine zj (zC (λs:Nat=>s<=k+1) (λj=>[(1,L q),(2,.ptr nx v0 0),(7,.sl (nx+1) v1 1 0 out.length),(8,I k),(9,I (c.start+(q.take j).sum)),(10,I j)]) (λ_=>[.cells v0 87 (zV c),.cells v1 3 (out.flatMap Enc.enc)]) (λs=>k+1-s) 0 [] DR DR DR ?_);rintro j hj
    repeat apply za
    refine zb ?_;refine zv rfl (λhc2=>?_) (λhc2=>?_)
    ·simp at hc2;obtain⟨y,tl2,b1,b2,b3,e2⟩:=zE rfl q j DQ;have hsj:=ZcP hq0 (j+1) DQ;have hjq:j<q.length:=DQ
     have hsum2:c.start+(q.take j).sum+y=c.start+(q.take (j+1)).sum:=by rw[b3,Wx];omega
     have w1:IntKind.i64.wrap (c.start+(q.take (j+1)).sum)=c.start+(q.take (j+1)).sum:=wr _ DQ DQ;refine zh (za (zj (ze [] (zJ e2 hjq hsum2 w1) ?_)));refine zb ?_;exact zq (j+1) [] DQ DQ (by simp[zu j (by omega)]) rfl DR
    ·simp at hc2;obtain rfl:j=k+1:=DQ
     exact zx (zS v1 [] trivial DR rfl DR)
   ·intro v1 _;have w1:IntKind.i64.wrap (c.rate*(k:Int))=c.rate*(k:Int):=wr _ DQ DQ;have hbe:c.start+(q.take (k+1)).sum-c.rate*(k:Int)=(c.start+(q.take k).sum-c.rate*(k:Int))+z:=DQ
    generalize hth':c.start+(q.take k).sum-c.rate*(k:Int)=there at hth ho hbe;have w2:IntKind.i64.wrap (there+z)=there+z:=wr _ DQ DQ;have w3:IntKind.i64.wrap (there+z-c.rate)=there+z-c.rate:=wr _ DQ DQ;have bad:(c.size<there+z\/there+z<c.rate)->yR c q=([],8):=λh=>by
     rw[hres,ho];simp only[qm,if_pos h,Option.map_none]
    refine za (ze [] (zA w1 hbe w2) ?_)
    by_cases h1:c.size<there+z
    ·repeat apply za
     refine ze [(4,59)] (zo h1 zB) ?_;refine zk rfl (D0 ?_);refine uc 4 rfl ?_;exact zg (zi hd DT (by rw[bad (.inl h1)];rfl))
    by_cases h2:there+z-c.rate<0
    ·repeat apply za
     refine ze [(4,59)] (zA h1 h2 w3) ?_;refine zk rfl (D0 ?_);refine uc 4 rfl ?_;exact zg (zi hd DT (by rw[bad (.inr DQ)];rfl))
    repeat apply za
    refine ze [(4,59)] (zA h1 h2 w3) ?_;refine zm rfl (zh (ze [] w3 ?_));refine⟨by omega,?_⟩;refine zb ?_;have hnext:c.start+(q.take (k+1)).sum-c.rate*((k+1:Nat):Int)=there+z-c.rate:=by
     have:c.rate*((k+1:Nat):Int)=c.rate*(k:Int)+c.rate:=by rw[show ((k+1:Nat):Int)=(k:Int)+1 by omega,DK,Int.mul_one]
     omega
    exact zq (k+1,out++[there+z-c.rate],v1+1) [] ⟨hc,by simp[hol],by dsimp only;rw[hnext];omega,by dsimp only;rw[hnext];exact Zg7 ho h1 DQ⟩ DV (by simp[zu k (by omega)]) rfl DR
  ·simp at hc;obtain rfl:k=q.length:=DQ
   rw[Bn]at ho;simp only[qm,AZ,AD]at ho;refine zx (D0 ?_);refine zZ 1 rfl ?_;exact zg (zi hd DT (by rw[hres,ho];simp[zn]))
theorem Zhb{size rate:Int}:∀{q:List Int} {there:Int} {l:List Int},qm size rate there q=some l->l.length=q.length:=by
 intro q
 induction q with
 | nil=>intro there l h;simp only[qm,Option.some.injEq]at h;subst h;rfl
 | cons z q ih =>
  intro there l h;simp only[qm]at h;split at h
  ·cases h
  ·obtain⟨l2,h2,rfl⟩:=Ao.1 h;simp[ih h2]
theorem Zp9{size rate:Int}:∀{q:List Int} {there:Int} {l:List Int},qm size rate there q=some l->∀n∈l,n+rate<=size/\0<=n:=by
 intro q
 induction q with
 | nil=>intro there l h;simp only[qm,Option.some.injEq]at h;subst h;intro n hn;cases hn
 | cons z q ih =>
  intro there l h;simp only[qm]at h;split at h
  ·cases h
  ·obtain⟨l2,h2,rfl⟩:=Ao.1 h;intro n hn;rcases As.1 hn with rfl | hn
   ·omega
   ·exact ih h2 n hn
theorem Zqa(c:Cust)(q:List Int)(hc:CustFits c)(hq:q.length<=1048576):Pure prog 96 [.agg (zV c),L q] (I (wF c q)):=by
 have hni:=Zp8 c q hc hq;obtain⟨hr,hsz,hst⟩:=hc;refine zr func96 ntmps96 results96 λS nx hd=>?_
 refine D0 ?_;intro v0;refine D0 ?_;refine zt hni ?_
 by_cases he:(yR c q).2=0
 case neg =>
  repeat apply za
  refine ze [] he ?_;refine zk (by simp[he]) ?_;refine D0 ?_;exact zg (zi hd DT (by simp[wF,he,zn]))
 repeat apply za
 refine ze [] he ?_;refine zm (by simp[he]) ?_;refine zh ?_;have hres:wF c q=if c.rule≠1 then 0 else if wE c.rate c.size q (yR c q).1 then 9 else 0:=by simp[wF,he]
 obtain⟨l,hl,hl1⟩:∃l,qm c.size c.rate c.start q=some l/\(yR c q).1=l:=by
  unfold yR at he ⊢;split at he
  ·simp at he
  ·rename_i hb;cases hrn:qm c.size c.rate c.start q with
   | none=>simp[hrn]at he
   | some l=>exact⟨l,rfl,by simp[hb]⟩
 rw[hl1]at hres ⊢;have hll:=Zhb hl
 repeat apply za
 refine zb ?_;refine zj (zC (λs:Nat=>s<=q.length/\(c.rule=1->wE c.rate c.size q l=wE c.rate c.size (q.drop s) (l.drop s)))
  (λk=>[(1,L q),(2,.ptr nx v0 0),(5,L l),(7,I k)]) (λk=>[.cells v0 87 (zV c)]) (λs=>q.length-s) 0 [] ⟨by simp,by simp⟩ DR DR ?_)
 rintro k ⟨hk,ho⟩
 repeat apply za
 refine zb ?_;refine zv rfl (λhc=>?_) (λhc=>?_)
 ·simp at hc;obtain⟨z,tl,a1,a2,a3,e0⟩:=zE rfl q k hc;obtain⟨n,tl2,b1,b2,b3,e2⟩:=zE rfl l k DQ;have hkl:k<l.length:=DQ
  have hnl:=Zp9 hl n (Ab b1);rw[a2,b2]at ho;simp only[wE]at ho;have w1:IntKind.i64.wrap (n+c.rate)=n+c.rate:=wr _ DQ DQ;refine zh (za (zj ?_))
  by_cases h0:c.rule=1
  ·have ho:=ho h0
   by_cases h1:0<z
   ·by_cases h2:n+c.rate=c.size
    ·have w4:IntKind.i64.wrap c.size=c.size:=wr _ DQ DQ;refine za (zz (some [nx]) (Row.pures [0,1,2,3,4,5,6,7,8,9,10,11,12,13,14,15,16,17,18,19,20,21] .done) mixed (zP e0 e2 hc hkl h0 (zA h1 h2 w4)) ?_);refine zm DR ?_;refine zh (zb ?_);exact zq (k+1) [] ⟨hc,λ_=>by rw[ho,decide_eq_false DQ,Dm]⟩ DQ (by simp[zu k (by omega)]) rfl DR
    ·refine za (zz (some [nx]) (Row.pures [0,1,2,3,4,5,6,7,8,9,10,11,12,13,14,15,16,17,18,19,20,21] .done) mixed (zP e0 e2 hc hkl h0 (zA h1 w1 h2)) ?_);refine zk (by simp[h2]) ?_;refine D0 ?_;exact zg (zi hd DT (by rw[hres,ho];simp[h0,h1,h2,zn]))
   ·refine za (zz (some [nx]) (Row.pures [0,1,2,3,4,5,6,7,8,9,10,11,12,13,14,15,16,17,18,19,20,21] .done) mixed (zP e0 e2 hc hkl h0 (zo h1 zB)) ?_);refine zm DR ?_;refine zh (zb ?_);exact zq (k+1) [] ⟨hc,λ_=>by rw[ho,decide_eq_false DQ,Dm]⟩ DQ (by simp[zu k (by omega)]) rfl DR
  ·refine za (zz (some [nx]) (Row.pures [0,1,2,3,4,5,6,7,8,9,10,11,12,13,14,15,16,17,18,19,20,21] .done) mixed (zo h0 zB) ?_);refine zm DR ?_;refine zh (zb ?_);exact zq (k+1) [] ⟨hc,λq=>absurd q h0⟩ DQ (by simp[zu k (by omega)]) rfl DR
 ·simp at hc;obtain rfl:k=q.length:=DQ
  rw[Bn]at ho;simp only[wE]at ho;refine zx (D0 ?_);exact zg (zi hd DT (by rw[hres];by_cases h0:c.rule=1;simp[h0,ho h0,zn];simp[h0,zn]))
open Go
def Wy(v:List Visit)(k:Nat):List Int:=(List.range k).map λ(d:Nat)=>((v.filter λs=>decide (s.d=(d:Int))).map (·.q)).sum
theorem Zqb(v:List Visit)(n:Int)(hv:VisOk v):Pure prog 87 [L v,I n] (L (yt v n)):=by
 have hvn:=hv.n;have hres:yt v n=Wy v (min (max n 0) 64).toNat:=rfl;rw[hres];refine zr func87 ntmps87 results87 λS nx hd=>?_
 refine D0 ?_
 repeat apply za
 refine zb ?_;refine qa (nx:=nx) (σ:=Unit) (λ_=>True) (λ_=>[(0,L v),(1,I (min n 64))]) (λ_=>S) (λ_=>[]) ?_ ?_
 ·by_cases h:(64:Int)<n
  ·refine zk (by simp[h]) ?_;refine zb ?_;exact zS () [] trivial DV rfl DR
  ·refine zm DV ?_;exact zh (zS () [] trivial DV rfl DR)
 intro _ _;generalize hm:(min (max n 0) 64).toNat=m;have hm64:m<=64:=DQ
 have hcmp:∀k:Nat,((k:Int)<min n 64)=(k<m):=λk=>propext ⟨λh=>by omega,λh=>by omega⟩
 refine D0 ?_;refine qt 5 3 1 rfl λv1=>?_
 repeat apply za
 refine zb ?_;refine zj (zC (λs:Nat × List Int × Nat=>s.1<=m/\s.2.1=Wy v s.1) (λ(k,out,v1)=>[(0,L v),(1,I (min n 64)),(5,.sl nx v1 1 0 out.length),(6,I k)]) (λ(k,out,v1)=>[.cells v1 3 (out.flatMap Enc.enc)]) (λs=>m-s.1) (0,[],v1) [] (by simp[Wy]) DR DR ?_);rintro⟨k,out,v1⟩ ⟨hk,ho⟩;simp only at hk ho ⊢;have hol:out.length=k:=by rw[ho];simp[Wy]
 by_cases hc:k<m
 ·repeat apply za
  refine ze [] (zo hcmp hc) ?_;refine zk DR ?_;refine zh (za (zj (D0 ?_)))
  repeat apply za
  refine zb ?_;refine qa (nx:=nx) (σ:=Nat) (λ_=>True) (λv1=>[(0,L v),(1,I (min n 64)),(5,.sl nx v1 1 0 out.length),(6,I k),(7,I ((v.filter λs=>decide (s.d=(k:Int))).map (·.q)).sum)]) (λ_=>S) (λv1=>[.cells v1 3 (out.flatMap Enc.enc)]) ?_ ?_
  ·refine zj (zC (λs:Nat=>s<=v.length) (λj=>[(0,L v),(1,I (min n 64)),(5,.sl nx v1 1 0 out.length),(6,I k),(7,I (((v.take j).filter λs=>decide (s.d=(k:Int))).map (·.q)).sum),(8,I j)]) (λ_=>[.cells v1 3 (out.flatMap Enc.enc)]) (λs=>v.length-s) 0 [] DR DR DR ?_);rintro j hj
   repeat apply za
   refine zb ?_;refine zv rfl (λhc2=>?_) (λhc2=>?_)
   ·simp at hc2;obtain⟨s,tl,a1,a2,a3,e1,e0⟩:=el 2 rfl v j hc2;have hsq:=hv.q s (Ab a1);have hlj:(v.take j).length<=1048576:=DV
    have hle:=Zg9 (v.take j) (λs=>decide (s.d=(k:Int))) (λx hx=>hv.q x (Bl hx));have e11:=e1 1 DQ;refine zh (za (zj ?_))
    by_cases h:s.d=(k:Int)
    ·have hsum:(((v.take j).filter λs=>decide (s.d=(k:Int))).map (·.q)).sum+s.q=(((v.take (j+1)).filter λs=>decide (s.d=(k:Int))).map (·.q)).sum:=by rw[a3];simp[h]
     refine za (ze [] (zA e0 hc2 h) ?_);refine zk DR ?_;refine ze [] (zo e11 hc2) ?_;refine zt (Zp7 _ _ hle.1 hsq.1 DQ) ?_;refine zb ?_;exact zq (j+1) [] hc2 DQ (by simp[zu j (by omega)];exact hsum) rfl DR
    ·have hsum:(((v.take j).filter λs=>decide (s.d=(k:Int))).map (·.q)).sum=(((v.take (j+1)).filter λs=>decide (s.d=(k:Int))).map (·.q)).sum:=by rw[a3];simp[h]
     refine za (ze [] (zA e0 hc2 h) ?_);refine zm DR ?_;refine zh (zb ?_);exact zq (j+1) [] hc2 DQ (by simp[zu j (by omega)];exact hsum) rfl DR
   ·simp at hc2;obtain rfl:j=v.length:=DQ
    rw[Ai];exact zx (zS v1 [] trivial DR rfl DR)
  ·intro v1 _;refine zb ?_;refine⟨by omega,?_⟩;refine zb ?_;exact zq (k+1,out++[((v.filter λs=>decide (s.d=(k:Int))).map (·.q)).sum],v1+1) [] ⟨hc,by rw[ho];simp[Wy,AK]⟩ DV (by simp[zu k (by omega)]) rfl DR
 ·obtain rfl:k=m:=DQ
  repeat apply za
  refine ze [] hcmp ?_;refine zm DR ?_;refine zx (D0 ?_);refine zZ 0 rfl ?_;exact zg (zi hd DT (by rw[ho];simp[zn]))
theorem Zhc(p:zF)(c:Int)(hp:PlanOk p):Pure prog 55 [.agg [L p],I c] (L (yd c (told 0 p))):=by
 have hlen:=hp.told;have ol:∀pre rest,told 0 p=pre++rest->(yd c pre).length<=1048576:=λpre rest e=>by
  have:=ZcI c pre;have:=congrArg List.length e;simp at this;omega
 refine zr func55 ntmps55 results55 λS nx hd=>?_
 refine D0 ?_;intro v0;refine D0 ?_;refine za (qt 5 104 2 rfl λv1=>?_);refine D0 ?_;refine zj (zC (λs:Nat × List (Stop × Nat) × Nat=>s.1<=p.length/\told 0 p=s.2.1++told s.1 (p.drop s.1)) (λ(a,pre,v1)=>[(1,I c),(2,.ptr nx v0 0),(5,.sl (nx+1) v1 2 0 (yd c pre).length),(6,I a)]) (λ(a,pre,v1)=>[.cells v0 30 [L p],.cells v1 104 ((yd c pre).flatMap Enc.enc)]) (λs=>p.length-s.1) (0,[],v1) [] DR (by simp[yd]) (by simp[yd]) ?_);rintro⟨a,pre,v1⟩ ⟨ha,hr⟩;simp only at ha hr ⊢;have hpn:=hp.n
 repeat apply za
 refine zb ?_;refine zv rfl (λhc=>?_) (λhc=>?_)
 ·simp at hc;obtain⟨d,tl,a1,a2,a3,e0⟩:=zE rfl p a hc;have hdm:=Ab a1;have hdl:=hp.d d hdm;rw[a2]at hr;simp only[told]at hr;refine zh (za (zj (D0 ?_)));refine zj (zC (λs:Nat × List (Stop × Nat) × Nat=>s.1<=d.length/\told 0 p=s.2.1++((d.drop s.1).flatten.map (·,a)++told (a+1) (p.drop (a+1)))) (λ(b,pre,v1)=>[(1,I c),(2,.ptr nx v0 0),(5,.sl (nx+1) v1 2 0 (yd c pre).length),(6,I a),(7,I b)]) (λ(b,pre,v1)=>[.cells v0 30 [L p],.cells v1 104 ((yd c pre).flatMap Enc.enc)]) (λs=>d.length-s.1) (0,pre,v1) [] (by simp[hr]) DR DR ?_);rintro⟨b,pre,v1⟩ ⟨hb,hr⟩;simp only at hb hr ⊢
  repeat apply za
  refine ze [] (zo e0 hc) ?_;refine zv rfl (λhc2=>?_) (λhc2=>?_)
  ·simp at hc2;obtain⟨t,tl2,b1,b2,b3,e2⟩:=zE rfl d b hc2;have htl:=hp.t d hdm t (Ab b1);rw[b2]at hr;simp only[Bx,List.map_append,List.append_assoc]at hr;refine zh (za (zj (za (ze [] (zJ e0 hc e2 hc2) ?_))));refine D0 ?_;refine zj (zC (λs:Nat × List (Stop × Nat) × Nat=>s.1<=t.length/\told 0 p=s.2.1++((t.drop s.1).map (·,a)++((d.drop (b+1)).flatten.map (·,a)++told (a+1) (p.drop (a+1))))) (λ(j,pre,v1)=>[(1,I c),(2,.ptr nx v0 0),(5,.sl (nx+1) v1 2 0 (yd c pre).length),(6,I a),(7,I b),(8,L t),(9,I j)]) (λ(j,pre,v1)=>[.cells v0 30 [L p],.cells v1 104 ((yd c pre).flatMap Enc.enc)]) (λs=>t.length-s.1) (0,pre,v1) [] (by simp[hr]) DR DR ?_);rintro⟨j,pre,v1⟩ ⟨hj,hr⟩;simp only at hj hr ⊢
   repeat apply za
   refine zb ?_;refine zv rfl (λhc3=>?_) (λhc3=>?_)
   ·simp at hc3;obtain⟨s,tl3,c1,c2,c3,e4,e3⟩:=el 2 rfl t j hc3;have e31:=e4 1 DQ;rw[c2]at hr;simp only[AA,List.cons_append]at hr;have hl:=ol pre _ hr;refine zh (za (zj ?_))
    by_cases h:s.c=c
    ·refine za (ze [] (zA e3 hc3 h) ?_);refine zk DR ?_;refine ze [] (zo e31 hc3) ?_;refine⟨by omega,?_⟩;refine zb ?_;exact zq (j+1,pre++[(s,a)],v1+1) [] ⟨hc3,by simp[hr]⟩ DV (by simp[zu j (by omega),Qr,Jh,h]) rfl (by simp[Qr,Jh,h])
    ·refine za (ze [] (zA e3 hc3 h) ?_);refine zm DR ?_;refine zh (zb ?_);exact zq (j+1,pre++[(s,a)],v1) [] ⟨hc3,by simp[hr]⟩ DV (by simp[zu j (by omega),Qr,Jh,h]) rfl (by simp[Qr,Jh,h])
   ·simp at hc3;obtain rfl:j=t.length:=DQ
    simp only[Bn,Bk,AN]at hr;refine zx (zb ?_);exact zq (b+1,pre,v1) [] ⟨hc2,hr⟩ DV (by simp[zu b (by omega)]) rfl DR
  ·simp at hc2;obtain rfl:b=d.length:=DQ
   simp only[Bn,Dr,Bk,AN]at hr;refine zx (zb ?_);exact zq (a+1,pre,v1) [] ⟨hc,hr⟩ DV (by simp[zu a (by omega)]) rfl DR
 ·simp at hc;obtain rfl:a=p.length:=DQ
  simp only[Bn,told,AD]at hr;refine zx (D0 ?_);refine zZ 1 rfl ?_;exact zg (zi hd DT (by rw[hr];simp[zn]))
open Go
theorem Zqc(n d:Nat):((n:Int).fdiv (2 ^ d))=((n / 2 ^ d:Nat):Int):=by
 have h:(2:Int) ^ d=((2 ^ d:Nat):Int):=DR
 rw[h,Int.fdiv_eq_ediv_of_nonneg _ (Int.natCast_nonneg _)];rfl
theorem Zqd(n:Nat)(d:Int)(hn:n<2 ^ 64):Pure prog 297 [U n,I d] (B (decide (0<=d/\d<64/\yF n d.toNat=1))):=by
 by_cases h:0<=d/\d<64
 ·have h1:¬d<0:=DQ
  have h2:min d.toNat 64=d.toNat:=DQ
  have hlt:n / 2 ^ d.toNat<=n:=Nat.div_le_self _ _;have h3:=Zqc n d.toNat;have hb:yF n d.toNat=n / 2 ^ d.toNat % 2:=rfl;generalize n / 2 ^ d.toNat=m at hlt h3 hb;have h4:=and_one_u64 (m:Int) DQ DQ;have h5:IntKind.u64.wrap (m:Int)=(m:Int):=by
   simp only[IntKind.wrap,IntKind.bits,IntKind.signed];simp;omega
  have h6:((m:Int) % 2=1)=(yF n d.toNat=1):=by rw[hb];exact propext ⟨λq=>by omega,λq=>by omega⟩
  refine zr func297 ntmps297 results297 λS nx hd=>?_
  refine D0 ?_;refine za (xk [(2,7)] DW DW λK Gc Gh hK hGc hGh X hX0 hX=>?_);simp -implicitDefEqProofs [hX0,hX]
  try clear hX0 hX X
  refine hGc _ _ _ _ _ _ _ λhsuf=>((ZcK d _).mono ?_).v
  rintro _ _ ⟨rfl,rfl⟩;refine⟨_,_,rfl,?_⟩;clear hGc hGh;clear Gc Gh;refine xN hsuf (D:=[(2,7)]) DW λGc Gh hGc hGh X hX0 hX=>?_
  simp -implicitDefEqProofs [hX0,hX,h,h1,h2,h3,h5,h4,IntKind.bits]
  try clear hX0 hX X
  refine hK _ _ _ ?_;clear hK hGc hGh;clear K Gc Gh;exact zg (zi hd DT (by simp[h,zn,h6]))
 ·refine zr func297 ntmps297 results297 λS nx hd=>?_
  refine D0 ?_;refine za (ze [(2,7)] trivial ?_);refine qi [(2,7)] (ZcK d) (zo h zB) ?_;have h7:¬(0<=d/\d<64/\yF n d.toNat=1):=λq=>h ⟨q.1,q.2.1⟩
  exact zg (zi hd DT (by simp only[h7,zn,decide_false]))
def yy(n a k:Nat):List Int:=((List.range k).filter λi=>decide (a<=i) && decide (yF n i=1)).map λ(i:Nat)=>(i:Int)
theorem Qx(n a k:Nat):(yy n a k).length<=k:=by
 simp only[yy,List.length_map];exact AB (BE _ _) DR
theorem Zhd(n a k:Nat)(h:a<=k):yy n a (k+1)=yy n a k++(if yF n k=1 then [(k:Int)] else []):=by
 simp only[yy,AK,B1,List.map_append]
 by_cases q:yF n k=1<;>simp[q,h]
theorem ZcQ(n a k:Nat)(h:k<=a):yy n a k=[]:=by
 simp only[yy,List.map_eq_nil_iff,Ca,AL];intro i hi;simp;omega
theorem Zhe(n:Nat)(d:Int)(hn:n<2 ^ 64)(hdl:d<=1000):Pure prog 296 [.fn (.func 297) [U n] [],I d] (L (yy n d.toNat 64)):=by
 have hmax:jk d 0=((d.toNat:Nat):Int):=by unfold jk;split<;>omega
 have h64:yy n d.toNat (max d.toNat 64)=yy n d.toNat 64:=by
  by_cases q:d.toNat<=64
  ·rw[Nat.max_eq_right q]
  ·rw[Nat.max_eq_left DQ,ZcQ _ _ _ (Ag _),ZcQ _ _ _ DQ]
 have ha:d.toNat<=1000:=DQ
 have main:∀a:Nat,a<=1000->yy n a (max a 64)=yy n d.toNat 64->jk d 0=(a:Int)->Pure prog 296 [.fn (.func 297) [U n] [],I d] (L (yy n d.toNat 64)):=by
  intro a ha h64 hmax;refine zr func296 ntmps296 results296 λS nx hd=>?_
  refine D0 ?_;refine D0 ?_;refine za (qt 5 3 1 rfl λv1=>?_);refine za (ze [] hmax ?_);refine zj (zC (λs:Nat × List Int × Nat=>a<=s.1/\s.1<=max a 64/\s.2.1=yy n a s.1) (λ(k,out,v1)=>[(0,.fn (.func 297) [U n] []),(5,.sl nx v1 1 0 out.length),(6,I k)]) (λ(k,out,v1)=>[.cells v1 3 (out.flatMap Enc.enc)]) (λs=>max a 64-s.1) (a,[],v1) [] (by simp[ZcQ];omega) DR DR ?_);rintro⟨k,out,v1⟩ ⟨hk0,hk,ho⟩;simp only at hk0 hk ho ⊢;have hol:out.length<=k:=by rw[ho];exact Qx _ _ _
  repeat apply za
  refine zb ?_;refine zv rfl (λhc=>?_) (λhc=>?_)
  ·simp at hc;have hc':k<64:=DQ
   refine zh (za (zj (D0 ?_)));refine zt (Zqd n k hn) ?_;have hs:=Zhd n a k hk0;refine zv rfl (λhb=>?_) (λhb=>?_)
   ·simp at hb;refine zb ?_;refine⟨by omega,?_⟩;refine zb ?_;exact zq (k+1,out++[(k:Int)],v1+1) [] ⟨by omega,by omega,by rw[hs,if_pos hb.2,ho]⟩ DV (by simp[zu k (by omega)]) rfl DR
   ·have hb':¬yF n k=1:=by simp at hb;exact hb DQ
    refine zh (zb ?_);exact zq (k+1,out,v1) [] ⟨by omega,by omega,by rw[hs,if_neg hb',ho];simp⟩ DV (by simp[zu k (by omega)]) rfl DR
  ·simp at hc;obtain rfl:k=max a 64:=DQ
   refine zx (D0 ?_);refine zZ 0 rfl ?_;exact zg (zi hd DT (by simp[ho,h64,zn]))
 exact main d.toNat ha h64 hmax
def wH(n:Nat)(d:Int):Int:=(yy n d.toNat 64).headD (-1)
theorem Zqe(n:Nat)(d:Int)(hn:n<2 ^ 64)(hdl:d<=1000):Pure prog 261 [U n,I d] (I (wH n d)):=by
 have hlen:=Qx n d.toNat 64;refine zr func261 ntmps261 results261 λS nx hd=>?_
 refine D0 ?_;refine D0 ?_;refine zt (Zhe n d hn hdl) ?_;unfold wH;generalize yy n d.toNat 64=l at hlen ⊢;cases l with
 | nil =>
  repeat apply za
  refine zb ?_;refine zk rfl (D0 ?_);exact D1 hd
 | cons a l =>
  have h1:¬((l.length:Int)+1=0):=DQ
  repeat apply za
  refine ze [] h1 ?_;refine zm rfl (zh ?_);have h2:(0:Int)<(l.length:Int)+1:=DQ
  refine za (ze [] h2 ?_);exact D1 hd
open Go
def zM(n lo hi:Int):Bool:=decide (lo<=n/\n<=hi)
theorem uO(n lo hi:Int):Pure prog 145 [I n,I lo,I hi] (B (zM n lo hi)):=by
 refine zr func145 ntmps145 results145 λS nx hd=>?_
 refine D0 ?_
 by_cases h:lo<=n
 ·refine za (ze [(3,10)] h ?_);exact zg (zi hd DT (by simp[zM,h,zn]))
 ·refine za (ze [(3,10)] (zo h zB) ?_);exact zg (zi hd DT (by simp[zM,h,zn]))
abbrev uP(c:Cust)(days:Int):List PV:=[I c.kind,I c.demand,L c.pats,I c.rate,I c.size,I c.start,I c.rule,I c.hold,I days]
def vN(c:Cust)(days:Int):Bool:=(c.pats.all λp=>decide (wH p days<0)) && zM c.pats.length 1 64
def xx(c:Cust):Bool:=decide (c.rate=0/\c.size=0/\c.start=0/\c.rule=0/\c.hold=0)
def vO(c:Cust):Bool:=decide (c.rule=1\/c.rule=2)
def uo(c:Cust):Bool:=decide (c.pats.length=0/\c.demand=0)
theorem Zqf(c:Cust)(d:Int):Pure prog 227 [.agg (uP c d)] (B (zM c.demand 1 2147483648)):=by
 refine zr func227 ntmps227 results227 λS nx hd=>?_
 refine D0 ?_;intro v0;refine D0 ?_;refine zt (uO _ _ _) ?_;exact D1 hd
theorem Zqg(c:Cust)(d:Int):Pure prog 230 [.agg (uP c d)] (B (zM c.rate 0 2147483648)):=by
 refine zr func230 ntmps230 results230 λS nx hd=>?_
 refine D0 ?_;intro v0;refine D0 ?_;refine zt (uO _ _ _) ?_;exact D1 hd
theorem Zqh(c:Cust)(d:Int):Pure prog 231 [.agg (uP c d)] (B (zM c.size 1 2147483648)):=by
 refine zr func231 ntmps231 results231 λS nx hd=>?_
 refine D0 ?_;intro v0;refine D0 ?_;refine zt (uO _ _ _) ?_;exact D1 hd
theorem Zqi(c:Cust)(d:Int):Pure prog 232 [.agg (uP c d)] (B (zM c.start 0 c.size)):=by
 refine zr func232 ntmps232 results232 λS nx hd=>?_
 refine D0 ?_;intro v0;refine D0 ?_;refine zt (uO _ _ _) ?_;exact D1 hd
theorem Zqj(c:Cust)(d:Int):Pure prog 234 [.agg (uP c d)] (B (zM c.hold 0 1024)):=by
 refine zr func234 ntmps234 results234 λS nx hd=>?_
 refine D0 ?_;intro v0;refine D0 ?_;refine zt (uO _ _ _) ?_;exact D1 hd
theorem Zqk(c:Cust)(d:Int):Pure prog 233 [.agg (uP c d)] (B (vO c)):=by
 refine zr func233 ntmps233 results233 λS nx hd=>?_
 refine D0 ?_;intro v0
 by_cases h:c.rule=1
 ·refine za (ze [(4,7)] (zo h zB) ?_);exact zg (zi hd DT (by simp[vO,h,zn]))
 ·refine za (ze [(4,7)] h ?_);exact zg (zi hd DT (by simp[vO,h,zn]))
theorem Zql(c:Cust)(d:Int):Pure prog 235 [.agg (uP c d)] (B (uo c)):=by
 refine zr func235 ntmps235 results235 λS nx hd=>?_
 refine D0 ?_;intro v0
 by_cases h:c.pats=[]
 ·refine za (ze [(5,8)] h ?_);exact zg (zi hd DT (by simp[uo,h,zn]))
 ·refine za (ze [(5,8)] (zo h zB) ?_);exact zg (zi hd DT (by simp[uo,h,zn]))
theorem Zqm(c:Cust)(d:Int):Pure prog 229 [.agg (uP c d)] (B (xx c)):=by
 refine zr func229 ntmps229 results229 λS nx hd=>?_
 refine D0 ?_;intro v0
 by_cases h1:c.rate=0
 ·by_cases h2:c.size=0
  ·by_cases h3:c.start=0
   ·by_cases h4:c.rule=0
    ·refine za (ze [(4,7),(10,13),(16,19),(22,25)] (zJ h1 h2 h3 h4) ?_);exact zg (zi hd DT (by simp[xx,h1,h2,h3,h4,zn]))
    ·refine za (ze [(4,7),(10,13),(16,19),(22,25)] (yv h1 h2 h3 h4 zB) ?_);exact zg (zi hd DT (by simp[xx,h4,zn]))
   ·refine za (ze [(4,7),(10,13),(16,19),(22,25)] (zJ h1 h2 h3 zB) ?_);exact zg (zi hd DT (by simp[xx,h3,zn]))
  ·refine za (ze [(4,7),(10,13),(16,19),(22,25)] (zA h1 h2 zB) ?_);exact zg (zi hd DT (by simp[xx,h2,zn]))
 ·refine za (ze [(4,7),(10,13),(16,19),(22,25)] (zo h1 zB) ?_);exact zg (zi hd DT (by simp[xx,h1,zn]))
theorem Zqn(c:Cust)(d:Int)(hp:∀p∈c.pats,p<2 ^ 64)(hl:c.pats.length<=9223372036854775807)(hdl:d<=1000):Pure prog 228 [.agg (uP c d)] (B (vN c d)):=by
 refine zr func228 ntmps228 results228 λS nx hd=>?_
 refine D0 ?_;intro v0
 repeat apply za
 refine zb ?_;refine zj (zC (λs:Nat=>s<=c.pats.length/\∀p∈c.pats.take s,wH p d<0) (λk=>[(1,.ptr nx v0 0),(7,L c.pats),(8,I c.pats.length),(9,I k)]) (λk=>[.cells v0 207 (uP c d)]) (λs=>c.pats.length-s) 0 [] DR DR DR ?_);rintro k ⟨hk,ho⟩;simp only at hk ho ⊢;refine D0 ?_;refine za (zv rfl (λhc=>?_) (λhc=>?_))
 ·simp at hc;obtain⟨p,tl,a1,a2,a3,e0⟩:=zE rfl c.pats k hc;have hpm:=Ab a1;refine zh (za (zj (za (ze [] (zo e0 hc) ?_))));refine D0 ?_;refine zt (Zqe p d (hp p hpm) hdl) ?_;refine zv rfl (λh=>?_) (λh=>?_)
  ·simp at h;have hres:vN c d=false:=by
    have:(c.pats.all λp=>decide (wH p d<0))=false:=by
     rw[Bm];exact⟨p,hpm,by simp;omega⟩
    simp[vN,this]
   refine D0 ?_;exact zg (zi hd DT (by simp[hres,zn]))
  ·simp at h;refine zh (zb ?_);exact zq (k+1) [] ⟨hc,by rw[a3];intro q hq;rcases Ay.1 hq with hq | hq;exact ho q hq;rw[AY.1 hq];exact h⟩ DQ (by simp[zu k (by omega)]) rfl DR
 ·simp at hc;obtain rfl:k=c.pats.length:=DQ
  rw[Ai]at ho;have hres:vN c d=zM c.pats.length 1 64:=by
   have:(c.pats.all λp=>decide (wH p d<0))=true:=by
    rw[Ax];intro p hp;simpa using ho p hp
   simp[vN,this]
  refine zx (D0 ?_);refine zt (uO _ _ _) ?_;exact zg (zi hd DT (by simp[hres,zn]))
structure Must where
 f:FuncId
 b:Bool
instance:Enc Must:=⟨λm=>[.fn (.func m.f) [] []],1,λ_=>rfl,λ_=>rfl⟩
@[simp] theorem ZyU(m:Must):Enc.enc m=[.fn (.func m.f) [] []]:=rfl
@[simp high] theorem ZyV(l:List Must):(l.flatMap Enc.enc).length=l.length:=(xl l).trans (BR _)
def Z6(c:Cust)(d:Int)(k:Int):List Must :=
 if k=1 then [⟨227,zM c.demand 1 2147483648⟩,⟨228,vN c d⟩,⟨229,xx c⟩]
 else if k=2 then [⟨230,zM c.rate 0 2147483648⟩,⟨231,zM c.size 1 2147483648⟩,⟨232,zM c.start 0 c.size⟩,
  ⟨233,vO c⟩,⟨234,zM c.hold 0 1024⟩,⟨235,uo c⟩]
 else []
theorem Zqo(c:Cust)(d k:Int):Pure prog 193 [I k] (L (Z6 c d k)):=by
 refine zr func193 ntmps193 results193 λS nx hd=>?_
 refine D0 ?_
 repeat apply za
 refine zb ?_;refine zj (D0 ?_);refine zv rfl (λh=>?_) (λh=>?_)
 ·simp at h;subst h;refine D0 ?_;exact D1 hd
 ·simp at h;refine D0 ?_;refine zv rfl (λh2=>?_) (λh2=>?_)
  ·simp at h2;subst h2;refine D0 ?_;exact D1 hd
  ·simp at h2;refine zh (D0 ?_);refine uc 2 rfl ?_;exact zg (zi hd DT (by simp[Z6,h,h2,zn]))
theorem Zqp(c:Cust)(d:Int)(hp:∀p∈c.pats,p<2 ^ 64)(hl:c.pats.length<=9223372036854775807)(hdl:d<=1000):∀m∈Z6 c d c.kind,Pure prog m.f [.agg (uP c d)] (B m.b):=by
 intro m hm;unfold Z6 at hm;split at hm
 ·simp only[As,Bi,or_false]at hm;rcases hm with rfl | rfl | rfl
  ·exact Zqf c d
  ·exact Zqn c d hp hl hdl
  ·exact Zqm c d
 ·split at hm
  ·simp only[As,Bi,or_false]at hm;rcases hm with rfl | rfl | rfl | rfl | rfl | rfl
   ·exact Zqg c d
   ·exact Zqh c d
   ·exact Zqi c d
   ·exact Zqk c d
   ·exact Zqj c d
   ·exact Zql c d
  ·cases hm
def jB(c:Cust)(d:Int):Bool :=
 if c.kind=1 then (zM c.demand 1 2147483648 && vN c d && xx c)
 else if c.kind=2 then (zM c.rate 0 2147483648 && zM c.size 1 2147483648 && zM c.start 0 c.size && vO c && zM c.hold 0 1024 && uo c) else false
theorem Zqq(c:Cust)(d:Int):jB c d=((Z6 c d c.kind).all (·.b) && decide (0<(Z6 c d c.kind).length)):=by
 unfold jB Z6;split
 ·simp[Bool.and_assoc]
 ·split
  ·simp[Bool.and_assoc]
  ·simp
theorem Zqr(c:Cust)(d:Int)(hp:∀p∈c.pats,p<2 ^ 64)(hl:c.pats.length<=9223372036854775807)(hdl:d<=1000):Pure prog 146 [.agg (uP c d)] (B (jB c d)):=by
 have hall:=Zqp c d hp hl hdl;have hmu:=Zqo c d c.kind;have hln:(Z6 c d c.kind).length<=6:=by unfold Z6;split;simp;split<;>simp
 rw[Zqq];generalize Z6 c d c.kind=ms at hall hmu hln ⊢;refine zr func146 ntmps146 results146 λS nx hd=>?_
 refine D0 ?_;intro v0;refine D0 ?_;refine zt hmu ?_
 repeat apply za
 refine zb ?_;refine zj (zC (λs:Nat=>s<=ms.length/\(ms.take s).all (·.b)=true) (λk=>[(1,.ptr nx v0 0),(3,L ms),(10,L ms),(11,I ms.length),(12,I k)]) (λk=>[.cells v0 207 (uP c d)]) (λs=>ms.length-s) 0 [] DR DR DR ?_);rintro k ⟨hk,ho⟩;simp only at hk ho ⊢;refine D0 ?_;refine za (zv rfl (λhc=>?_) (λhc=>?_))
 ·simp at hc;obtain⟨m,tl,a1,a2,a3,e0⟩:=zE rfl ms k hc;have hm:=Ab a1;refine zh (za (zj (za (ze [] (zo e0 hc) ?_))));refine D0 ?_;refine zt (hall m hm) ?_;cases hb:m.b with
  | false =>
   have hres:ms.all (·.b)=false:=by rw[Bm];exact⟨m,hm,by simp[hb]⟩
   refine zk rfl (D0 ?_);exact zg (zi hd DT (by simp only[hres,zn,Cp]))
  | true =>
   refine zm rfl (zh (zb ?_));exact zq (k+1) [] ⟨hc,by rw[a3,BU,ho];simp[hb]⟩ DQ (by simp[zu k (by omega)]) rfl DR
 ·simp at hc;obtain rfl:k=ms.length:=DQ
  rw[Ai]at ho;refine zx (D0 ?_);exact zg (zi hd DT (by simp[ho,zn]))
open Go
def wI(n:Nat):Nat->List (List Int)->Bool
 | _,[]=>true
 | a,row :: l=>(decide (row.length=n) && decide (row.getD a 0=0) && row.all (zM · 0 2147483648)) && wI n (a+1) l
def uQ(l:List (List Int))(n:Nat):Bool:=decide (l.length=n) && wI n 0 l
def yM(x:Inst):Bool :=
 zM x.days 1 64 && decide (x.cust.length<=2000) && zM x.veh 0 2147483648 && zM x.cap 0 2147483648 && zM x.len 0 2147483648 && x.cust.all (jB · x.days) && uQ x.dist (x.cust.length+1)
theorem Zqs(l:List (List Int))(n:Nat)(hn:n<=1048576)(hl:l.length<=9223372036854775807)(hr:∀r∈l,r.length<=9223372036854775807):Pure prog 147 [L l,I n] (B (uQ l n)):=by
 refine zr func147 ntmps147 results147 λS nx hd=>?_
 refine D0 ?_
 by_cases hln:l.length=n
 ·have h1:((l.length:Int)=n):=DQ
  repeat apply za
  refine ze [] h1 ?_;refine zm DR ?_;refine zh ?_
  repeat apply za
  refine zb ?_;refine zj (zC (λs:Nat=>s<=l.length/\wI n 0 l=wI n s (l.drop s)) (λk=>[(0,L l),(1,I n),(13,L l),(14,I l.length),(15,I k)]) (λk=>[]) (λs=>l.length-s) 0 [] DR (by simp[h1]) DR ?_);rintro k ⟨hk,ho⟩;simp only at hk ho ⊢;refine D0 ?_;refine za (zv rfl (λhc=>?_) (λhc=>?_))
  ·simp at hc;obtain⟨row,tl,a1,a2,a3,e0⟩:=zE rfl l k hc;have hrm:=hr row (Ab a1);rw[a2]at ho;simp only[wI]at ho;refine zh (za (zj (za (ze [] (zo e0 hc) ?_))));have bad:(row.length=n/\row.getD k 0=0->row.all (zM · 0 2147483648)=false)->uQ l n=false:=by
    intro q;simp only[uQ,ho]
    by_cases q1:row.length=n
    ·by_cases q2:row.getD k 0=0
     ·rw[q ⟨q1,q2⟩];simp
     ·simp only[q2,decide_false,Cw,Cp]
    ·simp only[q1,decide_false,Cw,Cp]
   by_cases h2:row.length=n
   ·have h2':((row.length:Int)=n):=DQ
    have h3:k<n:=DQ
    obtain⟨d,tl2,b1,b2,b3,e2⟩:=zE rfl row k DQ;have hd0:row.getD k 0=d:=by rw[Aa,b1];rfl
    by_cases h4:d=0
    ·repeat apply za
     refine ze [(4,24)] (zJ h2' h3 e2 h4) ?_;refine zm DR ?_;refine zh (D0 ?_);refine zj (zC (λs:Nat=>s<=row.length/\(row.take s).all (zM · 0 2147483648)=true) (λj=>[(0,L l),(1,I n),(13,L l),(14,I l.length),(15,I k),(31,L row),(32,I row.length),(33,I j)]) (λk=>[]) (λs=>row.length-s) 0 [] DR (by simp[h1,h2']) DR ?_);rintro j ⟨hj,hoj⟩
     try simp only at hj hoj ⊢
     refine D0 ?_;refine za (zv rfl (λhc2=>?_) (λhc2=>?_))
     ·simp at hc2;obtain⟨e,tl3,c1,c2,c3,e3⟩:=zE rfl row j hc2;refine zh (za (zj (za (ze [] (zo e3 hc2) ?_))));refine D0 ?_;refine zt (uO _ _ _) ?_;cases hb:zM e 0 2147483648 with
      | false =>
       have hres:=bad (λ_=>by rw[Bm];exact⟨e,Ab c1,by simp[hb]⟩);refine zk rfl (D0 ?_);exact zg (zi hd DT (by simp only[hres,zn]))
      | true =>
       refine zm rfl (zh (zb ?_));exact zq (j+1) [] ⟨hc2,by rw[c3,BU,hoj];simp[hb]⟩ DQ (by simp[zu j (by omega)]) rfl DR
     ·simp at hc2;obtain rfl:j=row.length:=DQ
      rw[Ai]at hoj;refine zx (zb ?_);exact zq (k+1) [] ⟨hc,by rw[ho,hoj,hd0];simp[h2,h4]⟩ DQ (by simp[zu k (by omega)]) rfl DR
    ·have hres:=bad (λq=>absurd (hd0.symm.trans q.2) h4)
     repeat apply za
     refine ze [(4,24)] (zJ h2' h3 e2 h4) ?_;refine zk (by simp[h4]) ?_;refine D0 ?_;exact zg (zi hd DT (by simp only[hres,zn]))
   ·have hres:=bad (λq=>absurd q.1 h2);have h2':((row.length:Int) != (n:Int))=true:=DV
    repeat apply za
    refine ze [(4,24)] (zo h2' zB) ?_;refine zk DR ?_;refine D0 ?_;exact zg (zi hd DT (by simp only[hres,zn]))
  ·simp at hc;obtain rfl:k=l.length:=DQ
   simp only[Bn,wI]at ho;refine zx (D0 ?_);exact zg (zi hd DT (by simp[uQ,hln,ho,zn]))
 ·have h1:¬((l.length:Int)=n):=DQ
  repeat apply za
  refine ze [] h1 ?_;refine zk (by simp[h1]) ?_;refine D0 ?_;exact zg (zi hd DT (by simp[uQ,hln,zn]))
theorem Zhf(x:Inst)(hx:InstOk x):Pure prog 108 [.agg (zy x)] (I (if yM x=true then 0 else 3)):=by
 have hnc:=hx.ncust;refine zr func108 ntmps108 results108 λS nx hd=>?_
 refine D0 ?_;intro v0
 by_cases hd1:zM x.days 1 64=true
 ·have hdr:1<=x.days/\x.days<=64:=by simpa[zM] using hd1
  by_cases hc2:(2000:Int)<x.cust.length
  ·repeat apply za
   refine ze [(4,11)] trivial ?_;refine qi [(4,11)] (uO _ _ _) (zo hd1 hc2) ?_;refine zk DR ?_;refine D0 ?_;exact zg (zi hd DT (by simp[yM,show ¬x.cust.length<=2000 by omega,zn]))
  ·repeat apply za
   refine ze [(4,11)] trivial ?_;refine qi [(4,11)] (uO _ _ _) (zo hd1 hc2) ?_;refine zm DR ?_;refine zh ?_
   repeat apply za
   refine zb ?_;refine zj (zC (λs:Nat=>s<=3/\(1<=s->zM x.veh 0 2147483648=true)/\(2<=s->zM x.cap 0 2147483648=true)/\(3<=s->zM x.len 0 2147483648=true)) (λk=>[(1,.ptr nx v0 0),(23,.lst 3 [I x.veh,I x.cap,I x.len]),(24,I 3),(25,I k)]) (λk=>[.cells v0 25 (zy x)]) (λs=>3-s) 0 [] DR DR DR ?_);rintro k ⟨hk,i1,i2,i3⟩;simp only at hk i1 i2 i3 ⊢
   match k,hk with
   | 0,_ =>
    refine D0 ?_;refine za (zk rfl (zh (za (zj (D0 ?_)))));refine D0 ?_;refine zt (uO _ _ _) ?_;cases hb:zM x.veh 0 2147483648 with
    | false =>
     refine zk rfl (D0 ?_);exact zg (zi hd DT (by simp[yM,hb,zn]))
    | true =>
     refine zm rfl (zh (zb ?_));exact zq 1 [] (by simp[hb]) DR DT rfl DR
   | 1,_ =>
    refine D0 ?_;refine za (zk rfl (zh (za (zj (D0 ?_)))));refine D0 ?_;refine zt (uO _ _ _) ?_;cases hb:zM x.cap 0 2147483648 with
    | false =>
     refine zk rfl (D0 ?_);exact zg (zi hd DT (by simp[yM,hb,zn]))
    | true =>
     refine zm rfl (zh (zb ?_));exact zq 2 [] (by simp[hb,i1 (by omega)]) DR DT rfl DR
   | 2,_ =>
    refine D0 ?_;refine za (zk rfl (zh (za (zj (D0 ?_)))));refine D0 ?_;refine zt (uO _ _ _) ?_;cases hb:zM x.len 0 2147483648 with
    | false =>
     refine zk rfl (D0 ?_);exact zg (zi hd DT (by simp[yM,hb,zn]))
    | true =>
     refine zm rfl (zh (zb ?_));exact zq 3 [] (by simp[hb,i1 (by omega),i2 (by omega)]) DR DT rfl DR
   | 3,_ =>
    have q1:=i1 DQ;have q2:=i2 DQ;have q3:=i3 DQ;refine D0 ?_;refine za (zm rfl (zx ?_))
    repeat apply za
    refine zb ?_;refine zj (zC (λs:Nat=>s<=x.cust.length/\(x.cust.take s).all (jB · x.days)=true) (λk=>[(1,.ptr nx v0 0),(34,L x.cust),(35,I x.cust.length),(36,I k)]) (λk=>[.cells v0 25 (zy x)]) (λs=>x.cust.length-s) 0 [] DR DR DR ?_);rintro k ⟨hk,ho⟩
    try simp only at hk ho ⊢
    refine D0 ?_;refine za (zv rfl (λhc=>?_) (λhc=>?_))
    ·simp at hc;obtain⟨c,tl,a1,a2,a3,_,e0⟩:=el 8 rfl x.cust k hc;have hcm:=Ab a1;have hco:=hx.cust c hcm;refine zh (za (zj (za (ze [] (zo e0 hc) ?_))));intro v1;refine D0 ?_;refine zt (Zqr c x.days hco.pats hco.npats DQ) ?_;cases hb:jB c x.days with
     | false =>
      have hres:x.cust.all (jB · x.days)=false:=by rw[Bm];exact⟨c,hcm,by simp[hb]⟩
      refine zk rfl (D0 ?_);exact zg (zi hd DT (by simp[yM,hres,zn]))
     | true =>
      refine zm rfl (zh (zb ?_));exact zq (k+1) [_] ⟨hc,by rw[a3,BU,ho];simp[hb]⟩ DQ (by simp[zu k (by omega)]) rfl rfl
    ·simp at hc;obtain rfl:k=x.cust.length:=DQ
     rw[Ai]at ho;have w1:=zu x.cust.length DQ;refine zx ?_
     repeat apply za
     refine ze [] w1 ?_;refine zt (Zqs x.dist (x.cust.length+1) DQ hx.ndist (λr hr=>(hx.dist r hr).1)) ?_;cases hb:uQ x.dist (x.cust.length+1) with
     | false =>
      refine zk rfl (D0 ?_);exact zg (zi hd DT (by simp[yM,hb,zn]))
     | true =>
      refine zm rfl (zh (D0 ?_));exact zg (zi hd DT (by simp[yM,hb,hd1,q1,q2,q3,ho,show x.cust.length<=2000 by omega,zn]))
 ·repeat apply za
  refine ze [(4,11)] trivial ?_;refine qi [(4,11)] (uO _ _ _) (zo hd1 zB) ?_;refine zk DR ?_;refine D0 ?_;exact zg (zi hd DT (by simp[yM,hd1,zn]))
open Go
theorem Zqt(n:Nat)(hn:n<2 ^ 64):Pure prog 187 [U n] (L (yy n 0 64)):=by
 have hl:=QZ n;refine zr func187 ntmps187 results187 λS nx hd=>?_
 refine D0 ?_;refine D0 ?_;refine za (qt 3 3 1 rfl λv1=>?_);refine zb ?_;refine zt (ZbD n hn) ?_
 repeat apply za
 refine zb ?_;refine zj (zC (λs:Nat × List Int × Nat=>s.1<=64/\s.2.1=yy n 0 s.1) (λ(k,out,v1)=>[(3,.sl nx v1 1 0 out.length),(4,L (qV n)),(5,I k)]) (λ(k,out,v1)=>[.cells v1 3 (out.flatMap Enc.enc)]) (λs=>64-s.1) (0,[],v1) [] (by simp[yy]) DR DR ?_);rintro⟨k,out,v1⟩ ⟨hk,ho⟩;simp only at hk ho ⊢;have hol:out.length<=k:=by rw[ho];exact Qx _ _ _
 have hs:=Zhd n 0 k DQ
 repeat apply za
 refine zb ?_;refine zv rfl (λhc=>?_) (λhc=>?_)
 ·simp at hc;have hc':k<64:=DQ
  obtain⟨b,tl,a1,a2,a3,e0⟩:=zE rfl (qV n) k DQ;rw[ZbE n k hc']at a1;cases a1;have g1:(k:Int)<64:=DQ
  refine zh (za (zj (za (ze [] (zA e0 hl g1) ?_))));refine zv rfl (λhb=>?_) (λhb=>?_)
  ·have hb':yF n k=1:=by simp at hb;omega
   refine zb ?_;refine⟨by omega,?_⟩;refine zb ?_;exact zq (k+1,out++[(k:Int)],v1+1) [] ⟨by omega,by rw[hs,if_pos hb',ho]⟩ DV (by simp[zu k (by omega)]) rfl DR
  ·have hb':¬yF n k=1:=by simp at hb;omega
   refine zh (zb ?_);exact zq (k+1,out,v1) [] ⟨by omega,by rw[hs,if_neg hb',ho];simp⟩ DV (by simp[zu k (by omega)]) rfl DR
 ·simp at hc;obtain rfl:k=64:=DQ
  refine zx (D0 ?_);refine zZ 0 rfl ?_;exact zg (zi hd DT (by simp[ho,zn]))
theorem ZcR(n:Nat)(d:Int):yy n d.toNat 64=(yy n 0 64).filter λx=>decide (d<=x):=by
 simp only[yy,List.filter_map,List.filter_filter,BK,decide_true,CY];congr 1;apply List.filter_congr;intro i _;have:(d.toNat<=i)=(d<=(i:Int)):=propext ⟨λh=>by omega,λh=>by omega⟩;simp only[Function.comp,this]
theorem Zqu(n:Nat)(d:Int)(hn:n<2 ^ 64):Pure prog 132 [U n,I d] (I (wH n d)):=by
 have hln:=Qx n 0 64;have hnx:wH n d=((yy n 0 64).filter λx=>decide (d<=x)).headD (-1):=by rw[wH,ZcR]
 have hall:=Zqt n hn;generalize yy n 0 64=l at hln hnx hall;refine zr func132 ntmps132 results132 λS nx hd=>?_
 refine D0 ?_;refine D0 ?_;refine zt hall ?_
 repeat apply za
 refine zb ?_;refine zj (zC (λs:Nat=>s<=l.length/\wH n d=((l.drop s).filter λx=>decide (d<=x)).headD (-1)) (λk=>[(1,I d),(5,L l),(6,I k)]) (λ_=>[]) (λs=>l.length-s) 0 [] (by simp[hnx]) DR DR ?_);rintro k ⟨hk,ho⟩
 repeat apply za
 refine zb ?_;refine zv rfl (λhc=>?_) (λhc=>?_)
 ·simp at hc;obtain⟨e,tl,a1,a2,a3,e0⟩:=zE rfl l k hc;rw[a2]at ho;refine zh (za (zj (za (ze [] (zo e0 hc) ?_))));refine zv rfl (λh=>?_) (λh=>?_)
  ·simp at h;refine za (ze [] (zo e0 hc) ?_);exact zg (zi hd DT (by rw[ho];simp[h,zn]))
  ·simp at h;refine zh (zb ?_);exact zq (k+1) [] ⟨hc,by rw[ho];simp[h]⟩ DQ (by simp[zu k (by omega)]) rfl DR
 ·simp at hc;obtain rfl:k=l.length:=DQ
  rw[Bn]at ho;refine zx (D0 ?_);exact zg (zi hd DT (by rw[ho];rfl))
theorem ZcS(c:Cust)(d:Int)(h:c.kind=1):jB c d=(zM c.demand 1 2147483648 && vN c d && xx c):=by simp[jB,h]
theorem ZcT(c:Cust)(d:Int)(h:c.kind=2):jB c d=(zM c.rate 0 2147483648 && zM c.size 1 2147483648 && zM c.start 0 c.size && vO c && zM c.hold 0 1024 && uo c):=by simp[jB,h]
theorem Zhg(c:Cust)(d:Int)(h:¬c.kind=1)(h2:¬c.kind=2):jB c d=false:=by simp[jB,h,h2]
theorem Zqv(c:Cust)(d:Int)(hp:∀p∈c.pats,p<2 ^ 64)(hl:c.pats.length<=9223372036854775807):Pure prog 93 [.agg (zV c),I d] (B (jB c d)):=by
 refine zr func93 ntmps93 results93 λS nx hd=>?_
 refine D0 ?_;intro v0
 repeat apply za
 refine zb ?_;refine zv rfl (λhk1=>?_) (λhk1=>?_)
 ·simp at hk1;rw[ZcS c d hk1]
  by_cases h1:c.demand<1
  ·repeat apply za
   refine ze [(3,12),(8,17),(14,23),(20,29),(25,34),(30,39),(35,44),(40,49)] (zo h1 zB) ?_;refine zk rfl (D0 ?_);exact zg (zi hd rfl (by simp only[zM,show ¬(1<=c.demand/\c.demand<=2147483648) by omega];rfl))
  by_cases h2:(2147483648:Int)<c.demand
  ·repeat apply za
   refine ze [(3,12),(8,17),(14,23),(20,29),(25,34),(30,39),(35,44),(40,49)] (zA h2 h1 zB) ?_;refine zk rfl (D0 ?_);exact zg (zi hd rfl (by simp only[zM,show ¬(1<=c.demand/\c.demand<=2147483648) by omega];rfl))
  by_cases h3:c.pats=[]
  ·repeat apply za
   refine ze [(3,12),(8,17),(14,23),(20,29),(25,34),(30,39),(35,44),(40,49)] (zJ h3 h1 h2 zB) ?_;refine zk rfl (D0 ?_);exact zg (zi hd rfl (by simp[vN,h3,zM,zn]))
  have h3':¬(c.pats.length:Int)<1:=by have:=BS.2 h3;omega
  by_cases h4:(64:Int)<(c.pats.length:Int)
  ·repeat apply za
   refine ze [(3,12),(8,17),(14,23),(20,29),(25,34),(30,39),(35,44),(40,49)] (zP h4 h1 h2 h3 h3' zB) ?_;refine zk rfl (D0 ?_);exact zg (zi hd rfl (by simp[vN,zM,zn,show ¬((c.pats.length:Int)<=64) by omega]))
  by_cases h5:c.rate=0
  case neg =>
   repeat apply za
   refine ze [(3,12),(8,17),(14,23),(20,29),(25,34),(30,39),(35,44),(40,49)] (zP h5 h1 h2 h3 h3' (zo h4 zB)) ?_;refine zk rfl (D0 ?_);exact zg (zi hd rfl (by simp[xx,h5,zn]))
  by_cases h6:c.size=0
  case neg =>
   repeat apply za
   refine ze [(3,12),(8,17),(14,23),(20,29),(25,34),(30,39),(35,44),(40,49)] (zP h6 h1 h2 h3 h3' (zA h4 h5 zB)) ?_;refine zk rfl (D0 ?_);exact zg (zi hd rfl (by simp[xx,h6,zn]))
  by_cases h7:c.start=0
  case neg =>
   repeat apply za
   refine ze [(3,12),(8,17),(14,23),(20,29),(25,34),(30,39),(35,44),(40,49)] (zP h7 h1 h2 h3 h3' (zJ h4 h5 h6 zB)) ?_;refine zk rfl (D0 ?_);exact zg (zi hd rfl (by simp[xx,h7,zn]))
  by_cases h8:c.rule=0
  case neg =>
   repeat apply za
   refine ze [(3,12),(8,17),(14,23),(20,29),(25,34),(30,39),(35,44),(40,49)] (zP h8 h1 h2 h3 h3' (yv h4 h5 h6 h7 zB)) ?_;refine zk rfl (D0 ?_);exact zg (zi hd rfl (by simp[xx,h8,zn]))
  by_cases h9:c.hold=0
  case neg =>
   repeat apply za
   refine ze [(3,12),(8,17),(14,23),(20,29),(25,34),(30,39),(35,44),(40,49)] (zP h9 h1 h2 h3 h3' (zP h4 h5 h6 h7 h8 zB)) ?_;refine zk rfl (D0 ?_);exact zg (zi hd rfl (by simp[xx,h9,zn]))
  repeat apply za
  refine ze [(3,12),(8,17),(14,23),(20,29),(25,34),(30,39),(35,44),(40,49)] (zP h1 h2 h3 h3' h4 (yv h5 h6 h7 h8 h9)) ?_;refine zm rfl (zh ?_);have hres:(zM c.demand 1 2147483648 && vN c d && xx c)=c.pats.all λp=>decide (wH p d<0):=by
   have e1:zM c.demand 1 2147483648=true:=by simp[zM];omega
   have e2:zM c.pats.length 1 64=true:=by simp[zM];omega
   have e3:xx c=true:=by simp[xx,h5,h6,h7,h8,h9]
   rw[e1,e3,vN,e2];simp
  rw[hres]
  repeat apply za
  refine zb ?_;refine zj (zC (λs:Nat=>s<=c.pats.length/\(c.pats.take s).all (λp=>decide (wH p d<0))=true) (λk=>[(1,I d),(2,.ptr nx v0 0),(5,I k)]) (λ_=>[.cells v0 87 (zV c)]) (λs=>c.pats.length-s) 0 [] DR DR DR ?_);rintro k ⟨hk,ho⟩
  repeat apply za
  refine zb ?_;refine zv rfl (λhc=>?_) (λhc=>?_)
  ·simp at hc;obtain⟨p,tl,a1,a2,a3,e0⟩:=zE rfl c.pats k hc;have hpm:=Ab a1;refine zh (za (zj (za (ze [] (zo e0 hc) ?_))));refine zt (Zqu p d (hp p hpm)) ?_;refine zv rfl (λh=>?_) (λh=>?_)
   ·simp at h;have hr2:(c.pats.all λp=>decide (wH p d<0))=false:=by rw[Bm];exact⟨p,hpm,by simp;omega⟩
    refine D0 ?_;exact zg (zi hd DT (by simp only[hr2,zn]))
   ·simp at h;refine zh (zb ?_);exact zq (k+1) [] ⟨hc,by rw[a3,BU,ho];simp[h]⟩ DQ (by simp[zu k (by omega)]) rfl DR
  ·simp at hc;obtain rfl:k=c.pats.length:=DQ
   rw[Ai]at ho;refine zx (D0 ?_);exact zg (zi hd DT (by rw[ho];rfl))
 ·simp at hk1;refine zh ?_
  by_cases hk2:c.kind=2
  ·rw[ZcT c d hk2]
   by_cases h1:0<c.pats.length
   ·repeat apply za
    refine ze [(3,72),(9,78)] (zA h1 hk2 zB) ?_;refine zk rfl (D0 ?_);exact zg (zi hd rfl (by simp[uo,List.ne_nil_of_length_pos h1,zn]))
   have h1':c.pats=[]:=Aq DQ
   by_cases h2:c.demand=0
   case neg =>
    repeat apply za
    refine ze [(3,72),(9,78)] (zJ h2 hk2 h1 zB) ?_;refine zk rfl (D0 ?_);exact zg (zi hd rfl (by simp[uo,h2,zn]))
   repeat apply za
   refine ze [(3,72),(9,78)] (zA hk2 h1 h2) ?_;refine zm rfl (zh ?_)
   by_cases h3:c.rate<0
   ·repeat apply za
    refine ze [(3,86),(8,91),(13,96),(18,101),(23,106)] (zo h3 zB) ?_;refine zk rfl (D0 ?_);exact zg (zi hd rfl (by simp only[zM,show ¬(0<=c.rate/\c.rate<=2147483648) by omega];rfl))
   by_cases h4:(2147483648:Int)<c.rate
   ·repeat apply za
    refine ze [(3,86),(8,91),(13,96),(18,101),(23,106)] (zA h4 h3 zB) ?_;refine zk rfl (D0 ?_);exact zg (zi hd rfl (by simp only[zM,show ¬(0<=c.rate/\c.rate<=2147483648) by omega];rfl))
   by_cases h5:c.size<1
   ·repeat apply za
    refine ze [(3,86),(8,91),(13,96),(18,101),(23,106)] (zJ h5 h3 h4 zB) ?_;refine zk rfl (D0 ?_);exact zg (zi hd rfl (by simp[zM,zn,show ¬1<=c.size by omega]))
   by_cases h6:(2147483648:Int)<c.size
   ·repeat apply za
    refine ze [(3,86),(8,91),(13,96),(18,101),(23,106)] (yv h6 h3 h4 h5 zB) ?_;refine zk rfl (D0 ?_);exact zg (zi hd rfl (by simp[zM,zn,show ¬c.size<=2147483648 by omega]))
   by_cases h7:c.start<0
   ·repeat apply za
    refine ze [(3,86),(8,91),(13,96),(18,101),(23,106)] (zP h7 h3 h4 h5 h6 zB) ?_;refine zk rfl (D0 ?_);exact zg (zi hd rfl (by simp[zM,zn,show ¬0<=c.start by omega]))
   by_cases h8:c.size<c.start
   ·repeat apply za
    refine ze [(3,86),(8,91),(13,96),(18,101),(23,106)] (zP h8 h3 h4 h5 h6 (zo h7 zB)) ?_;refine zk rfl (D0 ?_);exact zg (zi hd rfl (by simp[zM,zn,show ¬c.start<=c.size by omega]))
   repeat apply za
   refine ze [(3,86),(8,91),(13,96),(18,101),(23,106)] (zP h3 h4 h5 h6 h7 h8) ?_;refine zm rfl (zh ?_);have hres:(zM c.rate 0 2147483648 && zM c.size 1 2147483648 && zM c.start 0 c.size && vO c && zM c.hold 0 1024 && uo c)=(vO c && zM c.hold 0 1024):=by
    have e1:zM c.rate 0 2147483648=true:=by simp[zM];omega
    have e2:zM c.size 1 2147483648=true:=by simp[zM];omega
    have e3:zM c.start 0 c.size=true:=by simp[zM];omega
    have e4:uo c=true:=by simp[uo,h1',h2]
    rw[e1,e2,e3,e4];simp
   rw[hres]
   by_cases r1:c.rule=1
   ·by_cases r3:0<=c.hold
    ·refine za (ze [(3,116),(8,121),(13,126)] (zA r1 r3 zB) ?_);exact zg (zi hd DT (by simp[vO,r1,zM,r3,zn]))
    ·refine za (ze [(3,116),(8,121),(13,126)] (zA r1 r3 zB) ?_);exact zg (zi hd DT (by simp[vO,r1,zM,r3,zn]))
   ·by_cases r2:c.rule=2
    ·by_cases r3:0<=c.hold
     ·refine za (ze [(3,116),(8,121),(13,126)] (zJ r1 r2 r3 zB) ?_);exact zg (zi hd DT (by simp[vO,r2,zM,r3,zn]))
     ·refine za (ze [(3,116),(8,121),(13,126)] (zJ r1 r2 r3 zB) ?_);exact zg (zi hd DT (by simp[vO,r2,zM,r3,zn]))
    ·refine za (ze [(3,116),(8,121),(13,126)] (zA r1 r2 zB) ?_);exact zg (zi hd DT (by simp[vO,r1,r2,zn]))
  ·rw[Zhg c d hk1 hk2];have hk2':(c.kind != 2)=true:=by simpa using hk2
   repeat apply za
   refine ze [(3,72),(9,78)] (zo hk2' zB) ?_;refine zk rfl (D0 ?_);exact D1 hd
open Go
theorem Zqw(x:Inst)(hx:InstOk x):Pure prog 56 [.agg (zy x)] (B (yM x)):=by
 have hnc:=hx.ncust;refine zr func56 ntmps56 results56 λS nx hd=>?_
 refine D0 ?_;intro v0;refine D0 ?_
 by_cases h1:x.days<1
 ·repeat apply za
  refine ze [(3,14),(8,19),(13,24),(18,29),(23,34),(28,39),(33,44),(38,49),(42,53)] (zo h1 zB) ?_;refine zk rfl (D0 ?_);exact zg (zi hd rfl (by simp[yM,zM,zn,show ¬1<=x.days by omega]))
 by_cases h2:(64:Int)<x.days
 ·repeat apply za
  refine ze [(3,14),(8,19),(13,24),(18,29),(23,34),(28,39),(33,44),(38,49),(42,53)] (zA h2 h1 zB) ?_;refine zk rfl (D0 ?_);exact zg (zi hd rfl (by simp[yM,zM,zn,show ¬x.days<=64 by omega]))
 by_cases h3:x.veh<0
 ·repeat apply za
  refine ze [(3,14),(8,19),(13,24),(18,29),(23,34),(28,39),(33,44),(38,49),(42,53)] (zJ h3 h1 h2 zB) ?_;refine zk rfl (D0 ?_);exact zg (zi hd rfl (by simp[yM,zM,zn,show ¬0<=x.veh by omega]))
 by_cases h4:(2147483648:Int)<x.veh
 ·repeat apply za
  refine ze [(3,14),(8,19),(13,24),(18,29),(23,34),(28,39),(33,44),(38,49),(42,53)] (yv h4 h1 h2 h3 zB) ?_;refine zk rfl (D0 ?_);exact zg (zi hd rfl (by simp[yM,zM,zn,show ¬x.veh<=2147483648 by omega]))
 by_cases h5:x.cap<0
 ·repeat apply za
  refine ze [(3,14),(8,19),(13,24),(18,29),(23,34),(28,39),(33,44),(38,49),(42,53)] (zP h5 h1 h2 h3 h4 zB) ?_;refine zk rfl (D0 ?_);exact zg (zi hd rfl (by simp[yM,zM,zn,show ¬0<=x.cap by omega]))
 by_cases h6:(2147483648:Int)<x.cap
 ·repeat apply za
  refine ze [(3,14),(8,19),(13,24),(18,29),(23,34),(28,39),(33,44),(38,49),(42,53)] (zP h6 h1 h2 h3 h4 (zo h5 zB)) ?_;refine zk rfl (D0 ?_);exact zg (zi hd rfl (by simp[yM,zM,zn,show ¬x.cap<=2147483648 by omega]))
 by_cases h7:x.len<0
 ·repeat apply za
  refine ze [(3,14),(8,19),(13,24),(18,29),(23,34),(28,39),(33,44),(38,49),(42,53)] (zP h7 h1 h2 h3 h4 (zA h5 h6 zB)) ?_;refine zk rfl (D0 ?_);exact zg (zi hd rfl (by simp[yM,zM,zn,show ¬0<=x.len by omega]))
 by_cases h8:(2147483648:Int)<x.len
 ·repeat apply za
  refine ze [(3,14),(8,19),(13,24),(18,29),(23,34),(28,39),(33,44),(38,49),(42,53)] (zP h8 h1 h2 h3 h4 (zJ h5 h6 h7 zB)) ?_;refine zk rfl (D0 ?_);exact zg (zi hd rfl (by simp[yM,zM,zn,show ¬x.len<=2147483648 by omega]))
 by_cases h9:(2000:Int)<(x.cust.length:Int)
 ·repeat apply za
  refine ze [(3,14),(8,19),(13,24),(18,29),(23,34),(28,39),(33,44),(38,49),(42,53)] (zP h9 h1 h2 h3 h4 (yv h5 h6 h7 h8 zB)) ?_;refine zk rfl (D0 ?_);exact zg (zi hd rfl (by simp[yM,zn,show ¬x.cust.length<=2000 by omega]))
 have w1:=zu x.cust.length DQ;have w1':IntKind.i64.wrap ((x.cust.length:Int)+1)=(x.cust.length:Int)+1:=by rw[w1];omega
 by_cases h10:(x.dist.length:Int)=(x.cust.length:Int)+1
 case neg =>
  repeat apply za
  refine ze [(3,14),(8,19),(13,24),(18,29),(23,34),(28,39),(33,44),(38,49),(42,53)] (zP h1 h2 h3 h4 h5 (zP h6 h7 h8 h9 h10 w1')) ?_;refine zk (by simp[h10]) ?_;refine D0 ?_;exact zg (zi hd rfl (by simp[yM,uQ,zn,show ¬x.dist.length=x.cust.length+1 by omega]))
 have h10':x.dist.length=x.cust.length+1:=DQ
 repeat apply za
 refine ze [(3,14),(8,19),(13,24),(18,29),(23,34),(28,39),(33,44),(38,49),(42,53)] (zP h1 h2 h3 h4 h5 (zP h6 h7 h8 h9 h10 w1')) ?_;refine zm (by simp[h10]) ?_;refine zh ?_;have hres:yM x=(x.cust.all (jB · x.days) && wI (x.cust.length+1) 0 x.dist):=by
  have e1:zM x.days 1 64=true:=by simp[zM];omega
  have e2:zM x.veh 0 2147483648=true:=by simp[zM];omega
  have e3:zM x.cap 0 2147483648=true:=by simp[zM];omega
  have e4:zM x.len 0 2147483648=true:=by simp[zM];omega
  have e5:x.cust.length<=2000:=DQ
  simp[yM,e1,e2,e3,e4,e5,uQ,h10']
 rw[hres];clear hres
 repeat apply za
 refine zb ?_;refine zj (zC (λs:Nat=>s<=x.cust.length/\(x.cust.take s).all (jB · x.days)=true) (λk=>[(1,.ptr nx v0 0),(3,I x.cust.length),(4,I k)]) (λ_=>[.cells v0 25 (zy x)]) (λs=>x.cust.length-s) 0 [] DR DR DR ?_);rintro k ⟨hk,ho⟩
 repeat apply za
 refine zb ?_;refine zv rfl (λhc=>?_) (λhc=>?_)
 ·simp at hc;obtain⟨c,tl,a1,a2,a3,_,e0⟩:=el 8 rfl x.cust k hc;have hcm:=Ab a1;have hco:=hx.cust c hcm;refine zh (za (zj (za (zz none (Row.pures [0,1,2,3,4,5,6,7,8] .done) mixed (zo hc e0) ?_))));refine zH (Zqv c x.days hco.pats hco.npats) trivial ?_;refine D0 ?_;cases hb:jB c x.days with
  | false =>
   have hr2:x.cust.all (jB · x.days)=false:=by rw[Bm];exact⟨c,hcm,by simp[hb]⟩
   refine zk rfl (D0 ?_);exact zg (zi hd DT (by simp only[hr2,zn,Cp]))
  | true =>
   refine zm rfl (zh (zb ?_));exact zq (k+1) [] ⟨hc,by rw[a3,BU,ho];simp[hb]⟩ DQ (by simp[zu k (by omega)]) rfl DR
 ·simp at hc;obtain rfl:k=x.cust.length:=DQ
  rw[Ai]at ho;rw[ho,CY];refine zx ?_
  repeat apply za
  refine zb ?_;generalize hn:x.cust.length=n at *;refine zj (zC (λs:Nat=>s<=n+1/\wI (n+1) 0 x.dist=wI (n+1) s (x.dist.drop s)) (λk=>[(1,.ptr nx v0 0),(3,I n),(6,I k)]) (λ_=>[.cells v0 25 (zy x)]) (λs=>n+1-s) 0 [] DR DR DR ?_);rintro a ⟨ha,hr⟩
  repeat apply za
  refine zb ?_;refine zv rfl (λhc2=>?_) (λhc2=>?_)
  ·simp at hc2;have hal:a<x.dist.length:=DQ
   obtain⟨row,tl,a1,a2,a3,e0⟩:=zE rfl x.dist a hal;have hrow:=hx.dist row (Ab a1);rw[a2]at hr;simp only[wI]at hr;have bad:(row.length=n+1/\row.getD a 0=0->row.all (zM · 0 2147483648)=false)->wI (n+1) 0 x.dist=false:=by
    intro q;rw[hr]
    by_cases q1:row.length=n+1
    ·by_cases q2:row.getD a 0=0
     ·rw[q ⟨q1,q2⟩];simp
     ·simp only[q2,decide_false,Cw,Cp]
    ·simp only[q1,decide_false,Cw,Cp]
   refine zh (za (zj ?_))
   by_cases h2:row.length=n+1
   case neg =>
    have hres:=bad (λq=>absurd q.1 h2);have h2':¬((row.length:Int)=(n:Int)+1):=DQ
    repeat apply za
    refine ze [] (zJ hal e0 h2' w1') ?_;refine zk (by simp[h2']) ?_;refine D0 ?_;exact zg (zi hd DT (by simp only[hres,zn]))
   have h2':((row.length:Int)=(n:Int)+1):=DQ
   repeat apply za
   refine ze [] (zJ hal e0 h2' w1') ?_;refine zm (by simp[h2']) ?_;refine zh (D0 ?_);refine zj (zC (λs:Nat=>s<=n+1/\(row.take s).all (zM · 0 2147483648)=true/\(a<s->row.getD a 0=0)) (λj=>[(1,.ptr nx v0 0),(3,I n),(6,I a),(7,I j)]) (λ_=>[.cells v0 25 (zy x)]) (λs=>n+1-s) 0 [] DR DR DR ?_);rintro b ⟨hb,hr1,hr2⟩
   repeat apply za
   refine zb ?_;refine zv rfl (λhc3=>?_) (λhc3=>?_)
   ·simp at hc3;have hbl:b<row.length:=DQ
    obtain⟨d,tl2,b1,b2,b3,e2⟩:=zE rfl row b hbl;have hdm:=Ab b1;have hbn:b<n+1:=DQ
    refine zh (za (zj ?_))
    by_cases g1:d<0
    ·have hres:=bad (λ_=>by rw[Bm];exact⟨d,hdm,by simp[zM];omega⟩);refine za (ze [(9,104),(20,115),(24,119)] (zP hal e0 hbl e2 g1 zB) ?_);refine zk rfl (D0 ?_);exact zg (zi hd DT (by simp only[hres,zn]))
    by_cases g2:(2147483648:Int)<d
    ·have hres:=bad (λ_=>by rw[Bm];exact⟨d,hdm,by simp[zM];omega⟩);refine za (ze [(9,104),(20,115),(24,119)] (zP hal e0 hbl e2 g1 (zo g2 zB)) ?_);refine zk rfl (D0 ?_);exact zg (zi hd DT (by simp only[hres,zn]))
    have hfr:zM d 0 2147483648=true:=by simp[zM];omega
    by_cases g3:a=b
    ·subst g3;have hd0:row.getD a 0=d:=by rw[Aa,b1];rfl
     by_cases g4:d=0
     ·refine za (ze [(9,104),(20,115),(24,119)] (zP hal e0 hbl e2 g1 (zo g2 g4)) ?_);refine zm DR ?_;refine zh (zb ?_);exact zq (a+1) [] ⟨by omega,by rw[b3,BU,hr1];simp[hfr],λ_=>hd0.trans g4⟩ DQ (by simp[zu a (by omega)]) rfl DR
     ·have hres:=bad (λq=>absurd (hd0.symm.trans q.2) g4);refine za (ze [(9,104),(20,115),(24,119)] (zP hal e0 hbl e2 g1 (zo g2 g4)) ?_);refine zk (by simp[g4]) ?_;refine D0 ?_;exact zg (zi hd DT (by simp only[hres,zn]))
    ·have g3':¬((a:Int)=(b:Int)):=DQ
     refine za (ze [(9,104),(20,115),(24,119)] (zP hal e0 hbl e2 g1 (zJ g2 g3 g3' zB)) ?_);refine zm DR ?_;refine zh (zb ?_);exact zq (b+1) [] ⟨by omega,by rw[b3,BU,hr1];simp[hfr],λq=>hr2 DQ⟩ DQ (by simp[zu b (by omega)]) rfl DR
   ·simp at hc3;obtain rfl:b=n+1:=DQ
    rw[Ae DQ]at hr1;have h0:=hr2 DQ;refine zx (zb ?_);exact zq (a+1) [] ⟨by omega,by rw[hr,hr1,h0];simp[h2]⟩ DQ (by simp[zu a (by omega)]) rfl DR
  ·simp at hc2;obtain rfl:a=n+1:=DQ
   rw[AS DQ]at hr;simp only[wI]at hr;refine zx (D0 ?_);exact zg (zi hd DT (by simp[hr,zn]))
open Go
abbrev Zao(x:Inst)(p:zF)(i:Int):List PV:=[I x.days,I x.veh,I x.cap,I x.len,L x.cust,L x.dist,L p,I i]
def Jk(c:Cust)(v:List Visit):Int:=if (v.any λs=>decide (s.q≠c.demand))=true then 9 else if qf (v.map (·.d))∈c.pats then 0 else 10
def xI(x:Inst)(p:zF)(i:Nat):Int :=
 match x.cust[i]? with
 | none=>5
 | some c=>if c.kind=2 then wF c (yt (yd i (told 0 p)) x.days) else Jk c (yd i (told 0 p))
structure Serves (x:Inst) (p:zF):Prop where
 sz:PlanOk p
 q:∀s∈told 0 p,0<=s.1.q/\s.1.q<=2147483648
 days:p.length<=64
theorem Zhh:∀(p:zF) (i:Nat) (x:Stop × Nat),x∈told i p->i<=x.2/\x.2<i+p.length
 | [],_,_,h=>by cases h
 | d :: p,i,x,h=>by
  simp only[told,Ay,Al]at h;simp only[Ad];rcases h with ⟨s,_,rfl⟩ | h
  ·simp only;omega
  ·have:=Zhh p (i+1) x h;omega
theorem ZcU{x:Inst}{p:zF}(h:Serves x p)(c:Int):VisOk (yd c (told 0 p))/\∀s∈yd c (told 0 p),0<=s.d/\s.d<=63:=by
 have hd:∀s∈yd c (told 0 p),(0<=s.q/\s.q<=2147483648)/\0<=s.d/\s.d<=63:=by
  intro s hs;simp only[yd,Al,Bj]at hs;obtain⟨y,⟨hy,_⟩,rfl⟩:=hs;have h1:=h.q y hy;have h2:=Zhh p 0 y hy;have h3:=h.days;simp only;omega
 exact⟨⟨AB (ZcI _ _) h.sz.told,λs hs=>(hd s hs).1,λs hs=>by have:=(hd s hs).2;unfold zO;omega⟩,λs hs=>(hd s hs).2⟩
theorem Zhi(x:Inst)(p:zF)(i:Nat)(h:Serves x p):Pure prog 114 [.agg (Zao x p i)] (L (yt (yd i (told 0 p)) x.days)):=by
 have h1:=ZcJ p i h.sz;have h2:=Zha _ x.days (ZcU h i).1;generalize yt (yd i (told 0 p)) x.days=q at h2 ⊢;generalize yd i (told 0 p)=v at h1 h2;refine zr func114 ntmps114 results114 λS nx hd=>?_
 refine D0 ?_;intro v0;refine za (zz (some [nx]) (Row.pures [0,1,2,3,4,5,6,7,8,9] .done) mixed trivial ?_);refine zH (h1) trivial ?_;refine zH (h2) trivial ?_;exact D1 hd
theorem Zqx(x:Inst)(p:zF)(i:Nat)(c:Cust)(h:Serves x p)(hc:x.cust[i]?=some c)(hf:CustFits c):Pure prog 155 [.agg (Zao x p i)] (I (wF c (yt (yd i (told 0 p)) x.days))):=by
 have h1:=Zhi x p i h;have hil:i<x.cust.length:=(Ac.1 hc).1;obtain⟨c',tl,a1,a2,a3,_,e0⟩:=el 8 rfl x.cust i hil;obtain rfl:c'=c:=by rw[a1]at hc;exact Option.some.inj hc
 have h2:=Zg8 c' (yt (yd i (told 0 p)) x.days) hf (by rw[Zaj];omega);generalize yt (yd i (told 0 p)) x.days=q at h1 h2 ⊢;refine zr func155 ntmps155 results155 λS nx hd=>?_
 refine D0 ?_;intro v0;refine za (zz (some [nx]) (Row.pures [0,1,2,3,4,5,6,7,8,9,10] .done) mixed (zo hil e0) ?_);refine zH (h1) trivial ?_;refine zH (h2) trivial ?_;exact D1 hd
theorem Zqy(x:Inst)(p:zF)(i:Nat)(c:Cust)(h:Serves x p)(hc:x.cust[i]?=some c)(hpl:c.pats.length<=1048576):Pure prog 154 [.agg (Zao x p i)] (I (Jk c (yd i (told 0 p)))):=by
 have h1:=ZcJ p i h.sz;have h2:=ZpL p i h.sz;have hvl:=(ZcU h i).1.n;have hil:i<x.cust.length:=(Ac.1 hc).1;obtain⟨c',tl,a1,a2,a3,_,e0⟩:=el 8 rfl x.cust i hil;obtain rfl:c'=c:=by rw[a1]at hc;exact Option.some.inj hc
 generalize yd i (told 0 p)=v at h1 h2 hvl ⊢;have h3:=ZpM (v.map (·.d)) (by simpa using hvl);have h4:=ZpO c'.pats (qf (v.map (·.d))) hpl;unfold Jk;generalize qf (v.map (·.d))=set at h3 h4 ⊢;refine zr func154 ntmps154 results154 λS nx hd=>?_
 refine D0 ?_;intro v0;refine za (ze [] (zo hil e0) ?_);intro v1
 repeat apply za
 refine zb ?_;refine zt h1 ?_;refine zj (zC (λs:Nat=>s<=v.length/\((v.take s).any λs=>decide (s.q≠c'.demand))=false) (λk=>[(1,.ptr nx v0 0),(3,.ptr (nx+1) v1 0),(18,L v),(19,I v.length),(20,I k)]) (λ_=>[.cells v0 171 (Zao x p i),.cells v1 87 (zV c')]) (λs=>v.length-s) 0 [] DR DR DR ?_);rintro k ⟨hk,ho⟩;refine D0 ?_;refine za (zv rfl (λhc1=>?_) (λhc1=>?_))
 ·simp at hc1;obtain⟨s,tl2,b1,b2,b3,e1,e2⟩:=el 2 rfl v k hc1;refine zh (za (zj (za (ze [] (zo hc1 e2) ?_))));intro v2
  by_cases hq:s.q=c'.demand
  ·refine za (ze [] hq ?_);refine zm DR ?_;refine zh (zb ?_);exact zq (k+1) [_] ⟨hc1,by rw[b3,C7,ho];simp[hq]⟩ DQ (by simp[zu k (by omega)]) rfl rfl
  ·have hany:(v.any λs=>decide (s.q≠c'.demand))=true:=by rw[BF];exact⟨s,Ab b1,by simpa using hq⟩
   refine za (ze [] hq ?_);refine zk DR ?_;refine D0 ?_;exact zg (zi hd DT (by rw[if_pos hany];rfl))
 ·simp at hc1;obtain rfl:k=v.length:=DQ
  rw[Ai]at ho;refine zx (D0 ?_);refine zt h2 ?_;refine zt h3 ?_
  repeat apply za
  refine zb ?_;refine zt h4 ?_
  by_cases hm:set∈c'.pats
  ·repeat apply za
   refine zm (by simp[hm]) ?_;refine zh (D0 ?_);exact zg (zi hd DT (by rw[ho];simp[hm,zn]))
  ·repeat apply za
   refine zk (by simp[hm]) ?_;refine D0 ?_;exact zg (zi hd DT (by rw[ho];simp[hm,zn]))
structure CustsOk (x:Inst):Prop where
 n:x.cust.length<=1048576
 kind:∀c∈x.cust,c.kind=1\/c.kind=2
 fits:∀c∈x.cust,CustFits c
 pats:∀c∈x.cust,c.pats.length<=1048576
 wA:∀c∈x.cust,∀p∈c.pats,p<2 ^ 64
theorem Zqz(x:Inst)(p:zF)(i:Nat)(h:Serves x p)(hx:CustsOk x)(hi:i<x.cust.length):Pure prog 112 [.agg (zy x),.agg [L p],I i] (I (xI x p i)):=by
 obtain⟨c,tl,a1,a2,a3,_,e0⟩:=el 8 rfl x.cust i hi;have hcm:=Ab a1;have hres:xI x p i=if c.kind=2 then wF c (yt (yd i (told 0 p)) x.days) else Jk c (yd i (told 0 p)):=by simp only[xI,a1]
 rw[hres];have g0:¬(i:Int)<0:=DQ
 have g1:¬(x.cust.length:Int)<=(i:Int):=DQ
 refine zr func112 ntmps112 results112 λS nx hd=>?_
 refine D0 ?_;intro v0 v1
 repeat apply za
 refine ze [(2,12)] (zA g0 g1 hi) ?_;refine zm DR ?_;refine zh (za (xk [] DW DW λK Gc Gh hK hGc hGh X hX0 hX=>?_));simp -implicitDefEqProofs [hX0,hX]
 try clear hX0 hX X
 intro v2;refine hGh _ _ _ _ _ λhsuf=>Yt (.inr rfl) underlying215 underlying3 rfl (by simp;exact⟨rfl,rfl⟩) DT DT (by simp[jf];rfl) ?_
 refine⟨_,_,yk _ DQ DR,?_⟩;clear hGc hGh;clear Gc Gh;refine xN hsuf (D:=[]) DW λGc Gh hGc hGh X hX0 hX=>?_
 simp -implicitDefEqProofs [hX0,hX];clear hX0 hX X;refine hGh _ _ _ _ _ λhsuf=>Yt (.inr rfl) underlying215 underlying3 rfl (by simp;exact⟨rfl,rfl⟩) DT DT (by simp[jf,qU];rfl) ?_
 refine⟨_,_,yk _ DQ DR,?_⟩;clear hGc hGh;clear Gc Gh;refine xN hsuf (D:=[]) DW λGc Gh hGc hGh X hX0 hX=>?_
 simp -implicitDefEqProofs [hX0,hX,qU];clear hX0 hX X;refine hK _ _ _ ?_;clear hK hGc hGh;clear K Gc Gh;rcases hx.kind c hcm with hk | hk
 ·refine za (xk [] DW DW λK Gc Gh hK hGc hGh X hX0 hX=>?_);simp -implicitDefEqProofs [hX0,hX,hi,e0,hk]
  try clear hX0 hX X
  refine hGh _ _ _ _ _ λhsuf=>Zm rfl underlying215 underlying3 rfl (by simp;exact⟨rfl,rfl⟩) DT DT (by simp[jf,qU];rfl) DT ?_
  refine⟨_,_,rfl,?_⟩;clear hGc hGh;clear Gc Gh;refine xN hsuf (D:=[]) DW λGc Gh hGc hGh X hX0 hX=>?_
  simp -implicitDefEqProofs [hX0,hX,ZR];clear hX0 hX X;refine hK _ _ _ ?_;clear hK hGc hGh;clear K Gc Gh
  repeat apply za
  refine zb ?_;refine zm DR ?_;refine zh (D0 ?_);refine zt (Zqy x p i c h a1 (hx.pats c hcm)) ?_;exact zg (zi hd DT (by simp[hk,zn]))
 ·refine za (xk [] DW DW λK Gc Gh hK hGc hGh X hX0 hX=>?_);simp -implicitDefEqProofs [hX0,hX,hi,e0,hk]
  try clear hX0 hX X
  refine hGh _ _ _ _ _ λhsuf=>Zm rfl underlying215 underlying3 rfl (by simp;exact⟨rfl,rfl⟩) DT DT (by simp[jf,qU];rfl) DT ?_
  refine⟨_,_,rfl,?_⟩;clear hGc hGh;clear Gc Gh;refine xN hsuf (D:=[]) DW λGc Gh hGc hGh X hX0 hX=>?_
  simp -implicitDefEqProofs [hX0,hX,ZR];clear hX0 hX X;refine hK _ _ _ ?_;clear hK hGc hGh;clear K Gc Gh
  repeat apply za
  refine zb ?_;refine zm DR ?_;refine zh (D0 ?_);refine zt (Zqx x p i c h a1 (hx.fits c hcm)) ?_;exact zg (zi hd DT (by simp[hk,zn]))
open Go
theorem Zhj:∀(l:List Int),(∀b∈l,b=0\/b=1)->∀i:Nat,(xn l).toNat.testBit i=decide (l[i]?=some 1)
 | [],_,i=>by simp[xn]
 | b :: l,h,i=>by
  have hl:∀b∈l,b=0\/b=1:=λx hx=>h x (by simp[hx])
  have h0:=(ZbB l hl).1;have hb:=h b DR;have hn:xn (b :: l)=2*xn l+b:=rfl;cases i with
  | zero =>
   rw[Nat.testBit_zero,hn];simp only[Ba,Option.some.injEq];apply decide_eq_decide.2;omega
  | succ i =>
   rw[Nat.testBit_succ,hn];have:(2*xn l+b).toNat / 2=(xn l).toNat:=DQ
   rw[this,Zhj l hl i];simp
theorem Zap(n i:Nat):n.testBit i=decide (yF n i=1):=by rw[CF];rfl
theorem Zhk(n d:Nat)(hn:n<2 ^ 64)(hd:d<64):JZ n d=qk n d:=by
 have h01:∀b∈(qV n).set d 1,b=0\/b=1:=λb hb=>by
  rcases ZbF hb with h | h
  ·exact ZbA n b h
  ·exact .inr h
 apply Nat.eq_of_testBit_eq;intro i;unfold JZ X8 qk;rw[Zhj _ h01,if_pos DQ,De,AJ,Cz,Bv];have hl:=QZ n
 by_cases h:d=i
 ·subst h;simp[hl,hd]
 ·rw[if_neg h]
  by_cases hi:i<64
  ·rw[ZbE n i hi,Zap];simp[h];omega
  ·rw[Ak DQ];have:n.testBit i=false:=CH (Bo hn (Cj DX DQ));simp[this,h]
theorem ZqA(x:Inst)(p:zF)(i:Nat)(h:Serves x p)(hx:CustsOk x)(hi:i<x.cust.length):Pure prog 58 [.agg (zy x),.agg [L p],I i] (I (xI x p i)):=by
 obtain⟨c,tl,a1,a2,a3,_,e0⟩:=el 8 rfl x.cust i hi;have hcm:=Ab a1;have hres:xI x p i=if c.kind=2 then wF c (yt (yd i (told 0 p)) x.days) else Jk c (yd i (told 0 p)):=by simp only[xI,a1]
 rw[hres];have g0:¬(i:Int)<0:=DQ
 have g1:¬(x.cust.length:Int)<=(i:Int):=DQ
 have hvi:=Zhc p i h.sz;obtain⟨hv1,hv2⟩:=ZcU h i;generalize yd (i:Int) (told 0 p)=v at hvi hv1 hv2;have hvl:=hv1.n;refine zr func58 ntmps58 results58 λS nx hd=>?_
 refine D0 ?_;intro v0 v1
 repeat apply za
 refine ze [(2,14)] (zA g0 g1 hi) ?_;refine zm DR ?_;refine zh (za (ze [] (zo hi e0) ?_));intro v2;refine D0 ?_;refine zt hvi ?_
 repeat apply za
 refine zb ?_
 by_cases hk:c.kind=2
 ·have hb:=Zqb v x.days hv1;have hh:=Zqa c (yt v x.days) (hx.fits c hcm) (by rw[Zaj];omega);generalize yt v x.days=q at hb hh ⊢;refine zk (by simp[hk]) ?_;refine za (zz (some [nx,nx+2]) (Row.pures [0,1,2,3,4,5,6] .done) mixed trivial ?_);refine zH (hb) trivial ?_;refine zH (hh) trivial ?_;exact zg (zi hd DT (by simp[hk,zn]))
 ·have hpl:=hx.pats c hcm;rw[if_neg hk];unfold Jk;refine zm (by simp[hk]) ?_;refine zh (D0 ?_)
  repeat apply za
  refine zb ?_;refine qa (nx:=nx) (σ:=Unit) (λ_=>(v.any λs=>decide (s.q≠c.demand))=false) (λ_=>[(7,.ptr (nx+2) v2 0),(9,U (qf (v.map (·.d))))]) (λ_=>S) (λ_=>[.cells v0 25 (zy x),.cells v1 30 [L p],.cells v2 87 (zV c)]) ?_ ?_
  ·refine zj (zC (λs:Nat=>s<=v.length/\((v.take s).any λs=>decide (s.q≠c.demand))=false) (λk=>[(7,.ptr (nx+2) v2 0),(8,L v),(9,U (qf ((v.map (·.d)).take k))),(10,I k)]) (λ_=>[.cells v0 25 (zy x),.cells v1 30 [L p],.cells v2 87 (zV c)]) (λs=>v.length-s) 0 [] DR (by simp[qf]) DR ?_);rintro k ⟨hk2,ho⟩
   repeat apply za
   refine zb ?_;refine zv rfl (λhc1=>?_) (λhc1=>?_)
   ·simp at hc1;obtain⟨s,tl2,b1,b2,b3,e1,e2⟩:=el 2 rfl v k hc1;have e21:=e1 1 DQ;have hs:=hv2 s (Ab b1);have hol:=Zg2 ((v.map (·.d)).take k);refine zh (za (zj ?_))
    by_cases hq:s.q=c.demand
    ·repeat apply za
     refine zz (some [nx+2]) (Row.pures [0,1,2,3,4,5,6,7] .done) mixed (zA hc1 e21 hq) ?_;refine zm DR ?_;refine zh ?_;obtain⟨dn,hdn⟩:=Au hs.1;have hpt:=ZeT (qf ((v.map (·.d)).take k)) s.d hol hs.1 hs.2;rw[(ZbG _ _).1,hdn,AJ,Zhk _ dn hol DQ]at hpt;have hnx:qk (qf ((v.map (·.d)).take k)) dn=qf ((v.map (·.d)).take (k+1)):=by rw[<-List.map_take,<-List.map_take,b3];simp[qf,hdn]
     rw[hnx]at hpt;refine ze [] (zA hc1 e2 hdn) ?_;refine zt hpt ?_;refine zb ?_;exact zq (k+1) [] ⟨hc1,by rw[b3,C7,ho];simp[hq]⟩ DQ (by simp[zu k (by omega)]) rfl DR
    ·have hany:(v.any λs=>decide (s.q≠c.demand))=true:=by rw[BF];exact⟨s,Ab b1,by simpa using hq⟩
     repeat apply za
     refine zz (some [nx+2]) (Row.pures [0,1,2,3,4,5,6,7] .done) mixed (zA hc1 e21 hq) ?_;refine zk (by simp[hq]) ?_;refine D0 ?_;exact zg (zi hd DT (by rw[if_pos hany];rfl))
   ·simp at hc1;obtain rfl:k=v.length:=DQ
    rw[Ai]at ho;have htl:(v.map (·.d)).take v.length=v.map (·.d):=Ae DR;exact zx (zS () [] ho (by simp[htl]) rfl DR)
  intro _ ho;rw[ho];generalize qf (v.map (·.d))=set
  repeat apply za
  refine zb ?_;refine zj (zC (λs:Nat=>s<=c.pats.length/\set ∉ c.pats.take s) (λk=>[(7,.ptr (nx+2) v2 0),(9,U set),(11,I k)]) (λ_=>[.cells v0 25 (zy x),.cells v1 30 [L p],.cells v2 87 (zV c)]) (λs=>c.pats.length-s) 0 [] DR DR DR ?_);rintro k ⟨hk2,hno⟩
  repeat apply za
  refine zb ?_;refine zv rfl (λhc1=>?_) (λhc1=>?_)
  ·simp at hc1;obtain⟨q,tl2,b1,b2,b3,e2⟩:=zE rfl c.pats k hc1;refine zh (za (zj ?_))
   by_cases hq:q=set
   ·subst hq;refine za (ze [] (zo hc1 e2) ?_);refine zk DR ?_;refine D0 ?_;exact zg (zi hd DT (by simp[Ab b1,zn]))
   ·have hq':¬((q:Int)=(set:Int)):=DQ
    refine za (ze [] (zJ hc1 e2 hq hq') ?_);refine zm DR ?_;refine zh (zb ?_);exact zq (k+1) [] ⟨hc1,by rw[b3];simp;exact⟨hno,λe=>hq e.symm⟩⟩ DQ (by simp[zu k (by omega)]) rfl DR
  ·simp at hc1;obtain rfl:k=c.pats.length:=DQ
   rw[Ai]at hno;refine zx (D0 ?_);exact zg (zi hd DT (by simp[hno,zn]))
open Go
def qL:List Int->Int
 | []=>0
 | e :: l=>if e≠0 then e else qL l
theorem Xk{l:List Int}(h:∀e∈l,e=0):qL l=0:=by
 induction l with
 | nil=>rfl
 | cons e l ih=>simp only[qL,h e DR,ne_eq,not_true,if_false];exact ih λx hx=>h x (by simp[hx])
theorem Wz{l:List Int}{k:Nat}{e:Int}(h:∀e∈l.take k,e=0)(hk:l[k]?=some e)(he:e≠0):qL l=e:=by
 induction l generalizing k with
 | nil=>cases hk
 | cons a l ih =>
  cases k with
  | zero=>simp at hk;subst hk;simp[qL,he]
  | succ k =>
   simp only[qL,h a DR,ne_eq,not_true,if_false];exact ih (k:=k) (λx hx=>h x (by rw[C5];simp[hx])) (by simpa using hk)
theorem ZcV(l:List Int):qL l=0<->∀e∈l,e=0:=by
 refine⟨λh=>?_,Xk⟩
 induction l with
 | nil=>intro e he;cases he
 | cons a l ih =>
  simp only[qL]at h;split at h
  ·rename_i hne;exact absurd h hne
  ·rename_i hne;intro e he;rcases As.1 he with rfl | he
   ·simpa using hne
   ·exact ih h e he
def wJ(x:Inst)(p:zF):Int :=
 if yM x=false then 3 else if (p.length:Int)≠x.days then 1 else if qL (p.map (yg x))≠0 then qL (p.map (yg x)) else qL ((List.range x.cust.length).map (xI x p))
structure PlanSz (p:zF):Prop where
 ok:PlanOk p
 f:∀d∈p,d.flatten.length<=1048576
theorem ZcW:∀(p:zF) (i:Nat) (x:Stop × Nat),x∈told i p->∃d∈p,x.1∈d.flatten
 | [],_,_,h=>by cases h
 | d :: p,i,x,h=>by
  simp only[told,Ay,Al]at h;rcases h with ⟨s,hs,rfl⟩ | h
  ·exact⟨d,by simp,hs⟩
  ·obtain⟨d',h1,h2⟩:=ZcW p (i+1) x h;exact⟨d',by simp[h1],h2⟩
theorem ZcX{x:Inst}{d:zp}(h:yg x d=0):∀s∈d.flatten,qZ x s=true:=by
 intro s hs;obtain⟨t,ht,hst⟩:=BJ.1 hs;have hm:zQ x t=0:=by
  unfold yg at h;split at h
  ·rename_i u hu;have:=List.find?_some hu;simp[h]at this
  ·rename_i hn;rw[List.find?_eq_none]at hn;simpa using hn t ht
 have:qP x t=true:=by
  by_cases q:qP x t=true
  ·exact q
  ·simp[zQ,q]at hm
 unfold qP at this;simp only[Av,Ax]at this;exact this.1 s hst
theorem Zhl{x:Inst}{p:zF}(hp:PlanSz p)(hx:InstOk x)(hm:yM x=true)(hd:(p.length:Int)=x.days)(h0:∀d∈p,yg x d=0):Serves x p:=by
 have hdays:1<=x.days/\x.days<=64:=by
  unfold yM at hm;simp only[Av]at hm;have:=hm.1.1.1.1.1.1;simpa[zM] using this
 refine⟨hp.ok,λs hs=>?_,by omega⟩;obtain⟨d,hd,hsd⟩:=ZcW p 0 s hs;have:=ZcX (h0 d hd) s.1 hsd;simp[qZ]at this;omega
theorem Zhm{x:Inst}(hx:InstOk x)(hm:yM x=true):CustsOk x:=by
 unfold yM at hm;simp only[Av,decide_eq_true_eq,Ax]at hm;obtain⟨⟨⟨⟨⟨⟨_,h1⟩,_⟩,_⟩,_⟩,h2⟩,_⟩:=hm;have hk:∀c∈x.cust,c.kind=1\/c.kind=2:=λc hc=>by
  have:=h2 c hc
  by_cases k1:c.kind=1
  ·exact .inl k1
  ·by_cases k2:c.kind=2
   ·exact .inr k2
   ·rw[Zhg c _ k1 k2]at this;cases this
 refine⟨by omega,hk,λc hc=>?_,λc hc=>?_,λc hc=>(hx.cust c hc).pats⟩
 ·have hb:=h2 c hc;rcases hk c hc with k | k
  ·rw[ZcS c _ k]at hb;simp only[Av,xx,decide_eq_true_eq]at hb;obtain⟨_,a,b,c,_⟩:=hb;exact⟨by omega,by omega,by omega⟩
  ·rw[ZcT c _ k]at hb;simp only[Av,zM,decide_eq_true_eq]at hb;obtain⟨⟨⟨⟨⟨a,b⟩,c⟩,_⟩,_⟩,_⟩:=hb;exact⟨by omega,by omega,by omega⟩
 ·have hb:=h2 c hc;rcases hk c hc with k | k
  ·rw[ZcS c _ k]at hb;simp only[Av,vN,zM,decide_eq_true_eq]at hb;omega
  ·rw[ZcT c _ k]at hb;simp only[Av,uo,decide_eq_true_eq]at hb;omega
theorem ZqB(x:Inst)(p:zF)(hx:InstOk x)(hp:PlanSz p):Pure prog 67 [.agg (zy x),.agg [L p]] (I (wJ x p)):=by
 have hpn:=hp.ok.n;refine zr func67 ntmps67 results67 λS nx hd=>?_
 refine D0 ?_;intro v0 v1
 repeat apply za
 refine zb ?_;refine zt (Zhf x hx) ?_;cases hm:yM x with
 | false =>
  refine zk DR ?_;refine D0 ?_;exact zg (zi hd DT (by simp[wJ,hm,zn]))
 | true =>
  have hcs:=Zhm hx hm;have hcn:=hcs.n;refine zm DR ?_;refine zh ?_
  by_cases hpd:(p.length:Int)=x.days
  case neg =>
   repeat apply za
   refine ze [] hpd ?_;refine zk (by simp[hpd]) ?_;refine D0 ?_;exact zg (zi hd DT (by simp[wJ,hm,hpd,zn]))
  have hres:wJ x p=if qL (p.map (yg x))≠0 then qL (p.map (yg x)) else qL ((List.range x.cust.length).map (xI x p)):=by simp[wJ,hm,hpd]
  repeat apply za
  refine ze [] hpd ?_;refine zm (by simp[hpd]) ?_;refine zh ?_
  repeat apply za
  refine zb ?_;refine qa (nx:=nx) (σ:=Unit) (λ_=>∀d∈p,yg x d=0) (λ_=>[(2,.ptr nx v0 0),(3,.ptr (nx+1) v1 0)]) (λ_=>S) (λ_=>[.cells v0 25 (zy x),.cells v1 30 [L p]]) ?_ ?_
  ·refine zj (zC (λs:Nat=>s<=p.length/\∀d∈p.take s,yg x d=0) (λk=>[(2,.ptr nx v0 0),(3,.ptr (nx+1) v1 0),(20,L p),(21,I p.length),(22,I k)]) (λ_=>[.cells v0 25 (zy x),.cells v1 30 [L p]]) (λs=>p.length-s) 0 [] DR (by simp[hpd]) DR ?_);rintro k ⟨hk,ho⟩;refine D0 ?_;refine za (zv rfl (λhc=>?_) (λhc=>?_))
   ·simp at hc;obtain⟨d,tl,a1,a2,a3,e0⟩:=zE rfl p k hc;have hdm:=Ab a1;refine zh (za (zj (za (ze [] (zo hc e0) ?_))));intro v2;refine D0 ?_;refine zt (ZbO x d hcn (hp.ok.d d hdm) (hp.ok.t d hdm) (hp.f d hdm)) ?_
    by_cases h0:yg x d=0
    ·refine za (ze [] h0 ?_);refine zm (by simp[h0]) ?_;refine zh (zb ?_);exact zq (k+1) [_] ⟨hc,λe he=>by rw[a3]at he;rcases Ay.1 he with he | he;exact ho e he;rw[AY.1 he];exact h0⟩ DQ (by simp[zu k (by omega)]) rfl rfl
    ·have hf:qL (p.map (yg x))=yg x d:=Wz (k:=k) (λe he=>by rw[<-List.map_take]at he;obtain⟨u,hu,rfl⟩:=Al.1 he;exact ho u hu) (by rw[Aj,a1];rfl) h0;refine za (ze [] h0 ?_);refine zk (by simp[h0]) ?_;refine D0 ?_;exact zg (zi hd DT (by rw[hres,hf];simp[h0,zn]))
   ·simp at hc;obtain rfl:k=p.length:=DQ
    rw[Ai]at ho;exact zx (zS () [] ho DR rfl DR)
  intro _ hall;have hsv:=Zhl hp hx hm hpd hall;have hf0:qL (p.map (yg x))=0:=Xk λe he=>by obtain⟨u,hu,rfl⟩:=Al.1 he;exact hall u hu
  rw[hf0]at hres;simp only[ne_eq,not_true,if_false]at hres;rw[hres]
  repeat apply za
  refine zb ?_;refine zj (zC (λs:Nat=>s<=x.cust.length/\∀i<s,xI x p i=0) (λk=>[(2,.ptr nx v0 0),(3,.ptr (nx+1) v1 0),(35,I x.cust.length),(36,I k)]) (λ_=>[.cells v0 25 (zy x),.cells v1 30 [L p]]) (λs=>x.cust.length-s) 0 [] DR DR DR ?_);rintro k ⟨hk,ho⟩;refine D0 ?_;refine za (zv rfl (λhc=>?_) (λhc=>?_))
  ·simp at hc;refine zh (za (zj (D0 ?_)));refine D0 ?_;refine zt (Zqz x p k hsv hcs hc) ?_
   by_cases h0:xI x p k=0
   ·refine za (ze [] h0 ?_);refine zm (by simp[h0]) ?_;refine zh (zb ?_);exact zq (k+1) [] ⟨hc,λi hi=>by by_cases q:i=k;rw[q];exact h0;exact ho i DQ⟩ DQ (by simp[zu k (by omega)]) rfl DR
   ·have hf:qL ((List.range x.cust.length).map (xI x p))=xI x p k:=Wz (k:=k) (λe he=>by rw[<-List.map_take]at he;obtain⟨u,hu,rfl⟩:=Al.1 he;rw[List.take_range]at hu;have:=AL.1 hu;exact ho u DQ) (by rw[Aj,Bc hc];rfl) h0;refine za (ze [] h0 ?_);refine zk (by simp[h0]) ?_;refine D0 ?_;exact zg (zi hd DT (by rw[hf];rfl))
  ·simp at hc;obtain rfl:k=x.cust.length:=DQ
   refine zx (D0 ?_);exact zg (zi hd DT (by rw[Xk λe he=>by obtain⟨u,hu,rfl⟩:=Al.1 he;exact ho u (AL.1 hu)];rfl))
theorem ZqC(x:Inst)(p:zF)(hx:InstOk x)(hp:PlanSz p):Pure prog 20 [.agg (zy x),.agg [L p]] (I (wJ x p)):=by
 have hpn:=hp.ok.n;refine zr func20 ntmps20 results20 λS nx hd=>?_
 refine D0 ?_;intro v0 v1;refine D0 ?_;refine zt (Zqw x hx) ?_;cases hm:yM x with
 | false =>
  repeat apply za
  refine zb ?_;refine zk rfl (D0 ?_);exact zg (zi hd DT (by simp[wJ,hm,zn]))
 | true =>
  have hcs:=Zhm hx hm;have hcn:=hcs.n
  repeat apply za
  refine zb ?_;refine zm rfl (zh ?_)
  by_cases hpd:(p.length:Int)=x.days
  case neg =>
   repeat apply za
   refine ze [] hpd ?_;refine zk (by simp[hpd]) ?_;refine D0 ?_;exact zg (zi hd DT (by simp[wJ,hm,hpd,zn]))
  have hres:wJ x p=if qL (p.map (yg x))≠0 then qL (p.map (yg x)) else qL ((List.range x.cust.length).map (xI x p)):=by simp[wJ,hm,hpd]
  repeat apply za
  refine ze [] hpd ?_;refine zm (by simp[hpd]) ?_;refine zh ?_
  repeat apply za
  refine zb ?_;refine qa (nx:=nx) (σ:=Unit) (λ_=>∀d∈p,yg x d=0) (λ_=>[(2,.ptr nx v0 0),(3,.ptr (nx+1) v1 0)]) (λ_=>S) (λ_=>[.cells v0 25 (zy x),.cells v1 30 [L p]]) ?_ ?_
  ·refine zj (zC (λs:Nat=>s<=p.length/\∀d∈p.take s,yg x d=0) (λk=>[(2,.ptr nx v0 0),(3,.ptr (nx+1) v1 0),(6,I k)]) (λ_=>[.cells v0 25 (zy x),.cells v1 30 [L p]]) (λs=>p.length-s) 0 [] DR DR DR ?_);rintro k ⟨hk,ho⟩
   repeat apply za
   refine zb ?_;refine zv rfl (λhc=>?_) (λhc=>?_)
   ·simp at hc;obtain⟨d,tl,a1,a2,a3,e0⟩:=zE rfl p k hc;have hdm:=Ab a1;refine zh (za (zj (za (zz (some [nx,nx+1]) (Row.pures [0,1,2,3,4,5,6,7] .done) mixed (zo hc e0) ?_))));refine zH (Zl0 x d hcn (hp.ok.d d hdm) (hp.ok.t d hdm) (hp.f d hdm)) trivial ?_
    by_cases h0:yg x d=0
    ·refine za (ze [] h0 ?_);refine zm (by simp[h0]) ?_;refine zh (zb ?_);exact zq (k+1) [] ⟨hc,λe he=>by rw[a3]at he;rcases Ay.1 he with he | he;exact ho e he;rw[AY.1 he];exact h0⟩ DQ (by simp[zu k (by omega)]) rfl DR
    ·have hf:qL (p.map (yg x))=yg x d:=Wz (k:=k) (λe he=>by rw[<-List.map_take]at he;obtain⟨u,hu,rfl⟩:=Al.1 he;exact ho u hu) (by rw[Aj,a1];rfl) h0;refine za (ze [] h0 ?_);refine zk (by simp[h0]) ?_;refine D0 ?_;exact zg (zi hd DT (by rw[hres,hf];simp[h0,zn]))
   ·simp at hc;obtain rfl:k=p.length:=DQ
    rw[Ai]at ho;exact zx (zS () [] ho DR rfl DR)
  intro _ hall;have hsv:=Zhl hp hx hm hpd hall;have hf0:qL (p.map (yg x))=0:=Xk λe he=>by obtain⟨u,hu,rfl⟩:=Al.1 he;exact hall u hu
  rw[hf0]at hres;simp only[ne_eq,not_true,if_false]at hres;rw[hres]
  repeat apply za
  refine zb ?_;refine zj (zC (λs:Nat=>s<=x.cust.length/\∀i<s,xI x p i=0) (λk=>[(2,.ptr nx v0 0),(3,.ptr (nx+1) v1 0),(8,I k)]) (λ_=>[.cells v0 25 (zy x),.cells v1 30 [L p]]) (λs=>x.cust.length-s) 0 [] DR DR DR ?_);rintro k ⟨hk,ho⟩
  repeat apply za
  refine zb ?_;refine zv rfl (λhc=>?_) (λhc=>?_)
  ·simp at hc;refine zh (za (zj (D0 ?_)));refine zt (ZqA x p k hsv hcs hc) ?_
   by_cases h0:xI x p k=0
   ·refine za (ze [] h0 ?_);refine zm (by simp[h0]) ?_;refine zh (zb ?_);exact zq (k+1) [] ⟨hc,λi hi=>by by_cases q:i=k;rw[q];exact h0;exact ho i DQ⟩ DQ (by simp[zu k (by omega)]) rfl DR
   ·have hf:qL ((List.range x.cust.length).map (xI x p))=xI x p k:=Wz (k:=k) (λe he=>by rw[<-List.map_take]at he;obtain⟨u,hu,rfl⟩:=Al.1 he;rw[List.take_range]at hu;have:=AL.1 hu;exact ho u DQ) (by rw[Aj,Bc hc];rfl) h0;refine za (ze [] h0 ?_);refine zk (by simp[h0]) ?_;refine D0 ?_;exact zg (zi hd DT (by rw[hf];rfl))
  ·simp at hc;obtain rfl:k=x.cust.length:=DQ
   refine zx (D0 ?_);exact zg (zi hd DT (by rw[Xk λe he=>by obtain⟨u,hu,rfl⟩:=Al.1 he;exact ho u (AL.1 hu)];rfl))
open Go Go.Proofs Hp
def Jl(l:List Visit)(day:Int)(i k:Nat):List Stop:=((l.take k).filter (λw=>w.d=day)).map λw=>⟨i,w.q⟩
def YH(v:List (List Visit))(day:Int)(i:Nat):List Stop:=((v.getD i []).filter (λw=>w.d=day)).map λw=>⟨i,w.q⟩
def xe(v:List (List Visit))(day:Int)(n:Nat):List Stop:=(List.range n).flatMap (YH v day)
theorem Zhn(v:List (List Visit))(day:Int)(n:Nat):xe v day (n+1)=xe v day n++YH v day n:=by simp[xe,AK]
theorem ZqD(l:List Visit)(day:Int)(i:Nat):Jl l day i 0=[]:=rfl
theorem ZqE(v:List (List Visit))(day:Int)(i:Nat)(l:List Visit)(h:v[i]?=some l):Jl l day i l.length=YH v day i:=by simp_all[Jl,YH]
theorem Zho{l:List Visit}{k:Nat}{w:Visit}(h:l[k]?=some w)(day:Int)(i:Nat):Jl l day i (k+1)=Jl l day i k++(if w.d=day then [⟨i,w.q⟩] else []):=by grind[Jl,List.take_add_one]
structure VsOk (m n:Nat) (v:List (List Visit)):Prop where
 len:v.length=m
 ok:∀l∈v,∀w∈l,(0<=w.d/\w.d<n)/\1<=w.q/\w.q<=2147483648
 nd:∀l∈v,(l.map (·.d)).Nodup
 few:∀l∈v,l.length<=1000
theorem VsOk.at{m n:Nat}{v:List (List Visit)}(h:VsOk m n v)(i:Nat):(∀w∈v.getD i [],(0<=w.d/\w.d<n)/\1<=w.q/\w.q<=2147483648)/\((v.getD i []).map (·.d)).Nodup:=by
 rw[Aa];cases e:v[i]? with
 | none=>simp
 | some l=>exact⟨h.ok l (Ab e),h.nd l (Ab e)⟩
theorem ZqF{l:List Visit}(h:(l.map (·.d)).Nodup)(day:Int):(l.filter (λw=>w.d=day)).length<=1:=by
 have h1:=(List.filter_sublist (p:=λw:Visit=>decide (w.d=day)) (l:=l)).map (·.d);have h2:=h.sublist h1;have h3:∀w∈l.filter (λw=>w.d=day),w.d=day:=λw hw=>by simp_all
 generalize l.filter (λw=>decide (w.d=day))=m at h2 h3
 match m,h2,h3 with
 | [],_,_=>simp
 | [_],_,_=>simp
 | a :: b :: m,h2,h3 =>
  simp_all
theorem ZqG{m n:Nat}{v:List (List Visit)}(h:VsOk m n v)(day:Int)(i:Nat):(YH v day i).length<=1:=by
 unfold YH;rw[List.length_map];exact ZqF (h.at i).2 day
theorem ZqH{m n:Nat}{v:List (List Visit)}(h:VsOk m n v){day:Int}{i:Nat}{s:Stop}(hs:s∈YH v day i):s.c=i/\1<=s.q/\s.q<=2147483648:=by
 obtain⟨w,hw,rfl⟩:=Al.1 hs;exact⟨rfl,((h.at i).1 w (Bj.1 hw).1).2⟩
theorem ZcY{m n:Nat}{v:List (List Visit)}(h:VsOk m n v)(day:Int):∀k:Nat,(xe v day k).length<=k/\(∀s∈xe v day k,(0<=s.c/\s.c<k)/\1<=s.q/\s.q<=2147483648)/\((xe v day k).map (·.c)).Nodup
 | 0=>⟨by simp[xe],by simp[xe],by simp[xe]⟩
 | k+1=>by
  obtain⟨h1,h2,h3⟩:=ZcY h day k;have h4:=ZqG h day k;have h5:∀s∈YH v day k,s.c=k/\1<=s.q/\s.q<=2147483648:=λs hs=>ZqH h hs
  rw[Zhn];refine⟨by grind,λs hs=>?_,?_⟩
  ·grind
  ·rw[List.map_append];generalize YH v day k=e at h4 h5
   match e,h4,h5 with
   | [],_,_=>simpa using h3
   | [s],_,h5 =>
    grind
   | _ :: _ :: _,h4,_=>simp at h4
structure InstH (x:Inst):Prop where
 cust:x.cust.length<=1000
 diag:arc x 0 0=0
 arc:q9 x
 veh:0<=x.veh
theorem Zhp{x:Inst}(hx:InstH x){n:Nat}{v:List (List Visit)}(h:VsOk x.cust.length n v)(day:Int):SOk x (xe v day x.cust.length):=by
 obtain⟨h1,h2,h3⟩:=ZcY h day x.cust.length;have:=hx.cust;exact⟨by omega,hx.arc,hx.veh,by omega,λs hs=>by grind[qb],h3⟩
def Xl(x:Inst)(v:List (List Visit))(b:Int)(n:Nat):List (zp × Int):=(List.range n).map λd:Nat=>uN x b (xe v d x.cust.length)
def xT(x:Inst)(v:List (List Visit))(b:Int)(n:Nat):zF:=(Xl x v b n).map (·.1)
def js(x:Inst)(v:List (List Visit))(b:Int)(n:Nat):List Int:=(Xl x v b n).map (·.2)
theorem ZcZ(x:Inst)(v:List (List Visit))(b:Int)(n:Nat):(xT x v b n).length=n:=by simp[xT,Xl]
theorem Zhq(x:Inst)(v:List (List Visit))(b:Int)(n:Nat):(js x v b n).length=n:=by simp[js,Xl]
theorem ZqI(x:Inst)(v:List (List Visit))(b:Int)(n:Nat):xT x v b (n+1)=xT x v b n++[(uN x b (xe v n x.cust.length)).1]:=by simp[xT,Xl,AK]
theorem ZqJ(x:Inst)(v:List (List Visit))(b:Int)(n:Nat):js x v b (n+1)=js x v b n++[(uN x b (xe v n x.cust.length)).2]:=by simp[js,Xl,AK]
open Go Go.Proofs Hp
theorem ZqK(x:Inst)(v:List (List Visit))(day:Int)(n:Nat)(hx:x.cust.length<=1000)(hv:VsOk x.cust.length n v):Pure prog 250 [.agg (zy x),L v,I day] (L (xe v day x.cust.length)):=by
 have hvl:=hv.len;have hso:=λk=>(ZcY hv day k).1
 have hmi:xh (x.cust.length:Int) (x.cust.length:Int)=x.cust.length:=by unfold xh;simp
 refine zr func250 ntmps250 results250 λS nx hd=>?_
 refine D0 ?_;intro v0;refine D0 ?_;refine za (qt 7 100 2 rfl λv1=>?_);refine D0 ?_;refine zj (zC (λs:Nat × List Stop × Nat=>s.1<=x.cust.length/\s.2.1=xe v day s.1) (λ(i,out,w)=>[(1,L v),(2,I day),(7,.sl (nx+1) w 2 0 out.length),(16,I x.cust.length),(17,I i)]) (λ(i,out,w)=>[.cells v0 25 (zy x),.cells w 100 (out.flatMap Enc.enc)]) (λs=>x.cust.length-s.1) (0,[],v1) [] (by simp[xe]) (by simp[hvl,hmi]) DR ?_);rintro⟨i,out,w⟩ ⟨hi,ho⟩;simp only at hi ho ⊢;refine D0 ?_;refine za (zv rfl (λhc=>?_) (λhc=>?_))
 ·simp at hc;have hiv:i<v.length:=DQ
  obtain⟨l,tl,a1,a2,a3,e0⟩:=zE rfl v i hiv;have hll:=hv.few l (Ab a1);have hoi:=hso i;refine zh (za (zj (D0 ?_)));refine za (ze [] (zo e0 hiv) ?_);refine zj (zC (λs:Nat × List Stop × Nat=>s.1<=l.length/\s.2.1=xe v day i++Jl l day i s.1/\s.2.1.length<=i+s.1) (λ(k,out,w)=>[(1,L v),(2,I day),(7,.sl (nx+1) w 2 0 out.length),(8,I i),(16,I x.cust.length),(17,I i),(23,L l),(24,I l.length),(25,I k)]) (λ(k,out,w)=>[.cells v0 25 (zy x),.cells w 100 (out.flatMap Enc.enc)]) (λs=>l.length-s.1) (0,out,w) [] ⟨by simp,by simp[ZqD,ho],by simp[ho];omega⟩ DR DR ?_);clear ho;rintro⟨k,out,w⟩ ⟨hk,ho,hol⟩;simp only at hk ho hol ⊢;refine D0 ?_;refine za (zv rfl (λhc2=>?_) (λhc2=>?_))
  ·simp at hc2;obtain⟨s,tl2,b1,b2,b3,e1,e2⟩:=el 2 rfl l k hc2;refine zh (za (zj (za (ze [] (zA e1 e2 hc2) ?_))));intro v2;refine D0 ?_
   by_cases hd:s.d=day
   ·repeat apply za
    refine zk (by simp[hd]) ?_;refine zb ?_;refine⟨by omega,?_⟩;refine zb ?_;exact zq (k+1,out++[⟨i,s.q⟩],w+1) [_] ⟨hc2,by rw[Zho b1,if_pos hd,ho];simp,by simp;omega⟩ DV (by simp[zu k (by omega)]) rfl DT
   ·repeat apply za
    refine zm (by simp[hd]) ?_;refine zh (zb ?_);exact zq (k+1,out,w) [_] ⟨hc2,by rw[Zho b1,if_neg hd,ho];simp,by dsimp only;omega⟩ DV (by simp[zu k (by omega)]) rfl DT
  ·simp at hc2;obtain rfl:k=l.length:=DQ
   rw[ZqE v day i l a1,<-Zhn]at ho;refine zx (zb ?_);exact zq (i+1,out,w) [] ⟨hc,ho⟩ DV (by simp[zu i (by omega)]) rfl DR
 ·simp at hc;obtain rfl:i=x.cust.length:=DQ
  refine zx (zZ 1 rfl ?_);refine D0 ?_;exact zg (zi hd DT (by simp[zn,ho]))
open Go
section
variable {P:Program} {r:Rd} {n N:Nat} {Q:Exit->(Nat->PV)->Store->Prop} {F:Nat->PV} {c:Code}
theorem ZqL{S1 T:Store}{G:Nat->PV}{id ver e:Nat}{cs:List PV}(hid:S1 id=.cells ver e cs)(hT:T id=.dead)(hat:∀o,T o=.dead\/T o=S1 o\/T o=xG id ver cs (S1 o))
  (hG:∀i,G i=F i\/G i=qz id ver cs (F i)) (h:PW P r n N c Q G T):PW P r n N c Q F S1:=by
 refine Yr (F':=G) (S':=T) (λC w a st=>?_) h;have hver:∀o v,(T o).ver=some v->(S1 o).ver=some v:=by
  intro o v hv;rcases hat o with q | q | q
  ·rw[q]at hv;cases hv
  ·simp_all
  ·grind[ZeC]
 have hne:∀o,T o≠.dead->S1 o≠.dead:=by
  intro o ho hd;rcases hat o with q | q | q
  ·exact ho q
  ·simp_all
  ·simp_all
 have hM:∀b,C.M T b->C.M S1 b:=λb ⟨o,k,ho,hl⟩=>⟨o,k,hne o ho,hl⟩
 have hstep:Step C S1 w C T w:=⟨rfl,⟨rfl,Ag _⟩,rfl,Ag _,Ag _,Ag _,λb _ hb=>⟨rfl,λh=>hb (hM b h)⟩,λo v1 hv=>.inr ⟨v1,hver o v1 hv,Ag _,λ_=>rfl⟩⟩;have hrel:∀{p u},Rel C S1 w p u->Rel C T w (qz id ver cs p) u:=λh=>VG st.sim hid hT hne hstep h
 refine⟨C,⟨⟨λo ho=>st.sim.lt o (hne o ho),λo v hv=>st.sim.clk o v (hver o v hv),λo o' b k k' ho ho'=>st.sim.dist o o' b k k' (hne o ho) (hne o' ho'),?_,?_⟩,st.size,λi=>?_,r.keep hstep st.v⟩,hstep⟩
 ·intro o v e' ds ho;rcases hat o with q | q | q
  ·simp_all
  ·rw[q]at ho;rcases st.sim.cells o v e' ds ho with hn | ⟨b,k,c,h1,h2,h3,h4,h5,h6⟩
   ·exact .inl hn
   ·exact .inr ⟨b,k,c,h1,h2,h3,h4,h5,λi p u hp hu=>(h6 i p u hp hu).mono hstep⟩
  ·rw[q]at ho;cases hs:S1 o with
   | dead=>simp_all
   | map v es=>simp_all
   | cells v2 e2 ds2 =>
    rw[hs]at ho;cases ho;rcases st.sim.cells o _ _ ds2 hs with ⟨h1,h2⟩ | ⟨b,k,c,h1,h2,h3,h4,h5,h6⟩<;>grind
 ·intro o v es ho;have hs:S1 o=.map v es:=by
   rcases hat o with q | q | q
   ·simp_all
   ·simp_all
   ·rw[q]at ho;cases hs:S1 o with
    | dead=>simp_all
    | map v es=>simp_all
    | cells v2 e2 ds2=>simp_all
  obtain⟨b,k,ms,cl,h1,h2,h3,h4⟩:=st.sim.maps o v es hs;exact⟨b,k,ms,cl,h1,h2,h3,λi x m hx hm=>⟨(h4 i x m hx hm).1,(h4 i x m hx hm).2.mono hstep⟩⟩
 ·rcases hG i with q | q
  ·rw[q];exact(st.fr i).mono hstep
  ·rw[q];exact hrel (st.fr i)
def vQ{α:Type}(base sz:Nat)(ws:Nat->Nat)(rows:List (List α)):List PV:=(List.range rows.length).map λi=>.sl (base+i) (ws i) sz 0 (rows.getD i []).length
theorem Zc0{α:Type}(base sz:Nat)(ws:Nat->Nat)(rows:List (List α)):(vQ base sz ws rows).length=rows.length:=by simp[vQ]
theorem Zhr{α:Type}(base sz:Nat)(ws:Nat->Nat)(rows:List (List α))(i:Nat)(h:i<rows.length):(vQ base sz ws rows)[i]?=some (.sl (base+i) (ws i) sz 0 (rows.getD i []).length):=by
 simp[vQ,h]
theorem Zc1{α:Type}(base sz:Nat)(ws:Nat->Nat)(rows:List (List α))(i:Nat)(h:i<rows.length):∃tl,(vQ base sz ws rows).drop i=.sl (base+i) (ws i) sz 0 (rows.getD i []).length :: tl:=by
 refine⟨(vQ base sz ws rows).drop (i+1),?_⟩
 grind[vQ,List.drop_eq_getElem_cons]
structure RowsAt {α:Type} [Enc α] (T:Store) (A va tA base e sz:Nat) (ws:Nat->Nat) (rows:List (List α)):Prop where
 arr:T A=.cells va tA (vQ base sz ws rows)
 row:∀i,i<rows.length->T (base+i)=.cells (ws i) e ((rows.getD i []).flatMap Enc.enc)
 out:A<base
theorem RowsAt.other{α:Type}[Enc α]{T T':Store}{A va tA base e sz:Nat}{ws:Nat->Nat}{rows:List (List α)}(h:RowsAt T A va tA base e sz ws rows)(hT:∀o,o=A\/(base<=o/\o<base+rows.length)->T' o=T o):RowsAt T' A va tA base e sz ws rows :=
 ⟨(hT A (.inl rfl)).trans h.arr,λi hi=>(hT _ (.inr ⟨by omega,by omega⟩)).trans (h.row i hi),h.out⟩
theorem RowsAt.turn{α:Type}[Enc α]{T T':Store}{A va tA base e sz:Nat}{ws:Nat->Nat}{rows:List (List α)}(h:RowsAt T A va tA base e sz ws rows){i:Nat}(hi:i<rows.length)(w:Nat)(l:List α)
  (hA:T' A=.cells va tA ((vQ base sz ws rows).set i (.sl (base+i) w sz 0 l.length))) (hB:T' (base+i)=.cells w e (l.flatMap Enc.enc)) (hT:∀o,o≠A->o≠base+i->T' o=T o):RowsAt T' A va tA base e sz (λk=>if k=i then w else ws k) (rows.set i l):=by
 have hout:=h.out;refine⟨?_,λk hk=>?_,h.out⟩
 ·rw[hA];congr 1;apply A6
  grind[Zc0,Zhr]
 ·rw[BH]at hk
  by_cases hki:k=i
  ·simp_all
  ·rw[hT _ DQ DQ,h.row k hk,if_neg hki]
   grind
theorem ZqM{α:Type}(base sz:Nat)(ws:Nat->Nat)(m:Nat):vQ (α:=α) base sz ws (List.replicate m [])=(List.range m).map λi=>.sl (base+i) (ws i) sz 0 0:=by simp_all[vQ]
theorem Zhs{α:Type}[Enc α](A va tA base e sz m:Nat)(hAb:A<base):∀(j k:Nat) (T:Store) (ws:Nat->Nat),k+j=m->T A=.cells va tA ((List.range k).map (λi=>.sl (base+i) (ws i) sz 0 0)++List.replicate j (.sc (.slice none 0 0))) ->
  (∀i,i<k->T (base+i)=.cells (ws i) e [])->zW (base+k) T ->
  (∀(T':Store) (ws':Nat->Nat),RowsAt T' A va tA base e sz ws' (List.replicate m ([]:List α))->(∀o,o≠A->o<base->T' o=T o)->zW (base+m) T'->PW P r n N c Q F T')->PW P r n N c Q F T
 | 0,k,T,ws,hk,hA,hrow,hd,h=>by
  obtain rfl:k=m:=DQ
  refine h T ws ⟨by rw[hA,ZqM];simp,λi hi=>?_,hAb⟩ (λ_ _ _=>rfl) hd
  simp_all
 | j+1,k,T,ws,hk,hA,hrow,hd,h=>by
  have hget:((List.range k).map (λi=>PV.sl (base+i) (ws i) sz 0 0)++List.replicate (j+1) (.sc (.slice none 0 0)))[k]?=some (.sc (.slice none 0 0)):=by
   rw[Am DR];simp
  refine Zbk (o:=A) k e sz hA hget (ZO (X:=λid v=>PW P r n N c Q F ((T.set id (.cells v e [])).set A (.cells va tA (((List.range k).map (λi=>PV.sl (base+i) (ws i) sz 0 0)++List.replicate (j+1) (PV.sc (.slice none 0 0))).set k (.sl id v sz 0 0))))) (base+k) (hd _ (Ag _)) λv=>?_);refine Zhs A va tA base e sz m hAb j (k+1) _ (λi=>if i=k then v else ws i) DQ ?_ ?_ ?_ λT' ws' hR hT' hd'=>h T' ws' hR (λo ho hob=>?_) hd'
  ·rw[q11];congr 1;rw[BD _ _ DR,AK,List.map_append];simp only[List.length_map,List.length_range,BA,BC,A5,AA,Bk,if_true];rw[List.append_assoc];congr 1;refine AQ λi hi=>?_
   have:=AL.1 hi;rw[if_neg DQ]
  ·intro i hi;rw[q10 _ _ _ _ DQ]
   by_cases hik:i=k
   ·subst hik;rw[q11,if_pos rfl]
   ·rw[q10 _ _ _ _ DQ,if_neg hik];exact hrow i DQ
  ·intro i hi;rw[q10 _ _ _ _ DQ,q10 _ _ _ _ DQ];exact hd i DQ
  grind[q10]
theorem ZqN{α:Type}[Enc α](A va tA base e sz m:Nat){T:Store}(hA:T A=.cells va tA (List.replicate m (.sc (.slice none 0 0))))(hd:zW base T)
  (h:∀(T':Store) (ws:Nat->Nat),RowsAt T' A va tA base e sz ws (List.replicate m ([]:List α))->(∀o,o≠A->o<base->T' o=T o)->zW (base+m) T'->PW P r n N c Q F T'):PW P r n N c Q F T:=by
 have hAb:A<base:=by
  rcases Bb A base with q | q
  ·exact q
  ·rw[hd A q]at hA;cases hA
 exact Zhs A va tA base e sz m hAb m 0 T (λ_=>0) DQ (by simpa using hA) (λi hi=>by omega) DQ h
theorem Zht{nx:Nat}{S:Store}{obs:List Ob}{id ver e0:Nat}{cs:List PV}(i e sz:Nat)(hlt:id<nx)(hs:S id=.cells ver e0 cs)(hi:cs[i]?=some (.sc (.slice none 0 0)))
  (h:∀v,PW P r n N c Q F (ext (S.set id (.cells ver e0 (cs.set i (.sl (nx+obs.length) v sz 0 0)))) nx (obs++[.cells v e []]))):PW P r n N c Q F (ext S nx obs) :=
 Zbk (o:=id) i e sz (by simp_all[zD]) hi (ZO (X:=λid' v=>PW P r n N c Q F (((ext S nx obs).set id' (.cells v e [])).set id (.cells ver e0 (cs.set i (.sl id' v sz 0 0))))) _ uY λv=>by
  rw[qY,y9 _ hlt];exact h v)
end
open Go Go.Proofs
instance:Enc Mv:=⟨λm=>Zc m,5,λ_=>rfl,λ_=>rfl⟩
@[simp] theorem ZyW(m:Mv):Enc.enc m=Zc m:=rfl
@[simp high] theorem ZyX(l:List Mv):(l.flatMap Enc.enc).length=l.length*5:=xl l
@[simp high] theorem ZyY(l:List Mv):(l.flatMap Enc.enc).take (l.length*5)=l.flatMap Enc.enc:=Yw l
open Go Go.Proofs Hp
abbrev xy(x:Inst)(v:PV)(b:Int)(p f pr:PV):List PV:=[I x.days,I x.veh,I x.cap,I x.len,L x.cust,L x.dist,v,I b,p,f,pr]
theorem ZqO{S:Store}{id ver idF vF:Nat}(x:Inst)(v p pr:PV)(b:Int)(fs:List Int)(hS:S id=.cells ver 235 (xy x v b p (.sl idF vF 1 0 fs.length) pr))(hF:S idF=.cells vF 47 (fs.flatMap Enc.enc))(hl:fs.length<=1000):
  Spec prog 212 [.ptr id ver 0] S (λq S'=>q=I (qL fs)/\S'=S):=by
 refine yl func212 ntmps212 results212 λnx hd=>?_
 have hlt:id<nx:=yW hd hS DR;have hltF:idF<nx:=yW hd hF DR;have xw:=λobs=>zD (S:=S) (obs:=obs) hlt
 have xf:=λobs=>zD (S:=S) (obs:=obs) hltF
 refine D0 ?_
 repeat apply za
 refine ze [] (zo xw hS) ?_;refine zj (zC (λk:Nat=>k<=fs.length/\∀e∈fs.take k,e=0) (λk=>[(8,.sl idF vF 1 0 fs.length),(9,I fs.length),(10,I k)]) (λ_=>[]) (λk=>fs.length-k) 0 [] DR DR DR ?_);rintro k ⟨hk,h0⟩;refine D0 ?_;refine za (zv rfl (λhc=>?_) (λhc=>?_))
 ·simp at hc;obtain⟨e,tl,a1,a2,a3,e0⟩:=zE rfl fs k hc;refine zh (za (zj (za (ze [] (zJ xf hF e0 hc) ?_))));refine D0 ?_
  by_cases he:e=0
  ·repeat apply za
   refine zm (by simp[he]) ?_;refine zh (zb ?_);exact zq (k+1) [] ⟨hc,λy hy=>by rw[a3]at hy;rcases Ay.1 hy with h | h;exact h0 y h;rw[AY.1 h];exact he⟩ DQ (by simp[zu k (by omega)]) rfl DR
  ·repeat apply za
   refine zk (by simp[he]) ?_;refine D0 ?_;exact zg ⟨_,S,rfl,⟨by simp[zn,Wz h0 a1 he],rfl⟩,zR hd⟩
 ·simp at hc;obtain rfl:k=fs.length:=DQ
  rw[Ai]at h0;refine zx (D0 ?_);exact zg ⟨_,S,rfl,⟨by simp[zn,Xk h0],rfl⟩,zR hd⟩
theorem ZqP{S:Store}{id ver idD vD idF vF:Nat}{x:Inst}{v:List (List Visit)}{b:Int}{pr:PV}{ds:zF}{fs:List Int}{n:Nat}(k:Nat)(hS:S id=.cells ver 235 (xy x (L v) b (.sl idD vD 1 0 ds.length) (.sl idF vF 1 0 fs.length) pr))
  (hD:S idD=.cells vD 39 (ds.flatMap Enc.enc)) (hF:S idF=.cells vF 47 (fs.flatMap Enc.enc)) (d1:id≠idD) (d2:id≠idF) (d3:idD≠idF) (hx:InstH x) (hv:VsOk x.cust.length n v) (hb:b<=9223372036854775807) (hdl:ds.length<=1000) (hfl:fs.length<=1000) :
  Spec prog 211 [.ptr id ver 0,I k] S (λ_ S'=>S'=((S.set id (.cells ver 235 (xy x (L v) b (.sl idD (vD+1) 1 0 (ds.length+1)) (.sl idF (vF+1) 1 0 (fs.length+1)) pr))).set idD (.cells (vD+1) 39 ((ds++[(uN x b (xe v k x.cust.length)).1]).flatMap Enc.enc))).set idF
   (.cells (vF+1) 47 ((fs++[(uN x b (xe v k x.cust.length)).2]).flatMap Enc.enc))):=by
 have hst:=ZqK x v k n hx.cust hv;have hso:=ZpE (Zhp hx hv k) hx.diag hb;generalize xe v k x.cust.length=st at hst hso ⊢;generalize uN x b st=r at hso ⊢;obtain⟨d,e⟩:=r;simp only at hso ⊢;refine yl func211 ntmps211 results211 λnx hd=>?_
 have hlt:id<nx:=yW hd hS DR;have hltD:idD<nx:=yW hd hD DR;have hltF:idF<nx:=yW hd hF DR;have xw:=λobs=>(zD (S:=S) (obs:=obs) hlt).trans hS
 have xd:=λobs=>(zD (S:=S) (obs:=obs) hltD).trans hD
 have xf:=λobs=>(zD (S:=S) (obs:=obs) hltF).trans hF
 have g1:¬nx<=id:=DQ
 have g2:¬nx<=idD:=DQ
 have g3:¬nx<=idF:=DQ
 have yw:=λ(o:Ob) obs=>(zD (S:=S.set idD o) (obs:=obs) hlt).trans ((q10 _ _ _ _ d1).trans hS)
 have zw:=λ(o o':Ob) obs=>(zD (S:=(S.set idD o).set id o') (obs:=obs) hlt).trans (q11 _ _ _)
 have zf:=λ(o o':Ob) obs=>(zD (S:=(S.set idD o).set id o') (obs:=obs) hltF).trans ((q10 _ _ _ _ d2.symm).trans ((q10 _ _ _ _ d3.symm).trans hF))
 have uw:=λ(o o' o'':Ob) obs=>(zD (S:=((S.set idD o).set id o').set idF o'') (obs:=obs) hlt).trans ((q10 _ _ _ _ d2).trans (q11 _ _ _))
 refine za (zz (some [id]) (Row.pures [0,1,2,3,4,5,6,7,8,9,10,11,12,13,14,15,16,17,18,19,20,21] (.alt 22 (.alt 23 (Row.pures [24] .done) .stop) .stop)) mixed xw ?_);refine zH (hst) xw ?_;refine zH (hso) xw ?_;intro v2;refine za (zz (some [nx]) (Row.pures [0,1,2,3,4,6,7] (.alt 5 (.alt 8 (Row.pures [9,10,11] (.alt 12 (.done) .stop)) .stop) .stop)) mixed (yv xw xd yw g1 g2) ?_);refine⟨by omega,?_⟩;refine ze [] (yv zw zf uw g1 g3) ?_;refine⟨by omega,?_⟩;have e1:∀(a b c d:Ob),(((S.set idD a).set id b).set idF c).set id d=((S.set id d).set idD a).set idF c:=by
  intro a b c d;funext i;simp only[Store.set]
  by_cases h1:i=id
  ·subst h1;simp[d1,d2]
  ·simp only[h1,if_false]
 have hdd:∀(a b c:Ob),zW nx (((S.set id a).set idD b).set idF c):=by
  intro a b c i hi;rw[q10 _ _ _ _ DQ,q10 _ _ _ _ DQ,q10 _ _ _ _ DQ];exact hd i hi
 rw[e1];exact⟨_,_,rfl,by simp,zR (hdd _ _ _)⟩
theorem ZqQ{S:Store}{id ver:Nat}(x:Inst)(v p f pr:PV)(b:Int)(fn:FuncId)(fs:List PV)(n:Nat)(hn:x.days=n)(hn2:n<=1000)(hS:S id=.cells ver 235 (xy x v b p f pr))(St:Nat->Store)(h0:St 0=S)
  (hSt:∀nx,zW nx S->∀k,k<=n->zW nx (St k)) (hstep:∀k,k<n->Spec prog fn (fs++[I k]) (St k) (λ_ S'=>S'=St (k+1))) :
  Spec prog 173 [.ptr id ver 0,.fn (.func fn) fs []] S (λ_ S'=>S'=St n):=by
 refine yl func173 ntmps173 results173 λnx hd=>?_
 have hlt:id<nx:=yW hd hS DR;have xw:=λobs=>(zD (S:=S) (obs:=obs) hlt).trans hS
 have hSt:=hSt nx hd;refine za (ze [] (zo xw hn) ?_);refine zj (jx (σ:=Nat) (λk=>k<=n) (λk=>[(1,.fn (.func fn) fs []),(9,I n),(10,I k)]) (λk=>St k) (λ_=>[]) (λk=>n-k) (zS 0 [] DR DR h0 DR) ?_);rintro k hk;refine D0 ?_;refine za (zv rfl (λhc=>?_) (λhc=>?_))
 ·simp at hc;refine zh (za (zj (D0 ?_)));refine zb ?_;refine λhsuf=>(Spec.mono (by rw[qJ (hSt k hk)];simpa using hstep k hc) ?_).v
  rintro _ _ rfl;refine⟨St (k+1),[],(qJ (hSt (k+1) hc)).symm,zN hsuf ?_⟩;refine zb ?_;exact zq (k+1) [] hc DQ (by simp[zu k (by omega)]) rfl DR
 ·simp at hc;obtain rfl:k=n:=DQ
  refine zx ?_;exact⟨_,_,rfl,rfl,zR (hSt k (Ag _))⟩
theorem ZqR{S:Store}{nx id ver:Nat}(hd:zW nx S){x:Inst}{v:List (List Visit)}{v0 p0 f0 pr:PV}{b:Int}{n:Nat}(hS:S id=.cells ver 235 (xy x v0 b p0 f0 pr))(hx:InstH x)(hn:x.days=n)(hn2:n<=1000)(hv:VsOk x.cust.length n v)(hb:b<=9223372036854775807):
  Spec prog 176 [.ptr id ver 0,L v] S (λq S'=>q=I (qL (js x v b n))/\∃vD vF,S'=ext (S.set id (.cells ver 235 (xy x (L v) b (.sl nx vD 1 0 (xT x v b n).length) (.sl (nx+1) vF 1 0 (js x v b n).length) pr))) nx
   [.cells vD 39 ((xT x v b n).flatMap Enc.enc),.cells vF 47 ((js x v b n).flatMap Enc.enc)]):=by
 have hpl:=ZcZ x v b;have hfl:=Zhq x v b;refine u6 hd func176 ntmps176 results176 ?_;have hlt:id<nx:=yW hd hS DR;have g1:¬nx<=id:=DQ
 have xw:=λobs=>(zD (S:=S) (obs:=obs) hlt).trans hS
 have yw:=λ(o:Ob) obs=>(zD (S:=S.set id o) (obs:=obs) hlt).trans (q11 _ _ _)
 refine D0 ?_;refine za (ze [] (zJ xw yw g1 Store.set_set) ?_);refine Zht (id:=id) 8 39 1 hlt (q11 _ _ _) rfl λvD=>?_
 rw[Store.set_set];refine Zht (id:=id) 9 47 1 hlt (q11 _ _ _) rfl λvF=>?_
 rw[Store.set_set];simp only[AU,A5,Ad,Ah,List.cons_append,AN,Bz,AR];generalize hSt:(λk:Nat=>ext (S.set id (.cells ver 235 (xy x (L v) b (.sl nx (vD+k) 1 0 (xT x v b k).length) (.sl (nx+1) (vF+k) 1 0 (js x v b k).length) pr))) nx
   [.cells (vD+k) 39 ((xT x v b k).flatMap Enc.enc),.cells (vF+k) 47 ((js x v b k).flatMap Enc.enc)])=St
 have hSk:∀k,St k=ext (S.set id (.cells ver 235 (xy x (L v) b (.sl nx (vD+k) 1 0 (xT x v b k).length) (.sl (nx+1) (vF+k) 1 0 (js x v b k).length) pr))) nx
   [.cells (vD+k) 39 ((xT x v b k).flatMap Enc.enc),.cells (vF+k) 47 ((js x v b k).flatMap Enc.enc)]:=λk=>by rw[<-hSt]
 have h0:St 0=ext (S.set id (.cells ver 235 (xy x (L v) b (.sl nx vD 1 0 0) (.sl (nx+1) vF 1 0 0) pr))) nx [.cells vD 39 [],.cells vF 47 []]:=hSk 0;have hid:∀k,St k id=.cells ver 235 (xy x (L v) b (.sl nx (vD+k) 1 0 (xT x v b k).length) (.sl (nx+1) (vF+k) 1 0 (js x v b k).length) pr):=λk=>by rw[hSk k,zD hlt,q11]
 have hstep:∀k,k<n->Spec prog 211 ([.ptr id ver 0]++[I k]) (St k) (λ_ S'=>S'=St (k+1)):=by
  intro k hk;have h1:=hpl k;have h2:=hfl k;refine(ZqP (idD:=nx) (idF:=nx+1) (n:=n) k (hid k) (by rw[hSk k];simp) (by rw[hSk k];simp) DQ DQ DQ hx hv hb DQ DQ).mono ?_;rintro _ _ rfl;rw[hSk k,hSk (k+1),y9 _ hlt,Store.set_set,yk _ DQ DR,yk _ DQ DR,ZqI,ZqJ];simp[Nat.add_assoc]
 have hdead:∀m,zW m (St 0)->∀k,k<=n->zW m (St k):=by
  intro m hm k _ i hi;have hge:nx+1<m:=by
   rcases Bb (nx+1) m with q | q
   ·exact q
   ·have:=hm (nx+1) q;rw[hSk 0]at this;simp at this
  rw[hSk k];simp only[ext];rw[if_neg DQ,Aa,Ak DV];rfl
 rw[<-h0];have hn0:=hid 0;have hnx2:nx+2=nx+[Ob.cells (vD+0) 39 ((xT x v b 0).flatMap Enc.enc),.cells (vF+0) 47 ((js x v b 0).flatMap Enc.enc)].length:=rfl;have hb0:∀k,St k=ext (St k) (nx+2) []:=λk=>by
  refine(qJ ?_).symm;rw[hSk k];exact jP (obs:=[_,_])
 rw[hb0 0];refine D0 ?_;refine λhsuf=>((ZqQ x (L v) _ _ pr b _ _ n hn hn2 (by rw[<-hb0 0];exact hn0) St (hb0 0) (λm hm k hk=>hdead m (by rw[hb0 0];exact hm) k hk) hstep).mono ?_).v
 rintro _ _ rfl;refine⟨_,_,hb0 n,zN hsuf ?_⟩;refine D0 ?_;refine λhsuf=>((ZqO (idF:=nx+1) x _ _ _ _ (js x v b n) (by rw[<-hb0 n];exact hid n) (by rw[<-hb0 n,hSk n];simp) (by rw[hfl];exact hn2)).mono ?_).v
 rintro _ _ ⟨rfl,rfl⟩;refine⟨_,_,rfl,zN hsuf ?_⟩;refine zg ⟨_,St n,rfl,⟨by simp[zn],vD+n,vF+n,hSk n⟩,λo=>.inl ?_⟩;rw[<-hb0 n]
open Go Go.Proofs Hp
theorem ZqS(n:Nat):y8 n (.slice none 0 0)=List.replicate n (.sc (.slice none 0 0)):=by
 induction n with
 | zero=>simp
 | succ n ih=>rw[Y6,ih];rfl
open Go
abbrev T(s:ByteArray):PV:=.sc (.string s)
instance:Enc ByteArray:=⟨λx=>[T x],1,λ_=>rfl,λ_=>rfl⟩
@[simp] theorem ZyZ(x:ByteArray):Enc.enc x=[T x]:=rfl
@[simp high] theorem Zaq(l:List ByteArray):(l.flatMap Enc.enc).length=l.length:=(xl l).trans (BR _)
abbrev bs(l:List UInt8):ByteArray:=⟨l.toArray⟩
theorem ZqT(a b:List UInt8):bs a++bs b=bs (a++b):=by
 apply ByteArray.ext;simp
theorem vk(l:List UInt8):(bs l).size=l.length:=by simp[ByteArray.size]
def yc(n:Nat):List UInt8:=if h:n<10 then [UInt8.ofNat (48+n)] else yc (n / 10)++[UInt8.ofNat (48+n % 10)]
termination_by n
decreasing_by omega
theorem Jm{n:Nat}(h:n<10):yc n=[UInt8.ofNat (48+n)]:=by simp_all[yc]
theorem Xm{n:Nat}(h:¬n<10):yc n=yc (n / 10)++[UInt8.ofNat (48+n % 10)]:=by rw[yc,dif_neg h]
def YI(l:List UInt8):Nat:=l.foldl (λa c=>10*a+(c.toNat-48)) 0
theorem Zhu(l:List UInt8)(c:UInt8):YI (l++[c])=10*YI l+(c.toNat-48):=by simp[YI]
theorem YJ{k:Nat}(h:k<10):(UInt8.ofNat (48+k)).toNat=48+k:=by grind[UInt8.toNat_ofNat']
theorem ZqU(n:Nat):YI (yc n)=n:=by
 induction n using Nat.strongRecOn with
 | _ n ih =>
  by_cases h:n<10
  ·rw[Jm h];simp only[YI,A3,List.foldl_nil,YJ h];omega
  grind[Xm,Zhu,YJ]
theorem Zhv(n:Nat):∀c∈yc n,48<=c.toNat/\c.toNat<=57:=by
 induction n using Nat.strongRecOn with
 | _ n ih =>
  intro c hc
  by_cases h:n<10
  ·grind[Jm,YJ]
  ·rw[Xm h,Ay,AY]at hc
   grind[YJ]
theorem Zhw(n:Nat):yc n≠[]:=by by_cases h:n<10<;>simp_all[Jm,Xm]
theorem ZqV(n:Nat)(h:1<(yc n).length):∃c l,yc n=c :: l/\c.toNat≠48:=by
 induction n using Nat.strongRecOn with
 | _ n ih =>
  by_cases h0:n<10
  ·rw[Jm h0]at h;simp at h
  grind[Xm,Jm,YJ]
theorem Zc2(n:Nat):∀k,n<10 ^ (k+1)->(yc n).length<=k+1:=by
 induction n using Nat.strongRecOn with
 | _ n ih =>
  intro k hk
  by_cases h:n<10
  ·simp_all[Jm]
  ·rw[Xm h,List.length_append,Bp];cases k with
   | zero=>omega
   | succ k =>
    have:=ih (n / 10) DQ k DQ;omega
def Zz(w:List UInt8):Prop:=w≠[]/\∀c∈w,33<=c.toNat/\c.toNat<=126
theorem Qy(n:Nat):Zz (yc n):=⟨Zhw n,λc hc=>by grind[Zhv]⟩
def yi:List (List UInt8)->List UInt8
 | []=>[]
 | [w]=>w
 | w :: v :: ws=>w++32 :: yi (v :: ws)
theorem Xn(w v:List UInt8)(ws:List (List UInt8)):yi (w :: v :: ws)=w++32 :: yi (v :: ws):=rfl
theorem Zhx(ws:List (List UInt8))(w v:List UInt8):yi (v :: ws++[w])=yi (v :: ws)++32 :: w:=by
 induction ws generalizing v with
 | nil=>rfl
 | cons u us ih =>
  simp_all[Xn]
def qM(ls:List (List (List UInt8))):List UInt8:=ls.flatMap λws=>yi ws++[10]
theorem WA(ws:List (List UInt8))(ls:List (List (List UInt8))):qM (ws :: ls)=yi ws++10 :: qM ls:=by simp[qM]
theorem Zhy(ls:List (List (List UInt8)))(ws:List (List UInt8)):qM (ls++[ws])=qM ls++(yi ws++[10]):=by simp[qM]
theorem ZqW{ws:List (List UInt8)}{c:UInt8}(h:c∈yi ws):c=32\/∃w∈ws,c∈w:=by
 induction ws with
 | nil=>simp[yi]at h
 | cons w ws ih =>
  cases ws with
  | nil=>exact .inr ⟨w,by simp,h⟩
  | cons v ws =>
   grind[Xn]
theorem ZqX{ws:List (List UInt8)}(hw:∀w∈ws,Zz w):(10:UInt8) ∉ yi ws:=by
 intro h;rcases ZqW h with h | ⟨w,hm,hc⟩
 ·cases h
 ·have:=(hw w hm).2 10 hc;simp at this
open Go Go.Proofs
abbrev U8(b:UInt8):PV:=.sc (.int .u8 (b.toNat:Int))
theorem ZqY(l:List UInt8):strOfNums (l.map λb=>(b.toNat:Int))=bs l:=by simp[strOfNums,AQ]
theorem Jn(a b:List UInt8)(h:a.length+b.length<=9223372036854775807):jO .add (bs a) (bs b)=some (.string (bs (a++b))):=by simp_all[jO,vk,ZqT]
theorem Zhz{P:Program}{w:World}{src dst e b off len cap:Nat}{l:List UInt8}(hs:P.underlying src=some (.slice e))(he:P.underlying e=some (.int .u8))(hd:P.underlying dst=some .string)(hlen:l.length=len)
  (hcell:∀(i:Nat) (u:UInt8),l[i]?=some u->w.cell? ⟨b,off+i,none⟩=some (.int .u8 (u.toNat:Int))):(convert src dst (.slice (some ⟨b,off,none⟩) len cap)).run P w=.ok (.string (bs l)) w:=by
 have:=run_convert_bytes_arg (P:=P) w src e hs he b off len cap (l.map λb=>(b.toNat:Int)) (by simpa using hlen) (λi hi=>by
  have hil:i<l.length:=DQ
  rw[hcell i l[i] (Af hil)];simp[Aa,Af hil]) dst hd
 simp_all[ZqY]
theorem ZhA{P:Program}{o:Oper}{src dst:TypeId}{x:Operand}{a:Act}{w:World}{v:Value}(ho:o.op=.convert src dst x)(h:(convert src dst (a.eval x)).run P w=.ok v w):(execOp a.eval o).run P w=.ok (.value v) w:=by simp_all[execOp]
theorem ZqZ{P:Program}{n:Nat}{F:Nat->PV}{S:Store}{o:Oper}{src dst e:TypeId}{x:Operand}{l:List UInt8}{K:PV->Store->Prop}(ho:o.op=.convert src dst x)(hs:P.underlying src=some (.slice e))(he:P.underlying e=some (.int .u8))(hd:P.underlying dst=some .string)
  (hx:ev F x=.lst l.length (l.map U8)) (hK:K (T (bs l)) S):PO P wv n o F S K:=by
 intro G hG C w a N st next Q' hnext;have e1:=st.ev x;rw[(hG x (by simp[ho,Op.operands])).trans hx]at e1;have hnd:∀c,o.op≠.defer c:=by intro c hc;rw[ho]at hc;cases hc
 have hrun:(convert src dst (a.eval x)).run P w=.ok (.string (bs l)) w:=by
  generalize a.eval x=v at e1;generalize hm:l.length=m at e1;generalize hcs:l.map U8=cs at e1;cases e1 with
  | lst0 =>
   rename_i cap ad;obtain rfl:l=[]:=Aq hm;cases ad with
   | none=>exact run_convert_bytes_nil w src e hs he 0 cap dst hd
   | some ad =>
    have:=run_bytesToString (P:=P) w ad 0 cap [] (by simp[loadCells,loadCellsFrom]);rw[run_convert_bytes_string w src dst e _ 0 cap hs he hd,this];rfl
  | lst1 hn hmx hb hM hsz h1 hr =>
   rename_i cap b off c et fz;refine Zhz hs he hd hm λi u hu=>?_
   have hi:i<l.length:=(Ac.1 hu).1;have hp:cs[i]?=some (U8 u):=by rw[<-hcs,Aj,hu];rfl
   have hcl:cs.length=l.length:=by rw[<-hcs,List.length_map]
   have hsz':=hsz (by intro h;rw[h]at hcl;simp at hcl;omega);have hv:=hr i _ _ hp (AW DQ);generalize hq:c[off+i]' DQ=q at hv;cases hv
   grind[World.cell?]
 exact qh hnd (ZhA ho hrun) (hnext _ _ _ _ _ hK (.sc _) st.sim (Step.refl _ _ _))
theorem Zq0{P:Program}{n:Nat}{F:Nat->PV}{S:Store}{o:Oper}{src dst e:TypeId}{x:Operand}{l:List UInt8}{id ver et off:Nat}{cs:List PV}{K:PV->Store->Prop}(ho:o.op=.convert src dst x)(hs:P.underlying src=some (.slice e))(he:P.underlying e=some (.int .u8))(hd:P.underlying dst=some .string)
  (hx:ev F x=.sl id ver 1 off l.length) (hid:S id=.cells ver et cs) (hl:∀(i:Nat) (u:UInt8),l[i]?=some u->cs[off+i]?=some (U8 u)) (h0:0<l.length) (hK:K (T (bs l)) S):PO P wv n o F S K:=by
 intro G hG C w a N st next Q' hnext;have e1:=st.ev x;rw[(hG x (by simp[ho,Op.operands])).trans hx]at e1;have hnd:∀c,o.op≠.defer c:=by intro c hc;rw[ho]at hc;cases hc
 have hrun:(convert src dst (a.eval x)).run P w=.ok (.string (bs l)) w:=by
  generalize a.eval x=v at e1;generalize hm:l.length=m at e1;cases e1 with
  | sl h1 h2 h3 =>
   rcases (h3 ver (by rw[hid];rfl)).2 rfl with ⟨_,z2,_,_⟩ | ⟨b,k,ad,cap,z1,z2,z3,z4⟩
   ·omega
   ·obtain rfl:=z4 DQ;subst z2;rcases st.sim.cells id ver et cs hid with ⟨hn,_⟩ | ⟨b2,k2,c,g1,g2,g3,g4,g5,g6⟩
    ·rw[hn]at z1;cases z1
    ·rw[g1]at z1;cases z1;refine Zhz hs he hd hm λi u hu=>?_
     have hp:=hl i u hu;have hi:off+i<cs.length:=(Ac.1 hp).1;have hv:=g6 (off+i) _ _ hp (AW DQ);generalize hq:c[off+i]' DQ=q at hv;cases hv
     grind[World.cell?]
 exact qh hnd (ZhA ho hrun) (hnext _ _ _ _ _ hK (.sc _) st.sim (Step.refl _ _ _))
open Go Go.Proofs
theorem ZhB(k:Nat)(h:k<256):IntKind.u8.wrap (k:Int)=k:=by
 have e:IntKind.u8.wrap (k:Int)=(k:Int) % 256:=by simp[IntKind.wrap,IntKind.bits,IntKind.signed]
 rw[e];omega
theorem ZhC(n:Nat)(hn:n<=9223372036854775807):Pure prog 53 [I n] (T (bs (yc n))):=by
 induction n using Nat.strongRecOn with
 | _ n ih =>
  have hr:((n:Int)).tmod 10=((n % 10:Nat):Int):=by rw[Bd DQ];omega
  have hq:((n:Int)).tdiv 10=((n / 10:Nat):Int):=by rw[Cb DQ];omega
  have hs1:n<10->yc n=[UInt8.ofNat (48+n % 10)]:=λh=>by rw[Jm h,Dp h]
  have hs2:¬n<10->yc n=yc (n / 10)++[UInt8.ofNat (48+n % 10)]:=Xm;have hu:=YJ (k:=n % 10) DQ;have hr9:n % 10<10:=DQ
  have hm9:n / 10<=n/\(¬n<10->n / 10<n):=DQ
  generalize UInt8.ofNat (48+n % 10)=u at *;generalize n % 10=r at *;generalize n / 10=m at *;have hw:W (m:Int)=m:=by simp only[W,AF];omega
  have hw2:W (48+(r:Int))=(u.toNat:Int):=by rw[hu];simp only[W,AF];omega
  have hw3:=ZhB u.toNat DQ;have h0:¬(n:Int)<0:=DQ
  refine zr func53 ntmps53 results53 λS nx hd=>?_
  refine D0 ?_
  repeat apply za
  refine ze [] h0 ?_;refine zm DR ?_;refine zh (za (ze [] (zA hr hw2 hw3) ?_));refine λhsuf=>ZqZ (e:=5) (l:=[u]) rfl DR DR DR DR ?_
  refine⟨_,_,rfl,zN hsuf ?_⟩
  repeat apply za
  refine zb ?_;refine zv rfl (λh=>?_) (λh=>?_)
  ·simp at h;have hdec:=ih m (hm9.2 DQ) DQ;have hsz:=Jn (yc m) [u] (by have:=Zc2 m 18 (by omega);simp;omega);refine za (ze [] (zo hq hw) ?_);refine qi [] hdec hsz ?_;exact zg (zi hd DT (by rw[hs2 (by omega)];rfl))
  ·simp at h;refine zh (D0 ?_);exact zg (zi hd DT (by rw[hs1 (by omega)];rfl))
def up(l:List Nat):List ByteArray:=l.map λn=>bs (yc n)
theorem Zc3(l:List Nat)(hl:l.length<=1048576)(hn:∀n∈l,n<=9223372036854775807):Pure prog 52 [L (l.map λn:Nat=>(n:Int))] (L (up l)):=by
 obtain⟨zs,hzs⟩:∃zs:List Int,zs=l.map λn:Nat=>(n:Int):=⟨_,rfl⟩
 have hzl:zs.length=l.length:=by rw[hzs,List.length_map]
 have hat:∀(k n:Nat),l[k]?=some n->zs[k]?=some (n:Int):=λk n e=>by rw[hzs,Aj,e];rfl
 rw[<-hzs];refine zr func52 ntmps52 results52 λS nx hd=>?_
 refine D0 ?_;refine D0 ?_;refine qt 3 9 1 rfl λv3=>?_
 repeat apply za
 refine zb ?_;refine zj (zC (λs:Nat × Nat=>s.1<=zs.length) (λ(k,w)=>[(0,L zs),(3,.sl nx w 1 0 k),(4,I k)]) (λ(k,w)=>[.cells w 9 ((up (l.take k)).flatMap Enc.enc)]) (λs=>zs.length-s.1) (0,v3) [] DR DR (by simp[up]) ?_);rintro⟨k,w⟩ hk;simp only at hk ⊢
 repeat apply za
 refine zb ?_;refine zv rfl (λhc=>?_) (λhc=>?_)
 ·simp at hc;obtain⟨n,hn1⟩:∃n,l[k]?=some n:=⟨_,Af DQ⟩;obtain⟨z,tl,b1,b2,b3,f0⟩:=zE rfl zs k hc;obtain rfl:z=(n:Int):=by have:=hat k n hn1;rw[b1]at this;exact Option.some.inj this
  have hdec:=ZhC n (hn n (Ab hn1));have hnx:up (l.take (k+1))=up (l.take k)++[bs (yc n)]:=by rw[AG,hn1];simp[up]
  have hf:(up (l.take k)).length=k:=by simp[up];omega
  have hf2:((up (l.take k)).flatMap Enc.enc:List PV).take k=(up (l.take k)).flatMap Enc.enc:=Ae (by rw[Zaq];omega);generalize up (l.take k)=ws at *;refine zh (za (zj (ze [] (zo f0 hc) ?_)));refine qi [] hdec (zo hf hf2) ?_;refine⟨by omega,?_⟩;refine zb ?_;exact zq (k+1,w+1) [] hc DV (by simp[zu k (by omega)]) rfl (by simp[hnx])
 ·simp at hc;obtain rfl:k=zs.length:=DQ
  refine zx (zZ 0 rfl ?_);refine D0 ?_;exact zg (zi hd DT (by rw[hzl,Ai];simp[zn,up]))
theorem Zq1(ws:List (List UInt8))(w:List UInt8):yi (ws++[w])=(if ws=[] then [] else yi ws++[32])++w:=by
 cases ws with
 | nil=>rfl
 | cons v vs=>rw[Zhx,if_neg DR];simp
theorem Zq2(ws:List (List UInt8))(hl:ws.length<=1048576)(hw:(yi ws).length<=1099511627776)(hp:∀k,(yi (ws.take k)).length<=1099511627776):Pure prog 42 [L (ws.map bs)] (T (bs (yi ws++[10]))):=by
 refine zr func42 ntmps42 results42 λS nx hd=>?_
 refine D0 ?_;refine D0 ?_
 repeat apply za
 refine zb ?_;refine zj (zC (λk:Nat=>k<=ws.length) (λk=>[(0,L (ws.map bs)),(3,T (bs (yi (ws.take k)))),(4,I k)]) (λ_=>[]) (λk=>ws.length-k) 0 [] DR (by simp[yi]) DR ?_);rintro k hk
 repeat apply za
 refine zb ?_;refine zv rfl (λhc=>?_) (λhc=>?_)
 ·simp at hc;obtain⟨w,tl,b1,b2,b3,f0⟩:=zE rfl (ws.map bs) k (by simpa using hc);obtain⟨u,hu,rfl⟩:∃u,ws[k]?=some u/\bs u=w:=by rw[Aj]at b1;simpa using b1
  have hnx:yi (ws.take (k+1))=(if ws.take k=[] then [] else yi (ws.take k)++[32])++u:=by rw[AG,hu];exact Zq1 _ _
  have hpk:=hp k;have hpk1:=hp (k+1);have hul:u.length<=(yi (ws.take (k+1))).length:=by rw[hnx,List.length_append];omega
  have hkl:k<ws.length:=by simpa using hc
  refine zh (za (zj ?_))
  by_cases h0:0<k
  ·have e:¬ws.take k=[]:=by intro h;have:=congrArg List.length h;rw[Aw,Ah]at this;omega
   rw[if_neg e]at hnx;have hlen:=congrArg List.length hnx;simp only[List.length_append,Bp]at hlen;have s1:=Jn (yi (ws.take k)) [32] (by simp only[Bp];omega);have s2:=Jn (yi (ws.take k)++[32]) u (by simp only[List.length_append,Bp];omega);generalize yi (ws.take k)=J0 at *
   repeat apply za
   refine ze [] h0 ?_;refine zk (by simp[h0]) ?_;refine ze [] s1 ?_;refine ze [] (zA f0 hkl s2) ?_;refine zb ?_;exact zq (k+1) [] hkl DQ (by simp[zu k (by omega),hnx]) rfl DR
  ·have e:ws.take k=[]:=by rw[show k=0 by omega];rfl
   rw[if_pos e]at hnx;rw[e,show yi ([]:List (List UInt8))=[] from rfl];have s2:=Jn [] u (by simp only[Ah];omega);rw[AN]at hnx s2
   repeat apply za
   refine ze [] h0 ?_;refine zm (by simp[h0]) ?_;refine zh (ze [] (zA f0 hkl s2) ?_);refine zb ?_;exact zq (k+1) [] hkl DQ (by simp[zu k (by omega),hnx]) rfl DR
 ·simp at hc;obtain rfl:k=ws.length:=DQ
  have hs:=Jn (yi ws) [10] (by simp only[Bp];omega);refine zx (X3 (λ_=>.inl rfl) ?_);rw[Ai];refine za (ze [] hs ?_);exact D1 hd
open Go Go.Proofs
def xz(c:UInt8):List UInt8->Option (List UInt8 × List UInt8)
 | []=>none
 | x :: xs=>if x=c then some ([],xs) else (xz c xs).map λp=>(x :: p.1,p.2)
theorem Xo{c:UInt8}{l a b:List UInt8}(h:xz c l=some (a,b)):l=a++c :: b/\c ∉ a:=by induction l generalizing a b<;>grind[xz,Option.map_eq_some_iff]
theorem Zc4{c:UInt8}{l:List UInt8}(h:xz c l=none):c ∉ l:=by induction l<;>grind[xz,Option.map_eq_none_iff]
theorem Zq3{c:UInt8}{a:List UInt8}(b:List UInt8)(h:c ∉ a):xz c (a++c :: b)=some (a,b):=by induction a<;>grind[xz]
theorem ZhD{c:UInt8}{l a b:List UInt8}(h:xz c l=some (a,b)):b.length<l.length:=by
 rw[(Xo h).1];simp;omega
def yY(c:UInt8):List UInt8->List (List UInt8)
 | []=>[[]]
 | x :: xs=>if x=c then [] :: yY c xs else match yY c xs with
  | []=>[[x]]
  | h :: t=>(x :: h) :: t
theorem ZhE(c x:UInt8)(xs:List UInt8):yY c (x :: xs)=if x=c then [] :: yY c xs else match yY c xs with
  | []=>[[x]]
  | h :: t=>(x :: h) :: t:=rfl
theorem Zc5(c:UInt8)(l:List UInt8):yY c l≠[]:=by cases l<;>grind[yY]
theorem ZhF{c:UInt8}{a:List UInt8}(h:c ∉ a):yY c a=[a]:=by
 induction a with
 | nil=>rfl
 | cons x a ih =>
  grind[ZhE]
theorem ZhG{c:UInt8}{a:List UInt8}(b:List UInt8)(h:c ∉ a):yY c (a++c :: b)=a :: yY c b:=by induction a<;>grind[ZhE]
theorem Zq4(c:UInt8)(l:List UInt8):yY c l=match xz c l with
  | none=>[l]
  | some (a,b)=>a :: yY c b:=by
 cases h:xz c l with
 | none=>simp_all[ZhF,Zc4]
 | some p=>obtain⟨a,b⟩:=p;obtain⟨h1,h2⟩:=Xo h;simp_all[ZhG]
theorem Zq5(c:UInt8)(l:List UInt8):(yY c l).length<=l.length+1:=by induction l<;>grind[yY]
theorem Zq6(c:UInt8)(l:List UInt8):∀w∈yY c l,w.length<=l.length:=by induction l<;>grind[yY]
theorem Zq7{ws:List (List UInt8)}(hne:ws≠[])(hw:∀w∈ws,(32:UInt8) ∉ w):yY 32 (yi ws)=ws:=by
 induction ws with
 | nil=>simp_all
 | cons w ws ih =>
  cases ws with
  | nil=>exact ZhF (hw w DR)
  | cons v ws =>
   simp_all[Xn,ZhG]
def ZA(w:List UInt8):Bool:=decide (w≠[]) && w.all λc=>decide (33<=c.toNat/\c.toNat<=126)
theorem Zar(w:List UInt8):ZA w=true<->Zz w:=by simp[ZA,Zz]
theorem ZhH{w:List UInt8}{k:Nat}{c:UInt8}(h:w[k]?=some c)(hc:¬(33<=c.toNat/\c.toNat<=126)):ZA w=false:=by grind[ZA]
def xU(t:List UInt8):Option (List (List (List UInt8))) :=
 if t=[] then some [] else
  match h:xz 10 t with
  | none=>none
  | some (a,b)=>if (yY 32 a).all ZA=true then (xU b).map (yY 32 a :: ·) else none
termination_by t.length
decreasing_by exact ZhD h
theorem Zas:xU []=some []:=by rw[xU,if_pos rfl]
theorem ZhI{t:List UInt8}(h0:t≠[])(h:xz 10 t=none):xU t=none:=by grind[xU]
theorem Zat{t a b:List UInt8}(h:xz 10 t=some (a,b)):xU t=if (yY 32 a).all ZA=true then (xU b).map (yY 32 a :: ·) else none:=by
 rw[xU,if_neg (by rintro rfl;cases h)]
 grind
theorem Zq8{t a b:List UInt8}(h:xz 10 t=some (a,b)){k:Nat}{w:List UInt8}(hw:(yY 32 a)[k]?=some w)(hb:ZA w=false):xU t=none:=by
 rw[Zat h,if_neg]
 grind
theorem Zq9{w:List UInt8}(h:Zz w):(32:UInt8) ∉ w/\(10:UInt8) ∉ w :=
 ⟨λhc=>by have:=(h.2 32 hc).1;simp at this,λhc=>by have:=(h.2 10 hc).1;simp at this⟩
theorem Zra{ls:List (List (List UInt8))}(h0:∀l∈ls,l≠[])(h:∀l∈ls,∀w∈l,Zz w):xU (qM ls)=some ls:=by
 induction ls with
 | nil=>exact Zas
 | cons l ls ih =>
  have hl:=h l DR;have hc:xz 10 (qM (l :: ls))=some (yi l,qM ls):=by
   rw[WA];exact Zq3 _ (ZqX hl)
  grind[Zq7,Zq9,Zat,Zar]
theorem Zrb(l:List UInt8):yi (yY 32 l)=l:=by
 induction l with
 | nil=>rfl
 | cons x xs ih =>
  unfold yY;split
  ·rename_i e;cases h:yY 32 xs<;>simp_all[Zc5,Xn]
  ·cases h:yY 32 xs with
   | nil=>simp_all[Zc5]
   | cons v vs =>
    rw[h]at ih;cases vs<;>simp_all[yi]
theorem Zrc(n:Nat):∀{t:List UInt8} {ls:List (List (List UInt8))},t.length<=n->xU t=some ls->qM ls=t/\(∀l∈ls,l≠[])/\(∀l∈ls,∀w∈l,Zz w):=by
 induction n with
 | zero =>
  intro t ls hn h;obtain rfl:=Aq (Nat.le_zero.1 hn);rw[Zas]at h;cases h;exact⟨rfl,by simp,by simp⟩
 | succ n ih =>
  intro t ls hn h
  by_cases h0:t=[]
  ·grind
  ·cases hc:xz 10 t with
   | none=>simp_all[ZhI]
   | some p =>
    obtain⟨a,b⟩:=p;rw[Zat hc]at h;split at h
    ·rename_i hw;obtain⟨ms,hm,rfl⟩:=Ao.1 h;have:=ZhD hc
     grind[Xo,WA,Zrb,Zc5,Zar]
    ·cases h
theorem Zc6{α:Type}{p:List α->Prop}(h0:p [])(h1:∀l a,p l->p (l++[a]))(l:List α):p l:=by
 have:∀m:List α,p m.reverse:=by
  intro m
  induction m with
  | nil=>exact h0
  | cons a m ih=>rw[Cu];exact h1 _ _ ih
 have:=this l.reverse
 simp_all
def wK(l:List UInt8):Nat:=l.foldl (λn c=>if 100000000000000000<=n then 1000000000000000000 else 10*n+(c.toNat-48)) 0
theorem Zc7(l:List UInt8)(c:UInt8):wK (l++[c])=if 100000000000000000<=wK l then 1000000000000000000 else 10*wK l+(c.toNat-48):=by grind[wK]
def YK(w:List UInt8):Bool:=w.all λc=>decide (48<=c.toNat/\c.toNat<=57)
theorem ZhJ{w:List UInt8}{k:Nat}{c:UInt8}(h:w[k]?=some c)(hc:¬(48<=c.toNat/\c.toNat<=57)):YK w=false:=by grind[YK]
def Jo(w:List UInt8):Bool:=match w with
 | []=>true
 | c :: l=>decide (c.toNat=48) && decide (l≠[])
def jU(w:List UInt8):Option Nat:=if Jo w=true then none else if YK w=true then some (wK w) else none
theorem ZhK(l:List UInt8)(h:∀c∈l,c.toNat<=57):wK l<=1000000000000000000:=by
 revert h;refine Zc6 (p:=λl:List UInt8=>(∀c∈l,c.toNat<=57)->wK l<=1000000000000000000) (λ_=>by decide) (λl c ih h=>?_) l
 grind[Zc7]
theorem Zrd(w:List UInt8)(h:YI w<100000000000000000):wK w=YI w:=by
 revert h;refine Zc6 (p:=λw:List UInt8=>YI w<100000000000000000->wK w=YI w) (λ_=>rfl) (λl c ih h=>?_) w
 grind[Zhu,Zc7]
theorem ZhL(n:Nat)(hn:n<100000000000000000):jU (yc n)=some n:=by
 have h1:Jo (yc n)=false:=by
  rcases Bb 1 (yc n).length with h | h
  ·obtain⟨c,l,e,hc⟩:=ZqV n h;rw[e];simp[Jo,hc]
  ·rcases hd:yc n with _ | ⟨c,_ | ⟨d,l⟩⟩
   ·exact absurd hd (Zhw n)
   ·simp[Jo]
   ·rw[hd]at h;simp at h
 have h2:YK (yc n)=true:=by unfold YK;rw[Ax];intro c hc;simpa using Zhv n c hc
 simp_all[jU,Zrd,ZqU]
theorem Zre{w:List UInt8}{n:Nat}(h:jU w=some n):n<=1000000000000000000:=by grind[jU,ZhK,YK]
open Go Go.Proofs
theorem ZhM(l:List UInt8)(k:Nat):(bs l)[k]?=l[k]?:=by
 by_cases h:k<l.length
 ·rw[Af h,getElem?_pos (bs l) k (by rw[vk];exact h)];rfl
 ·rw[Ak DQ,getElem?_neg (bs l) k (by rw[vk];omega)]
theorem Zc8{a b:ByteArray}(h:a.toList=b.toList):a=b:=by
 rw[Lib.toList_data,Lib.toList_data]at h;cases a;cases b;simp at h;congr
theorem Zc9{a b:ByteArray}(h:a≠b):jO .eql a b=some (.bool false):=by
 have h2:¬a.toList=b.toList:=λe=>h (Zc8 e)
 simp[jO,h2]
theorem ZhN{w:List UInt8}:bs w=bs []<->w=[]:=by
 constructor
 ·intro h;have:=congrArg ByteArray.size h;rw[vk,vk]at this;exact Aq (by simpa using this)
 ·rintro rfl;rfl
theorem Zrf(w:List UInt8)(hl:w.length<=1099511627776):Pure prog 138 [T (bs w)] (B (ZA w)):=by
 have hsz:=vk w;refine zr func138 ntmps138 results138 λS nx hd=>?_
 refine D0 ?_
 repeat apply za
 refine ze [] hsz ?_;refine zj (zC (λk:Nat=>k<=w.length/\∀c∈w.take k,33<=c.toNat/\c.toNat<=126) (λk=>[(0,T (bs w)),(5,I w.length),(6,I k)]) (λ_=>[]) (λk=>w.length-k) 0 [] DR DR DR ?_);rintro k ⟨hk,ha⟩;refine D0 ?_;refine za (zv rfl (λhc=>?_) (λhc=>?_))
 ·simp at hc;obtain⟨c,hc1⟩:∃c,w[k]?=some c:=⟨_,Af hc⟩;have hg:=(ZhM w k).trans hc1;refine zh (za (zj (D0 ?_)))
  by_cases h3:c.toNat<33
  ·have h3':(c.toNat:Int)<33:=DQ
   refine za (ze [(4,13)] (zJ hg h3 h3' zB) ?_);refine zk (by simp[*]) ?_;refine D0 ?_;exact zg (zi hd DT (by rw[ZhH hc1 (by omega)];rfl))
  have h3':¬(c.toNat:Int)<33:=DQ
  by_cases h4:126<c.toNat
  ·have h4':126<(c.toNat:Int):=DQ
   refine za (ze [(4,13)] (yv hg h3 h4 h3' h4') ?_);refine zk (by simp[*]) ?_;refine D0 ?_;exact zg (zi hd DT (by rw[ZhH hc1 (by omega)];rfl))
  have h4':¬126<(c.toNat:Int):=DQ
  refine za (ze [(4,13)] (yv hg h3 h4 h3' h4') ?_);refine zm (by simp[*]) ?_;refine zh (zb ?_);have hnx:w.take (k+1)=w.take k++[c]:=by rw[AG,hc1];rfl
  exact zq (k+1) [] ⟨hc,by rw[hnx];intro d hd;rw[Ay,AY]at hd;exact hd.elim (ha d) (λe=>by subst e;omega)⟩ DQ (by simp[zu k (by omega)]) rfl DR
 ·simp at hc;obtain rfl:k=w.length:=DQ
  rw[Ai]at ha;refine zx (X3 (λ_=>.inl rfl) ?_)
  by_cases h0:w=[]
  ·subst h0;refine za (xk [] DW DW λK Gc Gh hK hGc hGh X hX0 hX=>?_);simp -implicitDefEqProofs [hX0,hX,jO]
   try clear hX0 hX X
   refine hK _ _ _ ?_;clear hK hGc hGh;clear K Gc Gh;exact D1 hd
  ·have hne:bs w≠bs []:=λe=>h0 (ZhN.1 e)
   have hq:jO .neq (bs w) ⟨#[]⟩=some (.bool true):=by
    have h2:¬(bs w).toList=(bs []).toList:=λe=>hne (Zc8 e)
    have h3:((bs w).toList == (bs []).toList)=false:=by simpa using h2
    show some (Value.bool (!((bs w).toList == (bs []).toList)))=_
    rw[h3];rfl
   have hw:ZA w=true:=(Zar w).2 ⟨h0,ha⟩;refine za (ze [] hq ?_);exact zg (zi hd DT (by simp[zn,hw]))
def Xp(o:Option Nat):PV:=match o with
 | none=>.tup [I 0,B false]
 | some n=>.tup [I n,B true]
theorem ZhO(w:List UInt8)(hl:w.length<=1099511627776):Pure prog 109 [T (bs w)] (Xp (jU w)):=by
 rcases w with _ | ⟨c0,wt⟩
 ·refine zr func109 ntmps109 results109 λS nx hd=>?_
  refine D0 ?_
  repeat apply za
  refine xk [(2,8),(6,12)] DW DW λK Gc Gh hK hGc hGh X hX0 hX=>?_
  simp -implicitDefEqProofs [hX0,hX,jO,undef]
  try clear hX0 hX X
  refine hK _ _ _ ?_;clear hK hGc hGh;clear K Gc Gh;refine zk DR ?_;refine D0 ?_;exact D1 hd
 obtain⟨w,hw⟩:∃w,w=c0 :: wt:=⟨_,rfl⟩;have hc0:w[0]?=some c0:=by rw[hw];rfl
 have hne:w≠[]:=by rw[hw];simp
 have hod:Jo w=(decide (c0.toNat=48) && decide (1<w.length)):=by rw[hw];cases wt<;>simp[Jo]
 rw[<-hw]at hl ⊢;clear hw wt;obtain⟨B,hB⟩:∃B,B=bs w:=⟨_,rfl⟩;have hsz:B.size=w.length:=by rw[hB,vk]
 have hg:∀k,B[k]?=w[k]?:=λk=>by rw[hB];exact ZhM w k
 have hg0:=(hg 0).trans hc0;have he:jO .eql B ⟨#[]⟩=some (.bool false):=by
  have:B≠⟨#[]⟩:=by intro h;have:=congrArg ByteArray.size h;rw[hsz]at this;exact hne (Aq (by simpa[ByteArray.size] using this))
  exact Zc9 this
 rw[<-hB]
 by_cases hodd:Jo w=true
 ·have hr:jU w=none:=by unfold jU;rw[if_pos hodd]
  rw[hr];rw[hod]at hodd;simp only[Av,decide_eq_true_eq]at hodd;obtain⟨q1,q2⟩:=hodd;have h3:(c0.toNat:Int)=48:=DQ
  refine zr func109 ntmps109 results109 λS nx hd=>?_
  refine D0 ?_
  repeat apply za
  refine ze [(2,8),(6,12)] (zP hsz hg0 he h3 q1 (zo q2 zB)) ?_;refine zk DV ?_;refine D0 ?_;exact D1 hd
 have hcond:(c0.toNat=48/\¬1<w.length)\/¬c0.toNat=48:=by
  rw[hod]at hodd;simp only[Av,decide_eq_true_eq,not_and]at hodd
  by_cases h1:c0.toNat=48
  ·exact .inl ⟨h1,hodd h1⟩
  ·exact .inr h1
 have hnum:jU w=if YK w=true then some (wK w) else none:=by unfold jU;rw[if_neg hodd]
 rw[hnum];clear hnum hodd hod;refine zr func109 ntmps109 results109 λS nx hd=>?_
 refine D0 ?_;rcases hcond with ⟨h1,h2⟩ | h1
 have h3:(c0.toNat:Int)=48:=DQ
 repeat apply za
 refine ze [(2,8),(6,12)] (zP hsz hg0 he h3 h2 zB) ?_;refine zm DV ?_
 rotate_left
 have h3:¬(c0.toNat:Int)=48:=DQ
 repeat apply za
 refine ze [(2,8),(6,12)] (yv hsz hg0 he h3 zB) ?_;refine zm (by simp[*]) ?_
 all_goals
  clear h1 h3 he hg0 hc0;refine zh (D0 ?_)
  repeat apply za
  refine ze [] hsz ?_;refine zj (zC (λk:Nat=>k<=w.length/\∀c∈w.take k,48<=c.toNat/\c.toNat<=57) (λk=>[(0,T B),(4,I (wK (w.take k))),(19,I w.length),(20,I k)]) (λ_=>[]) (λk=>w.length-k) 0 [] DR (by simp[wK]) DR ?_);rintro k ⟨hk,ha⟩;refine D0 ?_;refine za (zv rfl (λhc=>?_) (λhc=>?_))
  ·simp at hc;obtain⟨c,hc1⟩:∃c,w[k]?=some c:=⟨_,Af hc⟩;have hgk:=(hg k).trans hc1;have hs57:=ZhK (w.take k) λc hc=>(ha c hc).2
   refine zh (za (zj (D0 ?_)))
   by_cases h3:c.toNat<48
   ·have h3':(c.toNat:Int)<48:=DQ
    repeat apply za
    refine ze [(4,27)] (zJ hgk h3 h3' zB) ?_;refine zk (by simp[*]) ?_;refine D0 ?_;exact zg (zi hd DT (by rw[ZhJ hc1 (by omega)];rfl))
   have h3':¬(c.toNat:Int)<48:=DQ
   by_cases h4:57<c.toNat
   ·have h4':57<(c.toNat:Int):=DQ
    repeat apply za
    refine ze [(4,27)] (yv hgk h3 h3' h4 h4') ?_;refine zk (by simp[*]) ?_;refine D0 ?_;exact zg (zi hd DT (by rw[ZhJ hc1 (by omega)];rfl))
   have h4':¬57<(c.toNat:Int):=DQ
   repeat apply za
   refine ze [(4,27)] (yv hgk h3 h3' h4 h4') ?_;refine zm (by simp[*]) ?_;refine zh ?_;have htk:w.take (k+1)=w.take k++[c]:=by rw[AG,hc1];rfl
   have hnx:wK (w.take (k+1))=if 100000000000000000<=wK (w.take k) then 1000000000000000000 else 10*wK (w.take k)+(c.toNat-48):=by rw[htk];exact Zc7 _ _
   have ha':∀d∈w.take (k+1),48<=d.toNat/\d.toNat<=57:=by rw[htk];intro d hd;rw[Ay,AY]at hd;exact hd.elim (ha d) (λe=>by subst e;omega)
   obtain⟨d1,hd1⟩:∃d1,wK (w.take (k+1))=d1:=⟨_,rfl⟩;rw[hd1]at hnx;generalize wK (w.take k)=d0 at *
   by_cases w5:100000000000000000<=d0
   ·rw[if_pos w5]at hnx;have w5':100000000000000000<=(d0:Int):=DQ
    refine za (ze [] (zo w5 w5') ?_);refine zk (by simp[*]) ?_;refine zb ?_;refine zb ?_;exact zq (k+1) [] ⟨hc,ha'⟩ DQ (by simp[zu k (by omega),hd1,hnx]) rfl DR
   ·rw[if_neg w5]at hnx;have w5':¬100000000000000000<=(d0:Int):=DQ
    have w1:W ((d0:Int)*10)=(d0:Int)*10:=by simp only[W,AF];omega
    have w2:IntKind.u8.wrap ((c.toNat:Int)-48)=(c.toNat:Int)-48:=by
     have e:IntKind.u8.wrap ((c.toNat:Int)-48)=((c.toNat:Int)-48) % 256:=by simp[IntKind.wrap,IntKind.bits,IntKind.signed]
     rw[e];omega
    have w3:W ((c.toNat:Int)-48)=(c.toNat:Int)-48:=by simp only[W,AF];omega
    have w4:W ((d0:Int)*10+((c.toNat:Int)-48))=d1:=by simp only[W,AF];omega
    refine za (ze [] (zo w5 w5') ?_);refine zm (by simp[*]) ?_;refine ze [] (yv hgk w1 w2 w3 w4) ?_;refine zb ?_;exact zq (k+1) [] ⟨hc,ha'⟩ DQ (by simp[zu k (by omega),hd1]) rfl DR
  ·simp at hc;obtain rfl:k=w.length:=DQ
   refine zx (X3 (λ_=>.inl rfl) ?_);rw[Ai]at ha ⊢;have hdg:YK w=true:=by unfold YK;rw[Ax];intro c hc;simpa using ha c hc
   refine D0 ?_;exact zg (zi hd DT (by simp[zn,hdg,Xp]))
open Go
def Qs(q:List Int):Prop:=∀z∈q,0<=z/\z<=2147483648
structure GoodV (n:Nat) (v:List Visit):Prop where
 len:v.length<=64
 ok:∀s∈v,(0<=s.d/\s.d<n)/\1<=s.q/\s.q<=2147483648
 nd:(v.map (·.d)).Nodup
def yZ:Nat->List Int->List Visit
 | _,[]=>[]
 | i,z :: l=>if 0<z then ⟨i,z⟩ :: yZ (i+1) l else yZ (i+1) l
theorem Zau:∀(l:List Int) (i:Nat),(yZ i l).length<=l.length
 | [],_=>by simp[yZ]
 | z :: l,i=>by
  have:=Zau l (i+1);simp only[yZ];split<;>simp<;>omega
theorem Zav:∀(l:List Int) (i:Nat),Qs l->∀s∈yZ i l,((i:Int)<=s.d/\s.d<(i+l.length:Nat))/\1<=s.q/\s.q<=2147483648
 | [],_,_=>by intro s hs;cases hs
 | z :: l,i,h=>by
  have ih:=Zav l (i+1) λx hx=>h x (by simp[hx])
  have hz:=h z DR;intro s hs;simp only[yZ]at hs;split at hs
  ·rcases As.1 hs with rfl | hs
   ·simp only[Ad];omega
   ·have:=ih s hs;simp only[Ad];omega
  ·have:=ih s hs;simp only[Ad];omega
theorem ZhP:∀(l:List Int) (i:Nat),∀s∈yZ i l,(i:Int)<=s.d
 | [],_=>by intro s hs;cases hs
 | z :: l,i=>by
  have ih:=ZhP l (i+1);intro s hs;simp only[yZ]at hs;split at hs
  ·rcases As.1 hs with rfl | hs
   ·exact CL _
   ·have:=ih s hs;omega
  ·have:=ih s hs;omega
theorem ZhQ:∀(l:List Int) (i:Nat),((yZ i l).map (·.d)).Nodup
 | [],_=>by simp[yZ]
 | z :: l,i=>by
  have ih:=ZhQ l (i+1);simp only[yZ];split
  ·rw[AA,Cr];refine⟨λh=>?_,ih⟩;obtain⟨s,hs,e⟩:=Al.1 h;have:=ZhP l (i+1) s hs;simp only at e;omega
  ·exact ih
theorem Zrg(n a k:Nat):(yy n a k).Nodup:=by
 unfold yy;refine List.Pairwise.map _ (λx y (h:x≠y)=>?_) (List.Pairwise.filter _ List.nodup_range);intro e;apply h;omega
theorem ZhR{q:List Int}{n:Nat}(hq:Qs q)(hl:q.length<=n)(hn:n<=64):GoodV n (yZ 0 q):=by
 refine⟨AB (Zau q 0) DQ,λs hs=>?_,ZhQ q 0⟩;have:=Zav q 0 hq s hs;omega
def Qz(c:Cust)(p:Nat):List Visit:=(yy p 0 64).map λd=>⟨d,c.demand⟩
open Go
structure CustMade (c:Cust) (n:Nat):Prop where
 fits:CustFits c
 pats:∀p∈c.pats,p<2 ^ 64
 npats:c.pats.length<=1048576
 per:c.kind=1->(∀p∈c.pats,∀d∈yy p 0 64,d<n)/\1<=c.demand/\c.demand<=2147483648
open Go
theorem Zda{α:Type}[Enc α](h1:Enc.sz α=1)(l:List α)(k:Nat)(v:α)(h:k<l.length):yf (l.flatMap Enc.enc) k (Enc.enc v)=(l.set k v).flatMap Enc.enc:=by
 have e1:(l.flatMap Enc.enc).take k=(l.take k).flatMap Enc.enc:=by
  have:=Y7 (α:=α) Enc.enc (Enc.sz α) Enc.len l k;rwa[h1,BR]at this
 have e2:(l.flatMap Enc.enc).drop (k+1)=(l.drop (k+1)).flatMap Enc.enc:=by
  have:=JN (α:=α) Enc.enc (Enc.sz α) Enc.len l (k+1);rwa[h1,BR]at this
 rw[yf,Enc.len,h1,e1,e2,AE,if_pos h];simp
open Go Go.Proofs Hp
def RowOf(S:Store)(pl:PV)(l:List Int):Prop:=pl=L l\/∃id ver,pl=.sl id ver 1 0 l.length/\S id=.cells ver 3 (l.flatMap Enc.enc)
theorem RowOf.ext{S:Store}{pl:PV}{l:List Int}(h:RowOf S pl l){nx:Nat}(hd:zW nx S)(obs:List Ob):RowOf (ext S nx obs) pl l:=by
 rcases h with h | ⟨id,ver,h1,h2⟩
 ·exact .inl h
 ·exact .inr ⟨id,ver,h1,(zD (yW hd h2 DR)).trans h2⟩
theorem ZhS{S:Store}{nx id ver:Nat}(hd:zW nx S)(x:Inst)(v p f pr:PV)(b:Int)(fn:FuncId)(fs:List PV)(n:Nat)(hn:x.days=n)(hn2:n<=1000)(hS:S id=.cells ver 235 (xy x v b p f pr))(Pk:Nat->Store->Prop)(h0:Pk 0 S)
  (hPd:∀k T,Pk k T->zW nx T) (hstep:∀k,k<n->∀T,Pk k T->Spec prog fn (fs++[I k]) T (λ_ S'=>Pk (k+1) S')) :
  Spec prog 173 [.ptr id ver 0,.fn (.func fn) fs []] S (λ_ S'=>Pk n S'):=by
 refine u6 hd func173 ntmps173 results173 ?_;have hlt:id<nx:=yW hd hS DR;have xw:=λobs=>(zD (S:=S) (obs:=obs) hlt).trans hS
 refine za (ze [] (zo xw hn) ?_);refine zj (jx (σ:=Nat × Store) (λs=>s.1<=n/\Pk s.1 s.2) (λs=>[(1,.fn (.func fn) fs []),(9,I n),(10,I s.1)]) (λs=>s.2) (λ_=>[]) (λs=>n-s.1) (zS (0,S) [] ⟨by simp,h0⟩ DR rfl DR) ?_);rintro⟨k,T⟩ ⟨hk,hP⟩;simp only at hk hP ⊢;refine D0 ?_;refine za (zv rfl (λhc=>?_) (λhc=>?_))
 ·simp at hc;refine zh (za (zj (D0 ?_)));refine zb ?_;refine λhsuf=>(Spec.mono (by rw[qJ (hPd k T hP)];simpa using hstep k hc T hP) ?_).v
  rintro _ T' hP';refine⟨T',[],(qJ (hPd _ _ hP')).symm,zN hsuf ?_⟩;refine zb ?_;exact zq (k+1,T') [] ⟨hc,hP'⟩ DQ (by simp[zu k (by omega)]) rfl DR
 ·simp at hc;obtain rfl:k=n:=DQ
  refine zx ?_;exact⟨_,T,rfl,hP,zR (hPd _ _ hP)⟩
def Z7(x:Inst)(j:Nat):Int:=W (yE x [(j:Int)])
def jJ(x:Inst)(k i:Nat):List (List Int):=(List.range x.cust.length).map λj=>List.replicate (if j<i then k+1 else k) (Z7 x j)
theorem Jp(x:Inst)(k i:Nat):(jJ x k i).length=x.cust.length:=by simp[jJ]
theorem ZhT(x:Inst)(k i j:Nat)(h:j<x.cust.length):(jJ x k i).getD j []=List.replicate (if j<i then k+1 else k) (Z7 x j):=by simp_all[jJ]
theorem Zrh(x:Inst)(k:Nat):jJ x k x.cust.length=jJ x (k+1) 0:=by simp[jJ]
theorem Zri(x:Inst)(k i:Nat)(h:i<x.cust.length):(jJ x k i).set i (List.replicate (k+1) (Z7 x i))=jJ x k (i+1):=by
 apply A6
 grind[jJ]
theorem Zrj{S:Store}{id ver A va base:Nat}{ws:Nat->Nat}{x:Inst}{v p f:PV}{b:Int}(k:Nat)(hx:x.cust.length<=1000)(hk:k<=1000)(hid:id<base)(hidA:id≠A)(hS:S id=.cells ver 235 (xy x v b p f (.sl A va 1 0 x.cust.length)))
  (hR:RowsAt S A va 26 base 3 1 ws (jJ x k 0)) :
  Spec prog 174 [.ptr id ver 0,I k] S (λ_ S'=>(∃ws',RowsAt S' A va 26 base 3 1 ws' (jJ x (k+1) 0))/\∀o,o≠A->(o<base\/base+x.cust.length<=o)->S' o=S o):=by
 refine yl func174 ntmps174 results174 λnx hd=>?_
 have hlt:id<nx:=yW hd hS DR;have hltA:A<nx:=yW hd hR.arr DR;have hltR:∀i,i<x.cust.length->base+i<nx:=λi hi=>yW hd (hR.row i (by simp_all[Jp])) DR
 have xw:=λobs=>(zD (S:=S) (obs:=obs) hlt).trans hS
 refine za (ze [] xw ?_);refine zj (jx (σ:=Nat × Store × (Nat->Nat)) (λs=>s.1<=x.cust.length/\RowsAt s.2.1 A va 26 base 3 1 s.2.2 (jJ x k s.1)/\∀o,o≠A->(o<base\/base+x.cust.length<=o)->s.2.1 o=S o)
  (λs=>[(0,.ptr id ver 0),(10,I x.cust.length),(11,I s.1)]) (λs=>s.2.1) (λ_=>[]) (λs=>x.cust.length-s.1) (zS (0,S,ws) [] ⟨by simp,hR,λ_ _ _=>rfl⟩ DR rfl DR) ?_)
 clear hR;rintro⟨i,T,ws⟩ ⟨hi,hR,hT⟩;simp only at hi hR hT ⊢;refine D0 ?_;refine za (zv rfl (λhc=>?_) (λhc=>?_))
 ·simp at hc;have hTw:T id=.cells ver 235 (xy x v b p f (.sl A va 1 0 x.cust.length)):=(hT id hidA (.inl hid)).trans hS;have hAb:=hR.out;have hri:=hR.row i (by simp_all[Jp]);rw[ZhT x k i i hc,if_neg (CE i)]at hri;have hlti:=hltR i hc;have xw:=λobs=>(zD (S:=T) (obs:=obs) hlt).trans hTw
  have xa:=λobs=>(zD (S:=T) (obs:=obs) hltA).trans hR.arr
  have xr:=λobs=>(zD (S:=T) (obs:=obs) hlti).trans hri
  have ya:=λ(o:Ob) obs=>(zD (S:=T.set (base+i) o) (obs:=obs) hltA).trans ((q10 _ _ _ _ DQ).trans hR.arr)
  have yw:=λ(o:Ob) obs=>(zD (S:=T.set (base+i) o) (obs:=obs) hlt).trans ((q10 _ _ _ _ DQ).trans hTw)
  have zw:=λ(o o':Ob) obs=>(zD (S:=(T.set (base+i) o).set A o') (obs:=obs) hlt).trans ((q10 _ _ _ _ hidA).trans ((q10 _ _ _ _ DQ).trans hTw))
  have g1:¬nx<=base+i:=DQ
  have g2:¬nx<=A:=DQ
  obtain⟨tl,hdr⟩:=Zc1 base 1 ws (jJ x k i) i (by simp_all[Jp]);rw[ZhT x k i i hc,if_neg (CE i),Ch]at hdr;have hcl:(vQ base 1 ws (jJ x k i)).length=x.cust.length:=by rw[Zc0,Jp]
  have hsp:=Zb5 (vQ base 1 ws (jJ x k i)) i (.sl (base+i) (ws i+1) 1 0 (k+1)) DQ;have hway:=ZeZ x [(i:Int)] DR (λc hc=>by grind[qb]);have hfe:∀m:Nat,((List.replicate m (Z7 x i)).flatMap Enc.enc).length=m:=λm=>by simp
  refine zh (za (zj (D0 ?_)));refine zz (some [id]) (Row.pures [0,1,2,3,4,5,6,7,8,9,10,12,13,14,15,16,17,18,19] (.alt 11 (.alt 20 (Row.pures [21] (.alt 22 (.done) .stop)) .stop) .stop)) mixed (zP xw xa xr ya yw (zo (zP zw hdr g1 g2 hsp hcl) hc)) ?_;refine zH (hway) (zP xw xa xr ya yw (zo (zP zw hdr g1 g2 hsp hcl) hc)) ?_;refine⟨by omega,by omega,?_⟩;obtain⟨T',hT'⟩:∃T',T'=(T.set (base+i) (.cells (ws i+1) 3 ((List.replicate (k+1) (Z7 x i)).flatMap Enc.enc))).set A (.cells va 26 ((vQ base 1 ws (jJ x k i)).set i (.sl (base+i) (ws i+1) 1 0 (List.replicate (k+1) (Z7 x i)).length))):=⟨_,rfl⟩;have hnew:=hR.turn (i:=i) (by simp_all[Jp]) (T':=T') (ws i+1) (List.replicate (k+1) (Z7 x i)) DZ (by rw[hT',q10 _ _ _ _ (by omega),q11]) (λo o1 o2=>by simp_all[q10]);rw[Zri x k i hc]at hnew;refine zb ?_;refine zq (i+1,T',_) [] ⟨hc,hnew,λo ho hob=>?_⟩ DQ (by simp[zu i (by omega)]) ?_ DR
  ·dsimp only;rw[hT',q10 _ _ _ _ ho,q10 _ _ _ _ DQ];exact hT o ho hob
  ·dsimp only;rw[hT'];have htk:((List.replicate k (Z7 x i)).flatMap Enc.enc).take k=(List.replicate k (Z7 x i)).flatMap Enc.enc:=Ae (by rw[hfe];exact Ag _)
   simp_all[List.replicate_succ',Z7]
 ·simp at hc;obtain rfl:i=x.cust.length:=DQ
  rw[Zrh]at hR;refine zx ?_;have hdT:zW nx T:=λo ho=>by
   have h1:o≠A:=DQ
   by_cases h2:o<base\/base+x.cust.length<=o
   ·rw[hT o h1 h2];exact hd o ho
   ·have:=hltR (o-base) DQ;omega
  exact⟨_,T,rfl,⟨⟨ws,hR⟩,hT⟩,zR hdT⟩
def Z8(k:Nat)(l:List Int):List Int:=l.set k (W (W (2*l.getD k 0)+1))
def uq(pr:List (List Int))(k i:Nat):List (List Int):=(List.range pr.length).map λj=>if j<i then Z8 k (pr.getD j []) else pr.getD j []
def Xq(fs:List Int)(pr:List (List Int))(k:Nat):List (List Int):=if fs.getD k 0=14 then pr.map (Z8 k) else pr
def Xr(fs:List Int)(pr:List (List Int)):Nat->List (List Int)
 | 0=>pr
 | k+1=>Xq fs (Xr fs pr k) k
theorem ZhU(k:Nat)(l:List Int):(Z8 k l).length=l.length:=by simp[Z8]
theorem WB(pr:List (List Int))(k i:Nat):(uq pr k i).length=pr.length:=by simp[uq]
theorem Zdb(pr:List (List Int))(k i j:Nat)(h:j<pr.length):(uq pr k i).getD j []=if j<i then Z8 k (pr.getD j []) else pr.getD j []:=by simp_all[uq]
theorem Zrk(pr:List (List Int))(k:Nat):uq pr k 0=pr:=by
 apply A6
 grind[uq]
theorem Zrl(pr:List (List Int))(k:Nat):uq pr k pr.length=pr.map (Z8 k):=by
 apply A6
 grind[uq]
theorem Zrm(pr:List (List Int))(k i:Nat)(h:i<pr.length):(uq pr k i).set i (Z8 k (pr.getD i []))=uq pr k (i+1):=by
 apply A6
 grind[uq]
def Zd(m n:Nat)(pr:List (List Int)):Prop:=pr.length=m/\∀l∈pr,l.length=n/\∀z∈l,zO z
theorem Zdc(x:Int):zO (W x):=by
 have key:∀m:Int,0<=m->m<2 ^ 64->zO (if (true && decide (m>=2 ^ (64-1)))=true then m-2 ^ 64 else m):=by
  intro m h1 h2;unfold zO
  by_cases h:m>=2 ^ (64-1)
  ·simp[h];omega
  ·simp[h];omega
 exact key _ (Int.emod_nonneg x DX) (Int.emod_lt_of_pos x DX)
theorem Zrn{m n:Nat}{pr:List (List Int)}(fs:List Int)(k:Nat)(h:Zd m n pr):Zd m n (Xq fs pr k):=by
 unfold Xq;split
 ·refine⟨by simp[h.1],λl hl=>?_⟩;obtain⟨l',hl',rfl⟩:=Al.1 hl;rw[ZhU];refine⟨(h.2 l' hl').1,λz hz=>?_⟩;rcases Bw hz with hz | rfl
  ·exact(h.2 l' hl').2 z hz
  ·exact Zdc _
 omega
theorem WC{m n:Nat}{pr:List (List Int)}(fs:List Int)(h:Zd m n pr):∀k,Zd m n (Xr fs pr k)
 | 0=>h
 | k+1=>Zrn fs k (WC fs h k)
theorem ZhV(x:Inst)(n:Nat):Zd x.cust.length n (jJ x n 0):=by
 refine⟨Jp x n 0,λl hl=>?_⟩;obtain⟨j,_,rfl⟩:=Al.1 hl;refine⟨by simp,λz hz=>?_⟩;rw[(List.mem_replicate.1 hz).2];exact Zdc _
theorem Zro{S:Store}{id ver A va base idF vF:Nat}{ws:Nat->Nat}{x:Inst}{v p:PV}{b:Int}{m n:Nat}{pr:List (List Int)}{fs:List Int}(k:Nat)(hm:m<=1000)(hn:n<=1000)(hkn:k<n)(hid:id<base)(hidA:id≠A)(hF:S idF=.cells vF 47 (fs.flatMap Enc.enc))(hfl:fs.length=n)
  (hS:S id=.cells ver 235 (xy x v b p (.sl idF vF 1 0 fs.length) (.sl A va 1 0 m))) (hP:Zd m n pr) (hR:RowsAt S A va 26 base 3 1 ws pr) :
  Spec prog 179 [.ptr id ver 0,I k] S (λ_ S'=>RowsAt S' A va 26 base 3 1 ws (Xq fs pr k)/\∀o,(o<base\/base+m<=o)->S' o=S o):=by
 obtain⟨hPl,hPr⟩:=hP;refine yl func179 ntmps179 results179 λnx hd=>?_
 have hlt:id<nx:=yW hd hS DR;have hltF:idF<nx:=yW hd hF DR;have hltA:A<nx:=yW hd hR.arr DR;have hltR:∀i,i<m->base+i<nx:=λi hi=>yW hd (hR.row i DQ) DR
 have xw:=λobs=>(zD (S:=S) (obs:=obs) hlt).trans hS
 have xf:=λobs=>(zD (S:=S) (obs:=obs) hltF).trans hF
 obtain⟨e,tl0,e1,-,-,e0⟩:=zE rfl fs k DQ;have hkf:k<fs.length:=DQ
 have hge:fs.getD k 0=e:=by rw[Aa,e1];rfl
 repeat apply za
 refine ze [] (zJ xw xf e0 hkf) ?_
 by_cases he:e=14
 case neg =>
  refine zk (by simp[he]) ?_;exact zg ⟨_,S,rfl,⟨by simp_all[Xq],λ_ _=>rfl⟩,zR hd⟩
 refine zm (by simp[he]) ?_;refine zh (za (ze [] xw ?_));have hkill:∀T:Store,(∀o,(o<base\/base+m<=o)->T o=S o)->zW nx T:=λT hT o ho=>by
  by_cases h2:o<base\/base+m<=o
  ·rw[hT o h2];exact hd o ho
  ·have:=hltR (o-base) DQ;omega
 refine zj (jx (σ:=Nat × Store) (λs=>s.1<=m/\RowsAt s.2 A va 26 base 3 1 ws (uq pr k s.1)/\∀o,(o<base\/base+m<=o)->s.2 o=S o)
  (λs=>[(0,.ptr id ver 0),(1,I k),(17,I m),(18,I s.1)]) (λs=>s.2) (λ_=>[]) (λs=>m-s.1) (zS (0,S) [] ⟨by simp,by simp_all[Zrk],λ_ _=>rfl⟩ DR rfl DR) ?_)
 have hAb0:=hR.out;clear hR;rintro⟨i,T⟩ ⟨hi,hR,hT⟩;simp only at hi hR hT ⊢;refine D0 ?_;refine za (zv rfl (λhc=>?_) (λhc=>?_))
 ·simp at hc;have hil:i<pr.length:=DQ
  have hTw:T id=.cells ver 235 (xy x v b p (.sl idF vF 1 0 fs.length) (.sl A va 1 0 m)):=(hT id (.inl hid)).trans hS;have hri:=hR.row i (by simp_all[WB]);rw[Zdb pr k i i hil,if_neg (CE i)]at hri;obtain⟨tl,hdr⟩:=Zc1 base 1 ws (uq pr k i) i (by simp_all[WB]);rw[Zdb pr k i i hil,if_neg (CE i)]at hdr;have hcl:(vQ base 1 ws (uq pr k i)).length=m:=by rw[Zc0,WB,hPl]
  have hgl:(pr.getD i []).length=n:=by
   rw[Aa,Af hil];exact(hPr _ (A9 hil)).1
  generalize hrow:pr.getD i []=row at hri hdr hgl;obtain⟨z,tl2,z1,-,-,z0⟩:=zE rfl row k DQ;have hgz:row.getD k 0=z:=by rw[Aa,z1];rfl
  have hkr:k<row.length:=DQ
  have hlti:=hltR i hc;have xw:=λobs=>(zD (S:=T) (obs:=obs) hlt).trans hTw
  have xa:=λobs=>(zD (S:=T) (obs:=obs) hltA).trans hR.arr
  have xr:=λobs=>(zD (S:=T) (obs:=obs) hlti).trans hri
  have yw:=λ(o:Ob) obs=>(zD (S:=T.set (base+i) o) (obs:=obs) hlt).trans ((q10 _ _ _ _ DQ).trans hTw)
  have ya:=λ(o:Ob) obs=>(zD (S:=T.set (base+i) o) (obs:=obs) hltA).trans ((q10 _ _ _ _ DQ).trans hR.arr)
  have g1:¬nx<=base+i:=DQ
  have hsp:=Zda (α:=Int) rfl row k (W (W (2*z)+1)) hkr;have hsp':yf (row.flatMap Enc.enc) k [I (W (W (2*z)+1))]=(row.set k (W (W (2*z)+1))).flatMap Enc.enc:=by simpa using hsp
  have hrl:(row.flatMap Enc.enc).length=n:=by rw[xl,hgl];simp[Enc.sz]
  refine zh (za (zj (D0 ?_)));refine zz (some [id,A]) (Row.pures [0,1,2,3,4,5,6,7,8,9,10,11,12,13,15] (.alt 14 (Row.pures [16] (.alt 17 (Row.pures [18,19,20] (.alt 21 (.done) .stop)) .stop)) .stop)) mixed (zP xw xa xr yw ya (zo (zP hdr g1 hcl hc z0 hkr) (zJ hsp' hrl hgl hkn))) ?_;refine⟨by omega,?_⟩;obtain⟨T',hT'⟩:∃T',T'=T.set (base+i) (.cells (ws i) 3 ((Z8 k row).flatMap Enc.enc)):=⟨_,rfl⟩;have hnew:=hR.turn (i:=i) (by rw[WB];omega) (T':=T') (ws i) (Z8 k row) (by
   rw[hT',q10 _ _ _ _ DQ,hR.arr];congr 1;refine(A6 λj=>?_).symm;rw[Bv];split
   ·rename_i hij;subst hij;rw[if_pos DQ,Zhr _ _ _ _ _ (by rw[WB];omega),Zdb pr k i i hil,if_neg (CE i),hrow,ZhU]
   ·rfl) (by rw[hT'];simp) (λo o1 o2=>by rw[hT'];exact q10 _ _ _ _ o2)
  have hws:(λk=>if k=i then ws i else ws k)=ws:=by funext j;split<;>simp_all
  rw[hws,<-hrow,Zrm pr k i hil]at hnew;refine zb ?_;refine zq (i+1,T') [] ⟨hc,hnew,λo hob=>?_⟩ DQ (by simp[zu i (by omega)]) ?_ DR
  ·dsimp only;rw[hT',q10 _ _ _ _ DQ];exact hT o hob
  ·dsimp only;rw[hT'];simp only[Z8,hgz]
 ·simp at hc;obtain rfl:i=m:=DQ
  rw[<-hPl,Zrl]at hR;refine zx ?_;exact⟨_,T,rfl,⟨by simp_all[Xq],hT⟩,zR (hkill T hT)⟩
def Z9(e:Int):Bool:=decide (e≠0) && decide (e≠14)
theorem Zrp(e:Int):Pure prog 178 [I e] (B (Z9 e)):=by
 unfold Z9;refine zr func178 ntmps178 results178 λS nx hd=>?_
 refine D0 ?_
 by_cases h1:e=0
 ·refine za (ze [(2,5)] (zo h1 zB) ?_);exact zg (zi hd rfl (by simp[zn,h1]))
 ·by_cases h2:e=14
  ·refine za (ze [(2,5)] (zA h1 h2 zB) ?_);exact zg (zi hd rfl (by simp[zn,h2]))
  ·refine za (ze [(2,5)] (zA h1 h2 zB) ?_);exact zg (zi hd rfl DZ)
theorem Zrq{S:Store}{idF vF:Nat}(fs:List Int)(hF:S idF=.cells vF 47 (fs.flatMap Enc.enc))(hl:fs.length<=1000):
  Spec prog 213 [.sl idF vF 1 0 fs.length,.fn (.func 178) [] []] S (λq S'=>(∃z:Int,q=I z/\(fs.any Z9=decide (0<=z)))/\S'=S):=by
 refine yl func213 ntmps213 results213 λnx hd=>?_
 have hltF:idF<nx:=yW hd hF DR;have xf:=λobs=>(zD (S:=S) (obs:=obs) hltF).trans hF
 refine D0 ?_
 repeat apply za
 refine zb ?_;refine zj (zC (λk:Nat=>k<=fs.length/\∀e∈fs.take k,Z9 e=false) (λk=>[(0,.sl idF vF 1 0 fs.length),(1,.fn (.func 178) [] []),(7,I fs.length),(8,I k)]) (λ_=>[]) (λk=>fs.length-k) 0 [] DR DR DR ?_);rintro k ⟨hk,h0⟩;refine D0 ?_;refine za (zv rfl (λhc=>?_) (λhc=>?_))
 ·simp at hc;obtain⟨e,tl,a1,a2,a3,e0⟩:=zE rfl fs k hc;refine zh (za (zj (D0 ?_)));refine za (ze [] (zA xf e0 hc) ?_);refine zt (Zrp e) ?_;cases hb:Z9 e with
  | true =>
   refine zk rfl (D0 ?_);exact zg ⟨_,S,rfl,⟨⟨k,by simp,by grind⟩,rfl⟩,zR hd⟩
  | false =>
   refine zm rfl (zh (zb ?_));exact zq (k+1) [] ⟨hc,λy hy=>by grind⟩ DQ (by simp[zu k (by omega)]) rfl DR
 ·simp at hc;obtain rfl:k=fs.length:=DQ
  rw[Ai]at h0;refine zx (D0 ?_);exact zg ⟨_,S,rfl,⟨⟨-1,by simp,by simp_all⟩,rfl⟩,zR hd⟩
theorem Zrr{S:Store}{idF vF:Nat}(fs:List Int)(hF:S idF=.cells vF 47 (fs.flatMap Enc.enc))(hl:fs.length<=1000):
  Spec prog 177 [.sl idF vF 1 0 fs.length,.fn (.func 178) [] []] S (λq S'=>q=B (fs.any Z9)/\S'=S):=by
 refine yl func177 ntmps177 results177 λnx hd=>?_
 have hltF:idF<nx:=yW hd hF DR;refine D0 ?_;refine D0 ?_;refine λhsuf=>((Zrq fs ((zD hltF).trans hF) hl).mono ?_).v
 rintro _ _ ⟨⟨z,rfl,hz⟩,rfl⟩;refine⟨_,_,rfl,zN hsuf ?_⟩;exact zg ⟨_,S,rfl,⟨by simp[zn,hz],rfl⟩,zR hd⟩
def Ze(x:Inst)(sol:Cust->List Int->List Visit × Bool)(pr:List (List Int))(k:Nat):List (List Visit × Bool):=(List.range k).map λi=>sol (x.cust.getD i default) (pr.getD i [])
def qN(x:Inst)(sol:Cust->List Int->List Visit × Bool)(pr:List (List Int)):List (List Visit) × Int:=if (Ze x sol pr x.cust.length).all (·.2)=true then ((Ze x sol pr x.cust.length).map (·.1),0) else ([],15)
theorem Zrs(x:Inst)(sol:Cust->List Int->List Visit × Bool)(pr:List (List Int))(k:Nat):Ze x sol pr (k+1)=Ze x sol pr k++[sol (x.cust.getD k default) (pr.getD k [])]:=by simp[Ze,AK]
theorem ZhW(x:Inst)(sol:Cust->List Int->List Visit × Bool)(pr:List (List Int)){k m:Nat}(h:k<m):sol (x.cust.getD k default) (pr.getD k [])∈Ze x sol pr m:=Al.2 ⟨k,AL.2 h,rfl⟩
def Zdd(x:Inst)(n:Nat)(sol:Cust->List Int->List Visit × Bool):Prop :=
 ∀c∈x.cust,∀(l:List Int),l.length=n->(∀z∈l,zO z)->∀(S:Store) (pl:PV),RowOf S pl l->Spec prog 207 [.agg (zV c),I x.days,I x.cap,pl] S (λq S'=>q=.tup [L (sol c l).1,B (sol c l).2]/\S'=S)
theorem Zrt{S:Store}{A va base:Nat}{ws:Nat->Nat}{x:Inst}{n:Nat}{pr:List (List Int)}{sol:Cust->List Int->List Visit × Bool}(hx:x.cust.length<=1000)(hP:Zd x.cust.length n pr)(hR:RowsAt S A va 26 base 3 1 ws pr)(hs:Zdd x n sol):
  Spec prog 175 [.agg (zy x),.sl A va 1 0 x.cust.length] S (λq S'=>q=.tup [L (qN x sol pr).1,I (qN x sol pr).2]/\S'=S):=by
 obtain⟨hPl,hPr⟩:=hP;refine yl func175 ntmps175 results175 λnx hd=>?_
 have hltA:A<nx:=yW hd hR.arr DR;have xa:=λobs=>(zD (S:=S) (obs:=obs) hltA).trans hR.arr
 refine D0 ?_;intro v0;refine D0 ?_;refine za (qt 6 101 1 rfl λv1=>?_);refine D0 ?_;refine zj (zC (λs:Nat × List (List Visit) × Nat=>s.1<=x.cust.length/\s.2.1=(Ze x sol pr s.1).map (·.1)/\(Ze x sol pr s.1).all (·.2)=true) (λ(i,out,w)=>[(1,.sl A va 1 0 x.cust.length),(2,.ptr nx v0 0),(4,.sc (.slice none 0 0)),(6,.sl (nx+1) w 1 0 out.length),(13,L x.cust),(14,I x.cust.length),(15,I i)]) (λ(i,out,w)=>[.cells v0 25 (zy x),.cells w 101 (out.flatMap Enc.enc)]) (λs=>x.cust.length-s.1) (0,[],v1) [] (by simp[Ze]) DR DR ?_);rintro⟨i,out,w⟩ ⟨hi,ho,hall⟩;simp only at hi ho hall ⊢;have hol:out.length=i:=by rw[ho];simp[Ze]
 refine D0 ?_;refine za (zv rfl (λhc=>?_) (λhc=>?_))
 ·simp at hc;obtain⟨c,tl,a1,a2,a3,e1,e0⟩:=el 8 rfl x.cust i hc;have hcm:=Ab a1;have hgc:x.cust.getD i default=c:=by rw[Aa,a1];rfl
  have hil:i<pr.length:=DQ
  obtain⟨tl2,hdr⟩:=Zc1 base 1 ws pr i hil;obtain⟨hgl,hgi⟩:(pr.getD i []).length=n/\∀z∈pr.getD i [],zO z:=by
   rw[Aa,Af hil];exact hPr _ (A9 hil)
  have hrow:RowOf S (.sl (base+i) (ws i) 1 0 (pr.getD i []).length) (pr.getD i []):=.inr ⟨_,_,rfl,hR.row i hil⟩;have hsol:=hs c hcm (pr.getD i []) hgl hgi;have hch:=Zrs x sol pr i;have hcm2:=ZhW x sol pr (k:=i) hc;rw[hgc]at hch hcm2;generalize pr.getD i []=row at hdr hgl hgi hrow hsol hch hcm2;generalize hr:sol c row=r at hsol hch hcm2;obtain⟨vv,ok⟩:=r;simp only at hsol hch;refine zh (za (zj (za (ze [] (zo e0 hc) ?_))));intro v2;refine D0 ?_
  repeat apply za
  refine zb ?_;refine zk (by simp[hc]) ?_;refine ze [] (zA xa hdr hc) ?_;refine D0 ?_;refine λhsuf=>((hsol _ _ (hrow.ext hd _)).mono ?_).v
  rintro _ _ ⟨rfl,rfl⟩;refine⟨_,_,rfl,zN hsuf ?_⟩
  repeat apply za
  refine zb ?_;cases ok with
  | false =>
   have hno:qN x sol pr=([],15):=by
    unfold qN;rw[if_neg];intro q;have:=Ax.1 q _ hcm2;cases this
   rw[hno];refine zk rfl (D0 ?_);refine uc 4 rfl ?_;exact zg ⟨_,S,rfl,⟨by simp[zn],rfl⟩,zR hd⟩
  | true =>
   refine zm rfl (zh (zb ?_));refine⟨by omega,?_⟩;refine zb ?_;exact zq (i+1,out++[vv],w+1) [_] ⟨hc,by rw[hch,List.map_append,ho];rfl,by rw[hch,BU,hall];rfl⟩ DV (by simp[zu i (by omega)]) rfl DT
 ·simp at hc;obtain rfl:i=x.cust.length:=DQ
  have hyes:qN x sol pr=(out,0):=by unfold qN;rw[if_pos hall,<-ho]
  rw[hyes];refine zx (zZ 1 rfl ?_);refine D0 ?_;exact zg ⟨_,S,DT,⟨by simp[zn],rfl⟩,zR hd⟩
open Go
def Xs(x:Inst)(p:zF)(i:Nat):Int :=
 match x.cust[i]? with
 | none=>0
 | some c=>if c.kind=2 then Ji c (yR c (yt (yd i (told 0 p)) x.days)).1 else 0
def wL(x:Inst)(p:zF)(k:Nat):Int:=((List.range k).map (Xs x p)).sum
theorem Zru(x:Inst)(p:zF)(k:Nat):wL x p (k+1)=wL x p k+Xs x p k:=by simp[wL,AK]
theorem ZhX(c:Cust)(q:List Int)(hq:q.length<=1048576):(yR c q).1.length<=1048576:=by
 unfold yR;split
 ·simp
 ·cases h:qm c.size c.rate c.start q with
  | none=>simp
  | some l=>simp[Zhb h];exact hq
theorem Zaw(v:List Visit)(n:Int):(yt v n).length<=1048576:=by rw[Zaj];omega
theorem ZhY(x:Inst)(p:zF)(h:Serves x p)(hx:x.cust.length<=1048576)(hf:∀c∈x.cust,CustFits c):Pure prog 69 [.agg (zy x),.agg [L p]] (I (W (wL x p x.cust.length))):=by
 refine zr func69 ntmps69 results69 λS nx hd=>?_
 refine D0 ?_;intro v0 v1;refine D0 ?_
 repeat apply za
 refine zb ?_;refine zj (zC (λs:Nat=>s<=x.cust.length) (λk=>[(2,.ptr nx v0 0),(3,.ptr (nx+1) v1 0),(5,I (W (wL x p k))),(11,L x.cust),(12,I x.cust.length),(13,I k)]) (λ_=>[.cells v0 25 (zy x),.cells v1 30 [L p]]) (λs=>x.cust.length-s) 0 [] DR (by simp[wL]) DR ?_);rintro k hk;refine D0 ?_;refine za (zv rfl (λhc=>?_) (λhc=>?_))
 ·simp at hc;obtain⟨c,tl,a1,a2,a3,_,e0⟩:=el 8 rfl x.cust k hc;have hfc:=hf c (Ab a1);have hs:=Zru x p k;refine zh (za (zj (za (ze [] (zo hc e0) ?_))));intro v2;refine D0 ?_
  by_cases hk2:c.kind=2
  ·have hb:=Zhi x p k h;have hn:=ZcL c (yt (yd k (told 0 p)) x.days) hfc (Zaw _ _);have hh:=ZcM c (yR c (yt (yd k (told 0 p)) x.days)).1 (ZhX _ _ (Zaw _ _));have hC:Xs x p k=Ji c (yR c (yt (yd k (told 0 p)) x.days)).1:=by simp only[Xs,a1,if_pos hk2]
   rw[hC]at hs;generalize Ji c (yR c (yt (yd k (told 0 p)) x.days)).1=z at *;generalize yR c (yt (yd k (told 0 p)) x.days)=ne at *;generalize yt (yd k (told 0 p)) x.days=q at *;obtain⟨ns,er⟩:=ne;simp only at hn hh;refine zk (by simp[hk2]) ?_;refine za (zz (some [nx,nx+1,nx+2]) (Row.pures [0,1,2,3,4,5,6,7,8,9,10,11] .done) mixed trivial ?_);refine zH (hb) trivial ?_;refine zH (hn) trivial ?_;refine zb ?_;refine zt hh ?_;have hw:W (W (wL x p k)+z)=W (wL x p (k+1)):=by rw[hs,uZ]
   refine zb ?_;exact zq (k+1) [_] hc DQ (by simp[zu k (by omega)];exact hw) rfl rfl
  ·have hC:Xs x p k=0:=by simp only[Xs,a1,if_neg hk2]
   rw[hC,DC]at hs;refine zm (by simp[hk2]) ?_;refine zh (zb ?_);exact zq (k+1) [_] hc DQ (by simp[zu k (by omega),hs]) rfl rfl
 ·simp at hc;obtain rfl:k=x.cust.length:=DQ
  refine zx (D0 ?_);exact D1 hd
def xV(x:Inst)(p:zF):List Int:=p.map λd=>W (yA x d)
theorem Zrv(x:Inst)(p:zF)(hp:p.length<=1048576)(hd':∀d∈p,DayOk d)(S:Store)(nx:Nat)(hd:zW nx S):
  Spec prog 71 [.agg (zy x),.agg [L p]] S (λq S'=>∃v,q=.sl (nx+2) v 1 0 p.length/\S'=S.set (nx+2) (.cells v 3 ((xV x p).flatMap Enc.enc))):=by
 refine u6 hd func71 ntmps71 results71 ?_;refine D0 ?_;intro v0 v1;refine D0 ?_;refine za (qt 5 3 1 rfl λv2=>?_);refine D0 ?_;refine zj (zC (λs:Nat × List Int × Nat=>s.1<=p.length/\s.2.1=xV x (p.take s.1)) (λ(k,out,v2)=>[(2,.ptr nx v0 0),(3,.ptr (nx+1) v1 0),(5,.sl (nx+2) v2 1 0 out.length),(9,L p),(10,I p.length),(11,I k)]) (λ(k,out,v2)=>[.cells v0 25 (zy x),.cells v1 30 [L p],.cells v2 3 (out.flatMap Enc.enc)]) (λs=>p.length-s.1) (0,[],v2) [] (by simp[xV]) DR DR ?_);rintro⟨k,out,v2⟩ ⟨hk,ho⟩;simp only at hk ho ⊢;have hol:out.length=k:=by rw[ho];simp[xV];omega
 refine D0 ?_;refine za (zv rfl (λhc=>?_) (λhc=>?_))
 ·simp at hc;obtain⟨d,tl,a1,a2,a3,e0⟩:=zE rfl p k hc;refine zh (za (zj (za (ze [] (zo hc e0) ?_))));intro v3;refine zb ?_;refine zt (J4 x d (hd' d (Ab a1))) ?_;refine⟨by omega,?_⟩;refine zb ?_;exact zq (k+1,out++[W (yA x d)],v2+1) [_] ⟨hc,by rw[a3,ho];simp[xV]⟩ DV (by simp[zu k (by omega)]) rfl DT
 ·simp at hc;obtain rfl:k=p.length:=DQ
  rw[Ai]at ho;refine zx (D0 ?_);refine zg ⟨_,_,rfl,⟨v2,by simp[zn,hol],rfl⟩,QW (j:=2) hd (by simp[ho])⟩
theorem ZhZ(x:Inst)(p:zF)(hp:p.length<=1048576)(hd':∀d∈p,DayOk d):Pure prog 71 [.agg (zy x),.agg [L p]] (L (xV x p)):=by
 have hl:(xV x p).length=p.length:=by simp[xV]
 have:=VH 2 (λS nx hd=>Zrv x p hp hd' S nx hd) (by rw[jm,hl];omega);rw[<-hl]at this;exact this
def xW(x:Inst)(p:zF):Int:=W (wL x p x.cust.length+(p.map (yA x)).sum)
theorem Zrw(a:Int)(l:List Int):W (a+(l.map W).sum)=W (a+l.sum):=by
 induction l generalizing a with
 | nil=>rfl
 | cons b l ih =>
  simp only[AA,Cg];have e1:a+(W b+(l.map W).sum)=(a+W b)+(l.map W).sum:=DQ
  rw[e1,ih,show a+W b+l.sum=(a+l.sum)+W b by omega,ZeD,show a+l.sum+b=a+(b+l.sum) by omega]
theorem Zrx(x:Inst)(p:zF):W (W (wL x p x.cust.length)+(xV x p).sum)=xW x p:=by
 have:xV x p=(p.map (yA x)).map W:=by simp[xV]
 rw[this,uZ,Zrw,xW]
theorem Zry(x:Inst)(p:zF)(h:Serves x p)(hx:x.cust.length<=1048576)(hf:∀c∈x.cust,CustFits c)(hd':∀d∈p,DayOk d):Pure prog 68 [.agg (zy x),.agg [L p]] (I (xW x p)):=by
 have hres:=Zrx x p;have hl:(xV x p).length=p.length:=by simp[xV]
 have hpn:=h.sz.n;have hdy:=ZhZ x p hpn hd';rw[<-hres];generalize xV x p=ds at hl hdy;refine zr func68 ntmps68 results68 λS nx hd=>?_
 refine D0 ?_;intro v0 v1;refine D0 ?_;refine zt (ZhY x p h hx hf) ?_
 repeat apply za
 refine zb ?_;refine zt hdy ?_;refine zj (zC (λs:Nat=>s<=ds.length) (λk=>[(5,I (W (W (wL x p x.cust.length)+(ds.take k).sum))),(13,L ds),(14,I ds.length),(15,I k)]) (λ_=>[]) (λs=>ds.length-s) 0 [_,_] DR (by simp[W_W]) rfl ?_);rintro k hk;refine D0 ?_;refine za (zv rfl (λhc=>?_) (λhc=>?_))
 ·simp at hc;obtain⟨z,tl,a1,a2,a3,e0⟩:=zE rfl ds k hc;have hw:W (W (W (wL x p x.cust.length)+(ds.take k).sum)+z)=W (W (wL x p x.cust.length)+(ds.take (k+1)).sum):=by rw[a3,Wx,uZ];congr 1;omega
  refine zh (za (zj (za (ze [] (zo hc e0) ?_))));refine zb ?_;refine zb ?_;exact zq (k+1) [] hc DQ (by simp[zu k (by omega)];exact hw) rfl DR
 ·simp at hc;obtain rfl:k=ds.length:=DQ
  rw[Ai];refine zx (D0 ?_);exact D1 hd
open Go
def Xt(p:zF):Nat:=(p.map λd=>d.flatten.length).sum
theorem Zh0:∀(p:zF) (i:Nat),(told i p).length=Xt p
 | [],_=>rfl
 | d :: p,i=>by
  have:=Zh0 p (i+1);simp only[told,List.length_append,List.length_map,Xt,AA,Cg]at this ⊢;omega
theorem Zh1:∀(d:zp),(∀t∈d,t≠[])->d.length<=d.flatten.length
 | [],_=>by simp
 | t :: d,h=>by
  have h1:=Zh1 d λu hu=>h u (by simp[hu])
  have h2:=BS.2 (h t DR);simp only[Bx,Ad,List.length_append];omega
theorem Zax:∀(d:zp) (t:zL),t∈d->t.length<=d.flatten.length
 | [],_,h=>by cases h
 | u :: d,t,h=>by
  simp only[Bx,List.length_append];rcases As.1 h with rfl | h
  ·omega
  ·have:=Zax d t h;omega
open Go
def lx:Inst:=⟨1,1,9,9,[],[[0]]⟩
def ly:Inst:=⟨1,1,9,9,[⟨1,1,[1],0,0,0,0,0⟩],[[0,3],[4,0]]⟩
def lp:zF:=[[]]
theorem Zrz:∀i:Nat,yF 1 i=1<->i=0:=by
 intro i;cases i with
 | zero=>simp[yF]
 | succ i=>simp[yF,Nat.div_eq_of_lt (show 1<2 ^ (i+1) from Nat.one_lt_two_pow DQ)]
open Go
theorem Zh2(p:Nat):∀k:Nat,k<=64->∀i:Nat,yF (jZ p k) i=1->i<k
 | 0,_,i,h=>by simp[jZ,yF]at h
 | k+1,hk,i,h=>by
  have ih:=Zh2 p k DQ i;unfold jZ at h;split at h
  ·rw[Zhk _ _ (VO p k) DQ]at h;have h2:((jZ p k ||| 2 ^ k).testBit i)=true:=by
    rw[Zap];unfold qk at h;rw[if_pos DQ,AJ]at h;simp[h]
   rw[De,Cz,C4]at h2;rcases h2 with h2 | h2
   ·rw[Zap]at h2;have:=ih (by simpa using h2);omega
   ·have:k=i:=by simpa using h2
    omega
  ·have:=ih h;omega
theorem WD{p a k:Nat}{d:Int}(h:d∈yy p a k):∃i:Nat,d=i/\i<k/\yF p i=1:=by
 simp only[yy,Al,Bj,AL,Av,decide_eq_true_eq]at h;obtain⟨i,⟨h1,_,h3⟩,rfl⟩:=h;exact⟨i,rfl,h1,h3⟩
theorem Zh3(c:Cust)(days:Int)(h1:1<=days)(h7:days<=7):CustMade (jz c days) days.toNat:=by
 unfold jz;split
 ·have a:=xp c.rate 0 9 DQ;have b:=xp c.size 1 30 DQ;have d:=xp c.start 0 (yD c.size 1 30) DQ;exact⟨⟨by dsimp only;omega,by dsimp only;omega,by dsimp only;omega⟩,by simp,by simp,λh=>by simp at h⟩
 ·have a:=xp c.demand 1 15 DQ;refine⟨⟨by simp,by simp,by simp⟩,?_,?_,λ_=>⟨?_,by dsimp only;omega,by dsimp only;omega⟩⟩
  ·intro p hp;simp only[Zp]at hp;split at hp
   ·simp only[AY]at hp;omega
   ·obtain⟨q,_,rfl⟩:=Al.1 hp;exact VO q _
  ·simp only[Zp];split
   ·simp
   ·simp;omega
  ·intro p hp d hd;obtain⟨i,rfl,_,hb⟩:=WD hd;simp only[Zp]at hp;split at hp
   ·simp only[AY]at hp;subst hp;have:=(Zrz i).1 hb;omega
   ·obtain⟨q,_,rfl⟩:=Al.1 hp;have:=Zh2 q days.toNat DQ i hb;omega
theorem WE(x:Inst):1<=(yI x).days/\(yI x).days<=7:=xp x.days 1 7 DQ
theorem ZrA(x:Inst):0<=(yI x).cap/\(yI x).cap<=40:=xp x.cap 0 40 DQ
theorem ZrB(x:Inst):0<=(yI x).veh/\(yI x).veh<=5:=xp x.veh 0 5 DQ
theorem ZrC(x:Inst):0<=(yI x).len/\(yI x).len<=300:=xp x.len 0 300 DQ
theorem ZrD(x:Inst):(yI x).cust.length<=6:=by simp[yI];omega
theorem Zde(x:Inst){c:Cust}(h:c∈(yI x).cust):∃c0,c=jz c0 (yI x).days:=by
 simp only[yI,Al]at h;obtain⟨c0,_,rfl⟩:=h;exact⟨c0,rfl⟩
def ZrE(x:Inst)(v c l:Int):Inst:=⟨(yI x).days,v,c,l,(yI x).cust,(yI x).dist⟩
theorem ZrF{d:zp}{t:zL}(ht:t∈d){s:Stop}(hs:s∈t):s∈d.flatten:=BJ.2 ⟨t,ht,hs⟩
theorem Zh4{m:Nat}:∀(l:List Int),l.Nodup->(∀c∈l,0<=c/\c<m)->l.length<=m:=by
 intro l hn hl;have h1:(l.map Int.toNat).Nodup:=by
  refine List.Pairwise.map _ ?_ (List.Pairwise.and_mem.1 hn);rintro a b ⟨ha,hb,hab⟩ e;have:=hl a ha;have:=hl b hb;exact hab DQ
 have h2:∀c∈l.map Int.toNat,c∈List.range m:=by
  intro c hc;obtain⟨z,hz,rfl⟩:=Al.1 hc;have:=hl z hz;exact AL.2 DQ
 have:=h1.length_le_of_subset h2;simpa using this
open Go Go.Proofs Hp
theorem Zdf(p:Nat)(hp:p<2 ^ 64):Pure prog 305 [U p] (L (yy p 0 64)):=by
 have h:=Zhe p 0 hp DX;refine zr func305 ntmps305 results305 λS nx hd=>?_
 refine D0 ?_;refine D0 ?_;refine zt h ?_;exact zg (zi hd rfl rfl)
theorem ZrG(c:Cust)(p:Nat)(hp:p<2 ^ 64):Pure prog 277 [.agg (zV c),U p] (L (Qz c p)):=by
 have hall:=Zdf p hp;have hln:=Qx p 0 64;unfold Qz;generalize yy p 0 64=l at hall hln;refine zr func277 ntmps277 results277 λS nx hd=>?_
 refine D0 ?_;intro v0;refine D0 ?_;refine za (qt 5 104 2 rfl λv1=>?_);refine D0 ?_;refine zt hall ?_;refine zj (zC (λs:Nat × List Visit × Nat=>s.1<=l.length/\s.2.1=(l.take s.1).map λd=>⟨d,c.demand⟩) (λ(k,out,v1)=>[(2,.ptr nx v0 0),(5,.sl (nx+1) v1 2 0 out.length),(9,L l),(10,I l.length),(11,I k)]) (λ(k,out,v1)=>[.cells v0 87 (zV c),.cells v1 104 (out.flatMap Enc.enc)]) (λs=>l.length-s.1) (0,[],v1) [] DR DR DR ?_);rintro⟨k,out,v1⟩ ⟨hk,ho⟩;simp only at hk ho ⊢;have hol:out.length=k:=by rw[ho];simp;omega
 refine D0 ?_;refine za (zv rfl (λhc=>?_) (λhc=>?_))
 ·simp at hc;obtain⟨d,tl,a1,a2,a3,e0⟩:=zE rfl l k hc;refine zh (za (zj (za (ze [] (zo e0 hc) ?_))));refine zb ?_;refine⟨by omega,?_⟩;refine zb ?_;exact zq (k+1,out++[⟨d,c.demand⟩],v1+1) [] ⟨hc,by rw[a3,ho];simp⟩ DV (by simp[zu k (by omega)]) rfl DR
 ·simp at hc;obtain rfl:k=l.length:=DQ
  rw[Ai]at ho;refine zx (zZ 1 rfl ?_);refine D0 ?_;exact zg (zi hd DT (by simp[zn,ho]))
def vR(price:List Int)(ds:List Int):Int:=ds.foldl (λ(s d:Int)=>if d<price.length then vg s (price.getD d.toNat 0) else s) 0
def WF(price:List Int)(p:Nat):Int:=vR price (yy p 0 64)
def xg(price:List Int)(l:List Nat):Nat->Int × Int
 | 0=>(-1,0)
 | k+1=>if (xg price l k).1<0\/WF price (l.getD k 0)<(xg price l k).2 then (k,WF price (l.getD k 0)) else xg price l k
theorem Zdg(price:List Int)(l:List Nat):∀k:Nat,(xg price l k).1<k/\-1<=(xg price l k).1/\(0<k->0<=(xg price l k).1)
 | 0=>by simp[xg]
 | k+1=>by
  have:=Zdg price l k;unfold xg;split
  ·dsimp only;omega
  ·rename_i h;omega
theorem ZrH(a b:Int)(ha:zO a)(hb:zO b):zO (vg a b):=by
 unfold zO vg at *;split
 ·omega
 ·split<;>omega
theorem ZrI(price ds:List Int)(d:Int):vR price (ds++[d])=if d<price.length then vg (vR price ds) (price.getD d.toNat 0) else vR price ds:=by simp[vR]
theorem ZrJ(price:List Int)(hp:∀z∈price,zO z)(ds:List Int):zO (vR price ds):=by
 unfold vR;have:∀(ds:List Int) (s:Int),zO s->zO (ds.foldl (λ(s d:Int)=>if d<price.length then vg s (price.getD d.toNat 0) else s) s):=by
  intro ds
  induction ds with
  | nil=>intro s h;exact h
  | cons d ds ih =>
   intro s h;rw[A3];apply ih;split
   ·refine ZrH _ _ h ?_;rw[Aa];cases hq:price[d.toNat]? with
    | none=>unfold zO;simp
    | some z=>exact hp z (Ab hq)
   ·exact h
 exact this ds 0 (by unfold zO;omega)
theorem ZrK{S:Store}{pl:PV}{price:List Int}(l:List Nat)(hR:RowOf S pl price)(hp:∀z∈price,zO z)(hpl:price.length<=1000)(hl:l.length<=1000)(h64:∀p∈l,p<2 ^ 64):
  Spec prog 276 [L l,pl] S (λq S'=>q=.tup [I (xg price l l.length).1,I (xg price l l.length).2]/\S'=S):=by
 refine yl func276 ntmps276 results276 λnx hd=>?_
 refine D0 ?_;refine D0 ?_
 repeat apply za
 refine zb ?_;refine zj (zC (λk:Nat=>k<=l.length) (λk=>[(1,pl),(6,I (xg price l k).1),(7,I (xg price l k).2),(13,L l),(14,I l.length),(15,I k)]) (λ_=>[]) (λk=>l.length-k) 0 [] DR (by simp[xg]) DR ?_);rintro k hk;have hb:xg price l (k+1)=if (xg price l k).1<0\/WF price (l.getD k 0)<(xg price l k).2 then (↑k,WF price (l.getD k 0)) else xg price l k:=rfl
 generalize hst:xg price l k=st at hb ⊢;obtain⟨place,least⟩:=st;simp only at hb ⊢;refine D0 ?_;refine za (zv rfl (λhc=>?_) (λhc=>?_))
 ·simp at hc;obtain⟨p,tl,a1,a2,a3,e0⟩:=zE rfl l k hc;have hall:=Zdf p (h64 p (Ab a1));have hgp:l.getD k 0=p:=by rw[Aa,a1];rfl
  rw[hgp]at hb;have hds:∀d∈yy p 0 64,∃i:Nat,d=i:=λd hd=>by obtain⟨i,h,_⟩:=WD hd;exact⟨i,h⟩
  have hdl:=Qx p 0 64;rw[show WF price p=vR price (yy p 0 64) from rfl]at hb;generalize yy p 0 64=ds at hall hds hdl hb;refine zh (za (zj (za (ze [] (zo e0 hc) ?_))));refine D0 ?_
  repeat apply za
  refine zb ?_;refine zt hall ?_;refine zj (zC (λj:Nat=>j<=ds.length) (λj=>[(1,pl),(6,I place),(7,I least),(8,I k),(10,I (vR price (ds.take j))),(13,L l),(14,I l.length),(15,I k),(21,L ds),(22,I ds.length),(23,I j)]) (λ_=>[]) (λj=>ds.length-j) 0 [] DR (by simp[vR]) DR ?_);rintro j hj;refine D0 ?_;refine za (zv rfl (λhc2=>?_) (λhc2=>?_))
  ·simp at hc2;obtain⟨d,tl2,b1,b2,b3,f0⟩:=zE rfl ds j hc2;obtain⟨i,rfl⟩:=hds d (Ab b1);have hsn:=ZrI price (ds.take j) (i:Int);rw[<-b3,AJ]at hsn;have hsi:=ZrJ price hp (ds.take j);refine zh (za (zj (za (ze [] (zo f0 hc2) ?_))))
   by_cases hi:i<price.length
   ·obtain⟨z,tl3,c1,-,-,g0⟩:=zE rfl price i hi;have hgz:price.getD i 0=z:=by rw[Aa,c1];rfl
    rw[if_pos DQ,hgz]at hsn;have hsat:=Zai (vR price (ds.take j)) z hsi (hp z (Ab c1));rw[<-hsn]at hsat;rcases hR with rfl | ⟨id,ver,rfl,hS⟩
    ·refine za (ze [] hi ?_);refine zk rfl (ze [] (zo g0 hi) ?_);refine zt hsat ?_;refine zb ?_;exact zq (j+1) [] hc2 DQ (by simp[zu j (by omega)]) rfl DR
    ·have hlt:id<nx:=yW hd hS DR;have xr:=λobs=>(zD (S:=S) (obs:=obs) hlt).trans hS
     refine za (ze [] hi ?_);refine zk rfl (ze [] (zA xr g0 hi) ?_);refine zt hsat ?_;refine zb ?_;exact zq (j+1) [] hc2 DQ (by simp[zu j (by omega)]) rfl DR
   ·rw[if_neg DQ]at hsn;rcases hR with rfl | ⟨id,ver,rfl,hS⟩
    ·refine za (ze [] hi ?_);refine zm rfl (zh (zb ?_));exact zq (j+1) [] hc2 DQ (by simp[zu j (by omega),hsn]) rfl DR
    ·refine za (ze [] hi ?_);refine zm rfl (zh (zb ?_));exact zq (j+1) [] hc2 DQ (by simp[zu j (by omega),hsn]) rfl DR
  ·simp at hc2;obtain rfl:j=ds.length:=DQ
   rw[Ai];refine zx (za (qa (nx:=nx) (σ:=Bool) (λt=>t=decide (place<0\/vR price ds<least)) (λt=>[(1,pl),(6,I place),(7,I least),(8,I k),(10,I (vR price ds)),(13,L l),(14,I l.length),(15,I k),(44,B t)]) (λ_=>S) (λ_=>[]) ?_ ?_))
   ·by_cases h1:place<0
    ·repeat apply za
     refine ze [(2,40)] (zo h1 zB) ?_;exact zS true [] (by simp[h1]) DR rfl DR
    ·repeat apply za
     refine ze [(2,40)] h1 ?_;exact zS (decide (vR price ds<least)) [] (by simp[h1]) DR rfl DR
   rintro t rfl
   by_cases h:place<0\/vR price ds<least
   ·rw[decide_eq_true h];rw[if_pos h]at hb;refine zk rfl (zb ?_);refine zb ?_;exact zq (k+1) [] hc DQ (by simp[zu k (by omega),hb]) rfl DR
   ·rw[decide_eq_false h];rw[if_neg h]at hb;refine zm rfl (zh (zb ?_));exact zq (k+1) [] hc DQ (by simp[zu k (by omega),hb]) rfl DR
 ·simp at hc;obtain rfl:k=l.length:=DQ
  refine zx (D0 ?_);exact zg ⟨_,S,rfl,⟨by simp[zn,hst],rfl⟩,zR hd⟩
def uR(c:Cust)(cap:Int):List Nat:=c.pats.filter λp=>decide (p=0) || decide (c.demand<=cap)
theorem ZrL(c:Cust)(cap:Int)(hl:c.pats.length<=1000):Pure prog 275 [.agg (zV c),I cap] (L (uR c cap)):=by
 unfold uR;refine zr func275 ntmps275 results275 λS nx hd=>?_
 refine D0 ?_;intro v0;refine D0 ?_;refine za (qt 5 98 1 rfl λv1=>?_);refine D0 ?_;refine zj (zC (λs:Nat × List Nat × Nat=>s.1<=c.pats.length/\s.2.1=(c.pats.take s.1).filter (λp=>decide (p=0) || decide (c.demand<=cap))/\s.2.1.length<=s.1) (λ(k,out,w)=>[(1,I cap),(2,.ptr nx v0 0),(5,.sl (nx+1) w 1 0 out.length),(9,L c.pats),(10,I c.pats.length),(11,I k)]) (λ(k,out,w)=>[.cells v0 87 (zV c),.cells w 98 (out.flatMap Enc.enc)]) (λs=>c.pats.length-s.1) (0,[],v1) [] DR DR DR ?_);rintro⟨k,out,w⟩ ⟨hk,ho,hol⟩;simp only at hk ho hol ⊢;refine D0 ?_;refine za (zv rfl (λhc=>?_) (λhc=>?_))
 ·simp at hc;obtain⟨p,tl,a1,a2,a3,e0⟩:=zE rfl c.pats k hc;refine zh (za (zj (za (ze [] (zo e0 hc) ?_))));refine za (qa (nx:=nx) (σ:=Bool × Nat) (λs=>s.1=(decide (p=0) || decide (c.demand<=cap))) (λ(t,w)=>[(1,I cap),(2,.ptr nx v0 0),(5,.sl (nx+1) w 1 0 out.length),(7,U p),(9,L c.pats),(10,I c.pats.length),(11,I k),(22,B t)]) (λ_=>S) (λ(t,w)=>[.cells v0 87 (zV c),.cells w 98 (out.flatMap Enc.enc)]) ?_ ?_)
  ·by_cases h1:p=0
   ·repeat apply za
    refine ze [(2,17)] (zo h1 zB) ?_;exact zS (true,w) [] (by simp[h1]) (by simp[h1]) rfl DR
   ·repeat apply za
    refine ze [(2,17)] h1 ?_;exact zS (decide (c.demand<=cap),w) [] (by simp[h1]) DR rfl DR
  rintro⟨t,w⟩ ht;simp only at ht ⊢;subst ht;have hstep:(c.pats.take (k+1)).filter (λp=>decide (p=0) || decide (c.demand<=cap))=out++(if (decide (p=0) || decide (c.demand<=cap))=true then [p] else []):=by
   rw[a3,B1,ho];congr 1;simp only[Cc,List.filter_nil]
  cases ht:(decide (p=0) || decide (c.demand<=cap)) with
  | true =>
   rw[ht,if_pos rfl]at hstep;refine zk rfl (zb ?_);refine⟨by omega,?_⟩;refine zb ?_;exact zq (k+1,out++[p],w+1) [] ⟨hc,hstep.symm,by simp;omega⟩ DV (by simp[zu k (by omega)]) rfl DR
  | false =>
   rw[ht,if_neg DX,AD]at hstep;refine zm rfl (zh (zb ?_));exact zq (k+1,out,w) [] ⟨hc,hstep.symm,by dsimp only;omega⟩ DV (by simp[zu k (by omega)]) rfl DR
 ·simp at hc;obtain rfl:k=c.pats.length:=DQ
  rw[Ai]at ho;refine zx (zZ 1 rfl ?_);refine D0 ?_;exact zg (zi hd DT (by simp[zn,ho]))
def ZB(c:Cust)(cap:Int)(price:List Int):List Visit × Bool :=
 if (xg price (uR c cap) (uR c cap).length).1<0 then ([],false) else (Qz c ((uR c cap).getD (xg price (uR c cap) (uR c cap).length).1.toNat 0),true)
theorem ZrM{S:Store}{pl:PV}{price:List Int}(c:Cust)(cap:Int)(hR:RowOf S pl price)(hp:∀z∈price,zO z)(hpl:price.length<=1000)(hl:c.pats.length<=1000)(h64:∀p∈c.pats,p<2 ^ 64):
  Spec prog 246 [.agg (zV c),I cap,pl] S (λq S'=>q=.tup [L (ZB c cap price).1,B (ZB c cap price).2]/\S'=S):=by
 have hca:=ZrL c cap hl;have hsub:∀p∈uR c cap,p<2 ^ 64:=λp hp=>h64 p (Bj.1 hp).1
 have hcl:(uR c cap).length<=1000:=AB (BE _ _) hl;unfold ZB;generalize uR c cap=l at *;have hb:=λS (hR:RowOf S pl price)=>ZrK l hR hp hpl hcl hsub
 obtain⟨b1,b2,b3⟩:=Zdg price l l.length;generalize xg price l l.length=r at *;obtain⟨place,least⟩:=r;simp only at hb b1 b2 b3 ⊢;refine yl func246 ntmps246 results246 λnx hd=>?_
 refine D0 ?_;intro v0;refine D0 ?_;refine zt hca ?_;refine D0 ?_;refine λhsuf=>((hb _ (hR.ext hd _)).mono ?_).v
 rintro _ _ ⟨rfl,rfl⟩;refine⟨_,_,rfl,zN hsuf ?_⟩
 repeat apply za
 refine zb ?_
 by_cases h:place<0
 ·rw[if_pos h];refine zk (by simp[h]) ?_;refine D0 ?_;refine uc 6 rfl ?_;exact zg ⟨_,S,rfl,⟨by simp[zn],rfl⟩,zR hd⟩
 ·rw[if_neg h];obtain⟨i,rfl⟩:=Au (show 0<=place by omega);have hil:i<l.length:=DQ
  obtain⟨p,tl,a1,a2,a3,e0⟩:=zE rfl l i hil;have hgp:l.getD (i:Int).toNat 0=p:=by rw[AJ,Aa,a1];rfl
  rw[hgp];have hon:=ZrG c p (hsub p (Ab a1));refine zm DR ?_;refine zh (za (zz (some [nx]) (Row.pures [0,1,2,3,4,5,6,7] .done) mixed (zo e0 hil) ?_));refine zH (hon) (zo e0 hil) ?_;exact zg ⟨_,S,DT,⟨by simp[zn],rfl⟩,zR hd⟩
theorem ZrN{S:Store}{pl:PV}{price:List Int}(c:Cust)(n cap:Int)(hk:c.kind=1)(hR:RowOf S pl price)(hp:∀z∈price,zO z)(hpl:price.length<=1000)(hl:c.pats.length<=1000)(h64:∀p∈c.pats,p<2 ^ 64):
  Spec prog 207 [.agg (zV c),I n,I cap,pl] S (λq S'=>q=.tup [L (ZB c cap price).1,B (ZB c cap price).2]/\S'=S):=by
 have hs:=λS (hR:RowOf S pl price)=>ZrM c cap hR hp hpl hl h64
 generalize ZB c cap price=r at *;obtain⟨v,ok⟩:=r;simp only at hs ⊢;refine yl func207 ntmps207 results207 λnx hd=>?_
 refine D0 ?_;intro v0;refine za (zj (za (ze [] hk ?_)));refine zk rfl (D0 ?_);refine λhsuf=>((hs _ (hR.ext hd _)).mono ?_).v
 rintro _ _ ⟨rfl,rfl⟩;refine⟨_,_,rfl,zN hsuf ?_⟩;exact zg ⟨_,S,DT,⟨by simp[zn],rfl⟩,zR hd⟩
open Go Go.Proofs Hp
def vS(c:Cust)(there cap:Int):Int:=if c.size-there<1\/cap<0 then 0 else if c.size-there<=cap then c.size-there else if c.rule=1 then 0 else cap
theorem Zh5{c:Cust}{there cap:Int}(hc:0<=c.size/\c.size<=2147483648)(ht:0<=there):0<=vS c there cap/\vS c there cap<=2147483648:=by
 unfold vS;split
 ·omega
 ·split
  ·omega
  ·split<;>omega
theorem Zdh(c:Cust)(there cap:Int)(hc:0<=c.size/\c.size<=2147483648)(ht:-4611686018427387904<=there/\there<=4611686018427387904):Pure prog 279 [.agg (zV c),I there,I cap] (I (vS c there cap)):=by
 have w1:IntKind.i64.wrap (c.size-there)=c.size-there:=wr _ DQ DQ;unfold vS;generalize hf:c.size-there=f at w1 ⊢;refine zr func279 ntmps279 results279 λS nx hd=>?_
 refine D0 ?_;intro v0;refine za (ze [] (zo hf w1) ?_);refine za (zj ?_)
 by_cases h:f<1\/cap<0
 ·rw[if_pos h]
  by_cases h1:f<1
  ·refine za (ze [(2,15)] (zo h1 zB) ?_);refine zk rfl (D0 ?_);exact zg (zi hd rfl rfl)
  ·have h2:cap<0:=DQ
   refine za (ze [(2,15)] (zo h1 h2) ?_);refine zk rfl (D0 ?_);exact zg (zi hd rfl rfl)
 ·rw[if_neg h];have h1:¬f<1:=DQ
  have h2:¬cap<0:=DQ
  refine za (ze [(2,15)] (zo h1 h2) ?_);refine zm rfl (D0 ?_)
  by_cases h3:f<=cap
  ·rw[if_pos h3];refine zk (by simp[h3]) ?_;refine D0 ?_;exact zg (zi hd rfl rfl)
  ·rw[if_neg h3];refine zm DV ?_;refine D0 ?_
   by_cases h4:c.rule=1
   ·rw[if_pos h4];refine zk (by simp[h4]) ?_;refine D0 ?_;exact zg (zi hd rfl rfl)
   ·rw[if_neg h4];refine zm (by simp[h4]) ?_;refine zh (D0 ?_);exact zg (zi hd rfl rfl)
def YL(price:List Int)(d:Int):Int:=if d<0\/(price.length:Int)<=d then 0 else price.getD d.toNat 0
theorem Zdi{S:Store}{pl:PV}{price:List Int}(d:Int)(hR:RowOf S pl price):
  Spec prog 209 [pl,I d] S (λq S'=>q=I (YL price d)/\S'=S):=by
 unfold YL;rcases hR with rfl | ⟨id,ver,rfl,hS⟩
 ·refine yl func209 ntmps209 results209 λnx hd=>?_
  refine D0 ?_
  by_cases h:d<0
  ·rw[if_pos (.inl h)]
   repeat apply za
   refine ze [(2,7)] (zo h zB) ?_;refine zk rfl (D0 ?_);exact zg ⟨_,S,rfl,⟨by simp[zn],rfl⟩,zR hd⟩
  by_cases h2:(price.length:Int)<=d
  ·rw[if_pos (.inr h2)]
   repeat apply za
   refine ze [(2,7)] (zo h h2) ?_;refine zk rfl (D0 ?_);exact zg ⟨_,S,rfl,⟨by simp[zn],rfl⟩,zR hd⟩
  rw[if_neg DQ];obtain⟨i,rfl⟩:=Au (show 0<=d by omega);have hi:i<price.length:=DQ
  obtain⟨z,tl,a1,-,-,e0⟩:=zE rfl price i hi;have hg:price.getD (i:Int).toNat 0=z:=by rw[AJ,Aa,a1];rfl
  rw[hg];have h2':¬price.length<=i:=DQ
  repeat apply za
  refine ze [(2,7)] (zA h h2 h2') ?_;refine zm rfl (zh (za (ze [] (zo e0 hi) ?_)));exact zg ⟨_,S,rfl,⟨by simp[zn],rfl⟩,zR hd⟩
 ·refine yl func209 ntmps209 results209 λnx hd=>?_
  have hlt:id<nx:=yW hd hS DR;have xr:=λobs=>(zD (S:=S) (obs:=obs) hlt).trans hS
  refine D0 ?_
  by_cases h:d<0
  ·rw[if_pos (.inl h)]
   repeat apply za
   refine ze [(2,7)] (zo h zB) ?_;refine zk rfl (D0 ?_);exact zg ⟨_,S,rfl,⟨by simp[zn],rfl⟩,zR hd⟩
  by_cases h2:(price.length:Int)<=d
  ·rw[if_pos (.inr h2)]
   repeat apply za
   refine ze [(2,7)] (zo h h2) ?_;refine zk rfl (D0 ?_);exact zg ⟨_,S,rfl,⟨by simp[zn],rfl⟩,zR hd⟩
  rw[if_neg DQ];obtain⟨i,rfl⟩:=Au (show 0<=d by omega);have hi:i<price.length:=DQ
  obtain⟨z,tl,a1,-,-,e0⟩:=zE rfl price i hi;have hg:price.getD (i:Int).toNat 0=z:=by rw[AJ,Aa,a1];rfl
  rw[hg];have h2':¬price.length<=i:=DQ
  repeat apply za
  refine ze [(2,7)] (zA h h2 h2') ?_;refine zm rfl (zh (za (ze [] (zA xr e0 hi) ?_)));exact zg ⟨_,S,rfl,⟨by simp[zn],rfl⟩,zR hd⟩
theorem Zh6:∀(l m:List Int) (i:Nat),yZ i (l++m)=yZ i l++yZ (i+l.length) m
 | [],m,i=>by simp[yZ]
 | z :: l,m,i=>by
  have ih:=Zh6 l m (i+1);simp only[List.cons_append,yZ,Ad,ih,show i+1+l.length=i+(l.length+1) from by omega];split<;>simp
theorem Zh7(q:List Int)(hq:q.length<=1048576):Pure prog 282 [L q] (L (yZ 0 q)):=by
 refine zr func282 ntmps282 results282 λS nx hd=>?_
 refine D0 ?_;refine D0 ?_;refine za (qt 3 104 2 rfl λv1=>?_);refine D0 ?_;refine zj (zC (λs:Nat × List Visit × Nat=>s.1<=q.length/\s.2.1=yZ 0 (q.take s.1)) (λ(k,out,w)=>[(3,.sl nx w 2 0 out.length),(6,L q),(7,I q.length),(8,I k)]) (λ(k,out,w)=>[.cells w 104 (out.flatMap Enc.enc)]) (λs=>q.length-s.1) (0,[],v1) [] (by simp[yZ]) DR DR ?_);rintro⟨k,out,w⟩ ⟨hk,ho⟩;simp only at hk ho ⊢;have hol:out.length<=k:=by rw[ho];exact AB (Zau _ _) DV
 refine D0 ?_;refine za (zv rfl (λhc=>?_) (λhc=>?_))
 ·simp at hc;obtain⟨z,tl,a1,a2,a3,e0⟩:=zE rfl q k hc;have hst:yZ 0 (q.take (k+1))=out++(if 0<z then [⟨k,z⟩] else []):=by
   rw[a3,Zh6,<-ho,Aw,Be hk];simp only[yZ,AR]
  refine zh (za (zj (za (ze [] (zo e0 hc) ?_))));refine D0 ?_
  by_cases h:0<z
  ·rw[if_pos h]at hst;refine zk (by simp[h]) ?_;refine zb ?_;refine⟨by omega,?_⟩;refine zb ?_;exact zq (k+1,out++[⟨k,z⟩],w+1) [] ⟨hc,hst.symm⟩ DV (by simp[zu k (by omega)]) rfl DR
  ·rw[if_neg h,AD]at hst;refine zm DV ?_;refine zh (zb ?_);exact zq (k+1,out,w) [] ⟨hc,hst.symm⟩ DV (by simp[zu k (by omega)]) rfl DR
 ·simp at hc;obtain rfl:k=q.length:=DQ
  rw[Ai]at ho;refine zx (zZ 0 rfl ?_);refine D0 ?_;exact zg (zi hd DT (by simp[zn,ho]))
def qv(c:Cust)(f:Int->Int):Nat->List Int × Int
 | 0=>([],c.start)
 | k+1=>((qv c f k).1++[f (qv c f k).2],(qv c f k).2+(f (qv c f k).2-c.rate))
def QA(c:Cust)(cap:Int)(t:Int):Int:=vS c (max t 0) cap
def YM(c:Cust)(cap:Int)(t:Int):Int:=if c.rate<=t then 0 else vS c (max t 0) cap
theorem Xu(c:Cust)(f:Int->Int):∀k,(qv c f k).1.length=k
 | 0=>rfl
 | k+1=>by simp[qv,Xu c f k]
theorem Zdj{c:Cust}(hc:CustFits c)(cap t:Int):0<=QA c cap t/\QA c cap t<=2147483648:=Zh5 hc.size DQ
theorem Zdk{c:Cust}(hc:CustFits c)(cap t:Int):0<=YM c cap t/\YM c cap t<=2147483648:=by
 unfold YM;split
 ·omega
 ·exact Zh5 hc.size DQ
theorem Xv{c:Cust}(hc:CustFits c){f:Int->Int}(hf:∀t,0<=f t/\f t<=2147483648):∀k:Nat,(-4294967296*((k:Int)+1)<=(qv c f k).2/\(qv c f k).2<=4294967296*((k:Int)+1))/\Qs (qv c f k).1
 | 0=>by
  have:=hc.start;refine⟨by simp only[qv];omega,by intro z hz;cases hz⟩
 | k+1=>by
  obtain⟨h1,h2⟩:=Xv hc hf k;have h3:=hf (qv c f k).2;have h4:=hc.rate;refine⟨by simp only[qv];push_cast;omega,λz hz=>?_⟩;simp only[qv]at hz;rcases Ay.1 hz with hz | hz
  ·exact h2 z hz
  ·rw[AY.1 hz];exact h3
theorem ZrO(c:Cust)(cap t:Int)(hc:CustFits c)(ht:-4611686018427387904<=t/\t<=4611686018427387904):Pure prog 307 [I t,.ip (zV c),.ip [I cap]] (I (QA c cap t)):=by
 have hm:jk t 0=max t 0:=by unfold jk;split<;>omega
 have hmo:=Zdh c (max t 0) cap hc.size DQ;unfold QA;generalize max t 0=m at hm hmo ⊢;generalize vS c m cap=z at hmo ⊢;refine zr func307 ntmps307 results307 λS nx hd=>?_
 refine D0 ?_;refine za (ze [] hm ?_);refine qi [] hmo hm ?_;exact zg (zi hd rfl rfl)
theorem ZrP(c:Cust)(cap t:Int)(hc:CustFits c)(ht:-4611686018427387904<=t/\t<=4611686018427387904):Pure prog 308 [I t,.ip (zV c),.ip [I cap]] (I (YM c cap t)):=by
 have hm:jk t 0=max t 0:=by unfold jk;split<;>omega
 have hmo:=Zdh c (max t 0) cap hc.size DQ;unfold YM;generalize max t 0=m at hm hmo ⊢;generalize vS c m cap=z at hmo ⊢;refine zr func308 ntmps308 results308 λS nx hd=>?_
 refine D0 ?_
 repeat apply za
 refine zb ?_
 by_cases h:c.rate<=t
 ·rw[if_pos h];refine zk (by simp[h]) ?_;refine D0 ?_;exact zg (zi hd rfl rfl)
 ·rw[if_neg h];refine zm DV ?_;refine zh (za (ze [] hm ?_));refine qi [] hmo hm ?_;exact zg (zi hd rfl rfl)
theorem Zh8(c:Cust)(n:Nat)(fn:FuncId)(caps:List PV)(f:Int->Int)(hc:CustFits c)(hn:n<=1000)(hf:∀t,0<=f t/\f t<=2147483648)(hfn:∀t,(-4611686018427387904<=t/\t<=4611686018427387904)->Pure prog fn ([I t]++caps) (I (f t))):
  Pure prog 306 [.agg (zV c),I n,.fn (.func fn) [] caps] (.tup [L (qv c f n).1,B (decide (wF c (qv c f n).1=0))]):=by
 have hr:=hc.rate;refine zr func306 ntmps306 results306 λS nx hd=>?_
 refine D0 ?_;intro v0;refine D0 ?_;refine za (qt 8 3 1 rfl λv1=>?_);refine zb ?_
 repeat apply za
 refine zb ?_;refine zj (zC (λs:Nat × Nat=>s.1<=n) (λ(k,w)=>[(2,.fn (.func fn) [] caps),(3,.ptr nx v0 0),(8,.sl (nx+1) w 1 0 (qv c f k).1.length),(9,I (qv c f k).2),(13,I n),(14,I k)]) (λ(k,w)=>[.cells v0 87 (zV c),.cells w 3 ((qv c f k).1.flatMap Enc.enc)]) (λs=>n-s.1) (0,v1) [] DR (by simp[qv]) (by simp[qv]) ?_);rintro⟨k,w⟩ hk;simp only at hk ⊢;obtain⟨hbd,-⟩:=Xv hc hf k;have hl:=Xu c f k;have hsucc:qv c f (k+1)=((qv c f k).1++[f (qv c f k).2],(qv c f k).2+(f (qv c f k).2-c.rate)):=rfl;generalize hst:qv c f k=st at hbd hl hsucc ⊢;obtain⟨q,t⟩:=st;simp only at hbd hl hsucc ⊢;refine D0 ?_;refine za (zv rfl (λhc1=>?_) (λhc1=>?_))
 ·simp at hc1;have hft:=hf t;have hcall:=hfn t DQ;have w1:IntKind.i64.wrap (f t-c.rate)=f t-c.rate:=wr _ DQ DQ;have w2:IntKind.i64.wrap (t+(f t-c.rate))=t+(f t-c.rate):=wr _ DQ DQ;generalize f t=z at *;refine zh (za (zj (D0 ?_)));refine zt hcall ?_;refine D0 ?_;refine⟨by omega,?_⟩;refine ze [] (zo w1 w2) ?_;refine zb ?_;exact zq (k+1,w+1) [] DQ DV (by simp[zu k (by omega),hsucc]) rfl (by simp[hsucc])
 ·simp at hc1;obtain rfl:k=n:=DQ
  refine zx (zZ 1 rfl ?_);have hh:=Zg8 c q hc DQ;refine D0 ?_;refine zt hh ?_;exact zg (zi hd DT (by simp[zn,hst]))
def ZC(c:Cust)(n:Nat)(cap:Int):List Int × Bool:=((qv c (QA c cap) n).1,decide (wF c (qv c (QA c cap) n).1=0))
def Ya(c:Cust)(n:Nat)(cap:Int):List Int × Bool:=((qv c (YM c cap) n).1,decide (wF c (qv c (YM c cap) n).1=0))
theorem ZrQ(c:Cust)(n:Nat)(cap:Int)(hc:CustFits c)(hn:n<=1000):Pure prog 281 [.agg (zV c),I n,I cap] (.tup [L (ZC c n cap).1,B (ZC c n cap).2]):=by
 have h:=Zh8 c n 307 [.ip (zV c),.ip [I cap]] (QA c cap) hc hn (Zdj hc cap) (λt ht=>ZrO c cap t hc ht);unfold ZC;generalize qv c (QA c cap) n=r at h ⊢;refine zr func281 ntmps281 results281 λS nx hd=>?_
 refine D0 ?_;intro v0 v1;refine xO 0 rfl ?_;refine xO 1 rfl ?_;refine D0 ?_;refine zt h ?_;exact D1 hd
theorem ZrR(c:Cust)(n:Nat)(cap:Int)(hc:CustFits c)(hn:n<=1000):Pure prog 283 [.agg (zV c),I n,I cap] (.tup [L (Ya c n cap).1,B (Ya c n cap).2]):=by
 have h:=Zh8 c n 308 [.ip (zV c),.ip [I cap]] (YM c cap) hc hn (Zdk hc cap) (λt ht=>ZrP c cap t hc ht);unfold Ya;generalize qv c (YM c cap) n=r at h ⊢;refine zr func283 ntmps283 results283 λS nx hd=>?_
 refine D0 ?_;intro v0 v1;refine xO 0 rfl ?_;refine xO 1 rfl ?_;refine D0 ?_;refine zt h ?_;exact D1 hd
def QB(price:List Int)(v:List Visit):Int:=v.foldl (λs w=>W (s+YL price w.d)) 0
theorem ZrS(price:List Int)(v:List Visit)(w:Visit):QB price (v++[w])=W (QB price v+YL price w.d):=by simp[QB]
def Yb(c:Cust)(n:Int)(price:List Int)(v:List Visit):Int:=if c.kind=1 then QB price v else W (QB price v+Ji c (yR c (yt v n)).1)
theorem Zdl{S:Store}{pl:PV}{price:List Int}(c:Cust)(n:Int)(v:List Visit)(hR:RowOf S pl price)(hc:CustFits c)(hv:VisOk v):
  Spec prog 208 [.agg (zV c),I n,pl,L v] S (λq S'=>q=I (Yb c n price v)/\S'=S):=by
 have hvn:=hv.n;have hp:=λS (h:RowOf S pl price) d=>Zdi d h
 unfold Yb;refine yl func208 ntmps208 results208 λnx hd=>?_
 refine D0 ?_;intro v0;refine D0 ?_
 repeat apply za
 refine zb ?_;refine zj (zC (λk:Nat=>k<=v.length) (λk=>[(1,I n),(3,L v),(4,.ptr nx v0 0),(9,I (QB price (v.take k))),(2,pl),(14,L v),(15,I v.length),(16,I k)]) (λ_=>[.cells v0 87 (zV c)]) (λk=>v.length-k) 0 [] DR (by simp[QB]) DR ?_);rintro k hk;refine D0 ?_;refine za (zv rfl (λhc1=>?_) (λhc1=>?_))
 ·simp at hc1;obtain⟨w,tl,a1,a2,a3,e1,e0⟩:=el 2 rfl v k hc1;have hsn:=ZrS price (v.take k) w;rw[<-a3]at hsn;refine zh (za (zj (za (ze [] (zo e0 hc1) ?_))));intro v2;refine zb ?_;refine λhsuf=>((hp _ (hR.ext hd _) _).mono ?_).v
  rintro _ _ ⟨rfl,rfl⟩;refine⟨_,_,rfl,zN hsuf ?_⟩;refine zb ?_;exact zq (k+1) [_] hc1 DQ (by simp[zu k (by omega),hsn]) rfl DT
 ·simp at hc1;obtain rfl:k=v.length:=DQ
  rw[Ai];refine zx ?_
  repeat apply za
  refine zb ?_
  by_cases hk1:c.kind=1
  ·rw[if_pos hk1];refine zk (by simp[hk1]) ?_;refine D0 ?_;exact zg ⟨_,S,rfl,⟨by simp[zn],rfl⟩,zR hd⟩
  ·rw[if_neg hk1];have hb:=Zha v n hv;have hn:=ZcL c (yt v n) hc (Zaw _ _);have hh:=ZcM c _ (ZhX c (yt v n) (Zaw _ _));generalize yR c (yt v n)=ns at hn hh ⊢;obtain⟨nl,ne⟩:=ns;simp only at hn hh ⊢;refine zm (by simp[hk1]) ?_;refine zh (za (zz (some [nx]) (Row.pures [0,1,2,3,4,5,6,7,8,9] .done) mixed trivial ?_));refine zH (hb) trivial ?_;refine zH (hn) trivial ?_;refine D0 ?_;refine zt hh ?_;exact zg ⟨_,S,rfl,⟨by simp[zn],rfl⟩,zR hd⟩
def Jq(c:Cust)(n:Nat)(cap:Int)(price:List Int):List Visit × Bool :=
 if (Ya c n cap).2=true/\((ZC c n cap).2=false\/Yb c n price (yZ 0 (Ya c n cap).1)<=Yb c n price (yZ 0 (ZC c n cap).1)) then (yZ 0 (Ya c n cap).1,true)
 else if (ZC c n cap).2=true then (yZ 0 (ZC c n cap).1,true) else ([],false)
theorem Zh9{q:List Int}{n:Nat}(hq:Qs q)(hl:q.length=n)(hn:n<=1000):VisOk (yZ 0 q):=by
 refine⟨AB (Zau _ _) DQ,λs hs=>?_,λs hs=>?_⟩
 ·have:=Zav q 0 hq s hs;omega
 ·have:=Zav q 0 hq s hs;unfold zO;omega
theorem ZrT{S:Store}{pl:PV}{price:List Int}(c:Cust)(n:Nat)(cap:Int)(hR:RowOf S pl price)(hc:CustFits c)(hn:n<=1000):
  Spec prog 248 [.agg (zV c),I n,I cap,pl] S (λq S'=>q=.tup [L (Jq c n cap price).1,B (Jq c n cap price).2]/\S'=S):=by
 have hD:=ZrQ c n cap hc hn;have hL:=ZrR c n cap hc hn;have lD:(ZC c n cap).1.length=n:=Xu _ _ _;have lL:(Ya c n cap).1.length=n:=Xu _ _ _;have vD:VisOk (yZ 0 (ZC c n cap).1):=Zh9 (Xv hc (Zdj hc cap) n).2 lD hn;have vL:VisOk (yZ 0 (Ya c n cap).1):=Zh9 (Xv hc (Zdk hc cap) n).2 lL hn;unfold Jq;generalize ZC c n cap=rd at *;generalize Ya c n cap=rl at *;obtain⟨qd,od⟩:=rd;obtain⟨ql,ol⟩:=rl;simp only at hD hL lD lL vD vL ⊢;have hVd:=Zh7 qd DQ;have hVl:=Zh7 ql DQ;have hcd:=λS (h:RowOf S pl price)=>Zdl (S:=S) c n (yZ 0 qd) h hc vD
 have hcl:=λS (h:RowOf S pl price)=>Zdl (S:=S) c n (yZ 0 ql) h hc vL
 generalize yZ 0 qd=vd at *;generalize yZ 0 ql=vl at *;generalize Yb c n price vd=zd at *;generalize Yb c n price vl=zl at *;refine yl func248 ntmps248 results248 λnx hd=>?_
 refine D0 ?_;intro v0;refine D0 ?_;refine zt hD ?_;refine D0 ?_;refine zt hVd ?_
 repeat apply za
 refine zb ?_;refine zt hL ?_;refine D0 ?_;cases ol with
 | true =>
  refine zk rfl (D0 ?_);refine zt hVl ?_;cases od with
  | false =>
   rw[if_pos ⟨rfl,.inl rfl⟩];refine za (zz (some [nx]) (Row.pures [0,1,2,3,4,5,6,7,8,9,10,11,12,13,14] .done) mixed zB ?_);refine zk rfl (D0 ?_);exact zg ⟨_,S,DT,⟨by simp[zn],rfl⟩,zR hd⟩
  | true =>
   by_cases hle:zl<=zd
   ·rw[if_pos ⟨rfl,.inr hle⟩];refine za (zz (some [nx]) (Row.pures [0,1,2,3,4,5,6,8,9,10,11] (.alt 7 (.alt 12 (Row.pures [13,14] .done) .stop) .stop)) mixed zB ?_);refine(((hcl _ (hR.ext hd _)).mono ?_).v);rintro _ _ ⟨rfl,rfl⟩;refine⟨by simp[yK],jy zB ?_⟩;refine(((hcd _ (hR.ext hd _)).mono ?_).v);rintro _ _ ⟨rfl,rfl⟩;refine⟨by simp[yK],jy zB ?_⟩;refine zk (by simp[hle]) ?_;refine D0 ?_;exact zg ⟨_,S,DT,⟨by simp[zn],rfl⟩,zR hd⟩
   ·rw[if_neg (by rintro⟨-,q | q⟩;cases q;exact hle q),if_pos rfl];refine za (zz (some [nx]) (Row.pures [0,1,2,3,4,5,6,8,9,10,11] (.alt 7 (.alt 12 (Row.pures [13,14] .done) .stop) .stop)) mixed zB ?_);refine(((hcl _ (hR.ext hd _)).mono ?_).v);rintro _ _ ⟨rfl,rfl⟩;refine⟨by simp[yK],jy zB ?_⟩;refine(((hcd _ (hR.ext hd _)).mono ?_).v);rintro _ _ ⟨rfl,rfl⟩;refine⟨by simp[yK],jy zB ?_⟩;refine zm DV ?_;refine zh ?_
    repeat apply za
    refine zb ?_;refine zm rfl (zh (D0 ?_));exact zg ⟨_,S,DT,⟨by simp[zn],rfl⟩,zR hd⟩
 | false =>
  rw[if_neg (by rintro⟨q,-⟩;cases q)];refine zm rfl (zh ?_)
  repeat apply za
  refine zb ?_;cases od with
  | false =>
   rw[if_neg DX];refine zk rfl (D0 ?_);refine uc 8 rfl ?_;exact zg ⟨_,S,rfl,⟨by simp[zn],rfl⟩,zR hd⟩
  | true =>
   rw[if_pos rfl];refine zm rfl (zh (D0 ?_));exact zg ⟨_,S,DT,⟨by simp[zn],rfl⟩,zR hd⟩
open Go Go.Proofs Hp
def je(c:Cust)(last d:Int):Int × Int :=
 ((if last<0 then c.start else c.size)-c.rate*((if last<0 then d else d-last).toNat:Int),
  Ji c ((List.range (if last<0 then d else d-last).toNat).map λ(i:Nat)=>(if last<0 then c.start else c.size)-c.rate*((i:Int)+1)))
theorem Zia(c:Cust)(last d:Int)(hc:CustFits c)(hl:-1<=last/\last<=64)(hd0:0<=d/\d<=64):Pure prog 278 [.agg (zV c),I last,I d] (.tup [I (je c last d).1,I (je c last d).2]):=by
 have h1:=hc.rate;have h2:=hc.size;have h3:=hc.start;have w0:IntKind.i64.wrap (d-last)=d-last:=wr _ DQ DQ;have key:je c last d=(let t0:=if last<0 then c.start else c.size;let m:=if last<0 then d else d-last;(t0-c.rate*(m.toNat:Int),Ji c ((List.range m.toNat).map λ(i:Nat)=>t0-c.rate*((i:Int)+1)))):=rfl;rw[key];obtain⟨t0,ht0⟩:∃t0,t0=if last<0 then c.start else c.size:=⟨_,rfl⟩
 obtain⟨m,hm⟩:∃m,m=if last<0 then d else d-last:=⟨_,rfl⟩
 have hb0:0<=t0/\t0<=2147483648:=by rw[ht0];split<;>omega
 have hmb:-64<=m/\m<=65:=by rw[hm];split<;>omega
 rw[<-ht0,<-hm];clear key;simp only;refine zr func278 ntmps278 results278 λS nx hd=>?_
 refine D0 ?_;intro v0;refine za (ze [] w0 ?_);refine za (qa (nx:=nx) (σ:=Unit) (λ_=>True) (λ_=>[(3,.ptr nx v0 0),(8,I t0),(9,I m)]) (λ_=>S) (λ_=>[.cells v0 87 (zV c)]) ?_ ?_)
 ·refine D0 ?_
  by_cases h:last<0
  ·rw[if_pos h]at ht0 hm;refine zk (by simp[h]) ?_;refine zb ?_;exact zS () [] trivial (by simp[ht0,hm]) rfl DR
  ·rw[if_neg h]at ht0 hm;refine zm DV ?_;exact zh (zS () [] trivial (by simp[ht0,hm]) rfl DR)
 intro _ _;refine D0 ?_;refine za (qt 10 3 1 rfl λv1=>?_);refine D0 ?_;have hprod:∀k:Nat,k<=65->0<=c.rate*(k:Int)/\c.rate*(k:Int)<=2147483648*65:=λk hk=>⟨DF h1.1 DQ,DG h1.2 DQ DQ DQ⟩
 refine zj (zC (λs:Nat × Nat=>s.1<=m.toNat) (λ(k,w)=>[(3,.ptr nx v0 0),(8,I (t0-c.rate*(k:Int))),(10,.sl (nx+1) w 1 0 ((List.range k).map λ(i:Nat)=>t0-c.rate*((i:Int)+1)).length),(21,I m),(22,I k)]) (λ(k,w)=>[.cells v0 87 (zV c),.cells w 3 (((List.range k).map λ(i:Nat)=>t0-c.rate*((i:Int)+1)).flatMap Enc.enc)]) (λs=>m.toNat-s.1) (0,v1) [] DR DR DR ?_);rintro⟨k,w⟩ hk;simp only at hk ⊢;have hp:=hprod k DQ;have hp1:=hprod (k+1);have hmul:c.rate*((k:Int)+1)=c.rate*(k:Int)+c.rate:=by rw[DK,Int.mul_one]
 have hrs:((List.range (k+1)).map λ(i:Nat)=>t0-c.rate*((i:Int)+1))=((List.range k).map λ(i:Nat)=>t0-c.rate*((i:Int)+1))++[t0-c.rate*((k:Int)+1)]:=by simp[AK]
 have hl0:((List.range k).map λ(i:Nat)=>t0-c.rate*((i:Int)+1)).length=k:=DR
 generalize hls:((List.range k).map λ(i:Nat)=>t0-c.rate*((i:Int)+1))=ls at *
 by_cases hc1:(k:Int)<m
 ·have w1:IntKind.i64.wrap (t0-c.rate*(k:Int)-c.rate)=t0-c.rate*((k:Int)+1):=by rw[wr _ DQ DQ];omega
  refine D0 ?_;refine za (zk (by simp[hc1]) ?_);refine zh (za (zj (za (ze [] w1 ?_))));refine zb ?_;refine⟨by omega,?_⟩;refine zb ?_;exact zq (k+1,w+1) [] DV DV (by simp[zu k (by omega),hrs];) rfl (by simp[hrs])
 ·refine D0 ?_;refine za (zm DV ?_);obtain rfl:k=m.toNat:=DQ
  refine zx (zZ 1 rfl ?_);refine D0 ?_;refine zt (ZcM c ls DQ) ?_;exact zg (zi hd DT (by simp[zn,hls]))
def YN(c:Cust)(st:List Visit × Int)(d:Int):List Visit × Int:=(st.1++[⟨d,W (c.size-(je c st.2 d).1)⟩],d)
def jK(c:Cust)(ds:List Int):List Visit × Int:=ds.foldl (YN c) ([],-1)
theorem Zay(c:Cust)(ds:List Int)(d:Int):jK c (ds++[d])=YN c (jK c ds) d:=by simp[jK]
theorem Zib(c:Cust):∀ds:List Int,(jK c ds).1.length=ds.length:=by
 have:∀(ds:List Int) (st:List Visit × Int),(ds.foldl (YN c) st).1.length=st.1.length+ds.length:=by
  intro ds
  induction ds with
  | nil=>intro st;simp
  | cons d ds ih=>intro st;rw[A3,ih];simp[YN];omega
 intro ds;unfold jK;rw[this];simp
theorem ZrU(c:Cust)(p:Nat)(hp:p<2 ^ 64)(hc:CustFits c):Pure prog 280 [.agg (zV c),U p] (L (jK c (yy p 0 64)).1):=by
 have hall:=Zdf p hp;have hln:=Qx p 0 64;have hds:∀d∈yy p 0 64,0<=d/\d<64:=λd hd=>by obtain⟨i,h,h2,_⟩:=WD hd;omega
 generalize yy p 0 64=ds at hall hln hds ⊢;refine zr func280 ntmps280 results280 λS nx hd=>?_
 refine D0 ?_;intro v0;refine D0 ?_;refine za (qt 5 104 2 rfl λv1=>?_);refine zb ?_
 repeat apply za
 refine zb ?_;refine zt hall ?_;have hlast:∀k,-1<=(jK c (ds.take k)).2/\(jK c (ds.take k)).2<=64:=by
  intro k
  induction k with
  | zero=>simp[jK]
  | succ k ih =>
   by_cases h:k<ds.length
   ·rw[AO h,Zay];have:=hds ds[k] (A9 h);simp only[YN];omega
   ·rw[Ae DQ]at ih ⊢;exact ih
 refine zj (zC (λs:Nat × Nat=>s.1<=ds.length) (λ(k,w)=>[(2,.ptr nx v0 0),(5,.sl (nx+1) w 2 0 (jK c (ds.take k)).1.length),(6,I (jK c (ds.take k)).2),(12,L ds),(13,I ds.length),(14,I k)]) (λ(k,w)=>[.cells v0 87 (zV c),.cells w 104 ((jK c (ds.take k)).1.flatMap Enc.enc)]) (λs=>ds.length-s.1) (0,v1) [] DR (by simp[jK]) (by simp[jK]) ?_);rintro⟨k,w⟩ hk;simp only at hk ⊢;have hl1:=hlast k;have hfl:(jK c (ds.take k)).1.length=k:=by rw[Zib];simp;omega
 refine D0 ?_;refine za (zv rfl (λhc1=>?_) (λhc1=>?_))
 ·simp at hc1;obtain⟨d,tl,a1,a2,a3,e0⟩:=zE rfl ds k hc1;have hd1:=hds d (Ab a1);have hsn:=Zay c (ds.take k) d;rw[<-a3]at hsn;generalize jK c (ds.take k)=st at *;obtain⟨out,last⟩:=st;simp only[YN]at hl1 hfl hsn ⊢;have hr:=Zia c last d hc hl1 DQ;generalize je c last d=r at hr hsn;obtain⟨th,he⟩:=r;simp only at hr hsn;refine zh (za (zj (za (ze [] (zo e0 hc1) ?_))));refine D0 ?_;refine zt hr ?_;refine D0 ?_;refine⟨by omega,?_⟩;refine zb ?_;refine zb ?_;exact zq (k+1,w+1) [] hc1 DV (by simp[zu k (by omega),hsn]) rfl (by simp[hsn])
 ·simp at hc1;obtain rfl:k=ds.length:=DQ
  rw[Ai];refine zx (zZ 1 rfl ?_);refine D0 ?_;exact D1 hd
structure Stp where
 r:Bool
 k:Int
 l:Int
 deriving DecidableEq
instance:Inhabited Stp:=⟨⟨false,0,0⟩⟩
instance:Enc Stp:=⟨λs=>[B s.r,I s.k,I s.l],3,λ_=>rfl,λ_=>rfl⟩
@[simp] theorem Zy0(s:Stp):Enc.enc s=[B s.r,I s.k,I s.l]:=rfl
@[simp high] theorem ZrV(l:List Stp):(l.flatMap Enc.enc).length=l.length*3:=xl l
@[simp high] theorem Zy1(l:List Stp):(l.flatMap Enc.enc).take (l.length*3)=l.flatMap Enc.enc:=Yw l
def zs:Stp:=⟨false,0,0⟩
def Jr(c:Cust)(n:Nat)(cap:Int)(price:List Int)(tab:List Stp)(d:Nat)(last:Int):Int :=
 let k1:=if 0<=last then W ((je c last d).2+(tab.getD last.toNat zs).k) else (je c last d).2
 if d<n then W (k1+YL price d) else k1
def QC(c:Cust)(n:Nat)(cap:Int)(tab:List Stp)(d:Nat)(last:Int):Prop :=
 ¬(0<=last/\tab.getD last.toNat zs=zs)/\¬((je c last d).1<0\/(d<n/\vS c (je c last d).1 cap=0))
instance (c:Cust) (n:Nat) (cap:Int) (tab:List Stp) (d:Nat) (last:Int):Decidable (QC c n cap tab d last):=by unfold QC;exact inferInstance
def WG(c:Cust)(n:Nat)(cap:Int)(price:List Int)(tab:List Stp)(d:Nat)(best:Stp)(last:Int):Stp :=
 if QC c n cap tab d last then (if best=zs\/Jr c n cap price tab d last<best.k then ⟨true,Jr c n cap price tab d last,last⟩ else best) else best
def xJ(c:Cust)(n:Nat)(cap:Int)(price:List Int)(tab:List Stp)(d:Nat)(j:Nat):Stp:=(List.range j).foldl (λb (i:Nat)=>WG c n cap price tab d b ((i:Int)-1)) zs
theorem Zic(c:Cust)(n:Nat)(cap:Int)(price:List Int)(tab:List Stp)(d:Nat)(j:Nat):xJ c n cap price tab d (j+1)=WG c n cap price tab d (xJ c n cap price tab d j) ((j:Int)-1):=by simp[xJ,AK]
def jC(c:Cust)(n:Nat)(cap:Int)(price:List Int):Nat->List Stp
 | 0=>[]
 | k+1=>jC c n cap price k++[xJ c n cap price (jC c n cap price k) k (k+1)]
theorem WH(c:Cust)(n:Nat)(cap:Int)(price:List Int):∀k,(jC c n cap price k).length=k
 | 0=>rfl
 | k+1=>by simp[jC,WH c n cap price k]
def ur(tab:List Stp):Nat->Nat->Int->Nat
 | 0,s,_=>s
 | f+1,s,d=>if d<0 then s else ur tab f (qk s d) (tab.getD d.toNat zs).l
def YO(c:Cust)(n:Nat)(cap:Int)(price:List Int):List Visit × Bool :=
 if (jC c n cap price (n+1)).getD n zs=zs then ([],false)
 else ((jK c (yy (ur (jC c n cap price (n+1)) 65 0 ((jC c n cap price (n+1)).getD n zs).l) 0 64)).1,true)
def ZrW(tab:List Stp):Prop:=∀(d:Nat) (e:Stp),tab[d]?=some e->e=zs\/(e.r=true/\-1<=e.l/\e.l<d/\(0<=e.l->tab.getD e.l.toNat zs≠zs))
theorem Zaz(c:Cust)(n:Nat)(cap:Int)(price:List Int)(tab:List Stp)(d:Nat):∀j:Nat,xJ c n cap price tab d j=zs\/((xJ c n cap price tab d j).r=true/\-1<=(xJ c n cap price tab d j).l/\(xJ c n cap price tab d j).l+1<j/\QC c n cap tab d (xJ c n cap price tab d j).l)
 | 0=>.inl rfl
 | j+1=>by
  have ih:=Zaz c n cap price tab d j;rw[Zic];unfold WG;split
  ·rename_i hok;split
   ·exact .inr ⟨rfl,by dsimp only;omega,by dsimp only;omega,hok⟩
   ·rcases ih with ih | ⟨h1,h2,h3,h4⟩
    ·exact .inl ih
    ·exact .inr ⟨h1,h2,by omega,h4⟩
  ·rcases ih with ih | ⟨h1,h2,h3,h4⟩
   ·exact .inl ih
   ·exact .inr ⟨h1,h2,by omega,h4⟩
theorem Zdm(c:Cust)(n:Nat)(cap:Int)(price:List Int):∀k,ZrW (jC c n cap price k)
 | 0=>by intro d e h;cases h
 | k+1=>by
  have ih:=Zdm c n cap price k;have hl:=WH c n cap price k;have he:=Zaz c n cap price (jC c n cap price k) k (k+1);intro d e h;simp only[jC]at h ⊢;have hget:∀(i:Nat),i<k->(jC c n cap price k++[xJ c n cap price (jC c n cap price k) k (k+1)]).getD i zs=(jC c n cap price k).getD i zs:=by
   intro i hi;rw[Aa,Aa,Ap DQ]
  by_cases hd:d<k
  ·rw[Ap DQ]at h;rcases ih d e h with q | ⟨q1,q2,q3,q4⟩
   ·exact .inl q
   ·refine .inr ⟨q1,q2,q3,λq=>?_⟩;rw[hget _ DQ];exact q4 q
  ·rw[Am DQ,hl]at h;obtain rfl:d=k:=by
    rcases Bb (d-k) 1 with q | q
    ·omega
    ·rw[Ak (by simpa using q)]at h;cases h
   rw[BA]at h;simp only[Ba,Option.some.injEq]at h;subst h;rcases he with q | ⟨q1,q2,q3,q4⟩
   ·exact .inl q
   ·refine .inr ⟨q1,q2,by omega,λq=>?_⟩;rw[hget _ DQ];exact λhz=>q4.1 ⟨q,hz⟩
open Go Go.Proofs Hp
def qD(tab:List Stp)(b:Stp):List Stp:=tab++b :: List.replicate (64-tab.length) zs
theorem Zid(tab:List Stp)(b:Stp)(h:tab.length<=64):(qD tab b).length=65:=by simp[qD];omega
theorem ZaA(tab:List Stp)(b:Stp)(i:Nat)(h:i<tab.length):(qD tab b)[i]?=some (tab.getD i zs):=by
 unfold qD;rw[Ap h,Aa,Af h];rfl
theorem ZrX(tab:List Stp)(b:Stp):(qD tab b)[tab.length]?=some b:=by
 unfold qD;rw[Am (Ag _)];simp
theorem ZrY(tab:List Stp)(b e:Stp):(qD tab b).set tab.length e=qD tab e:=by
 unfold qD;rw[BD _ _ (Ag _)];simp
theorem ZrZ(tab:List Stp)(b:Stp)(h:tab.length<64):qD tab b=qD (tab++[b]) zs:=by
 unfold qD;rw[List.append_assoc,List.length_append,Bp,show 64-tab.length=(64-(tab.length+1))+1 from by omega,BC];rfl
@[simp] theorem Zy2:Program.zeroOf prog 325=some (.agg #[.bool false,.int .i64 0,.int .i64 0,.bool false,.int .i64 0,.int .i64 0,.bool false,.int .i64 0,.int .i64 0,.bool false,.int .i64 0,.int .i64 0,.bool false,.int .i64 0,.int .i64 0,.bool false,.int .i64 0,.int .i64 0,.bool false,.int .i64 0,.int .i64 0,.bool false,.int .i64 0,.int .i64 0,.bool false,.int .i64 0,.int .i64 0,.bool false,.int .i64 0,.int .i64 0,.bool false,.int .i64 0,.int .i64 0,.bool false,.int .i64 0,.int .i64 0,.bool false,.int .i64 0,.int .i64 0,.bool false,.int .i64 0,.int .i64 0,.bool false,.int .i64 0,.int .i64 0,.bool false,.int .i64 0,.int .i64 0,.bool false,.int .i64 0,.int .i64 0,.bool false,.int .i64 0,.int .i64 0,.bool false,.int .i64 0,.int .i64 0,.bool false,.int .i64 0,.int .i64 0,.bool false,.int .i64 0,.int .i64 0,.bool false,.int .i64 0,.int .i64 0,.bool false,.int .i64 0,.int .i64 0,.bool false,.int .i64 0,.int .i64 0,.bool false,.int .i64 0,.int .i64 0,.bool false,.int .i64 0,.int .i64 0,.bool false,.int .i64 0,.int .i64 0,.bool false,.int .i64 0,.int .i64 0,.bool false,.int .i64 0,.int .i64 0,.bool false,.int .i64 0,.int .i64 0,.bool false,.int .i64 0,.int .i64 0,.bool false,.int .i64 0,.int .i64 0,.bool false,.int .i64 0,.int .i64 0,.bool false,.int .i64 0,.int .i64 0,.bool false,.int .i64 0,.int .i64 0,.bool false,.int .i64 0,.int .i64 0,.bool false,.int .i64 0,.int .i64 0,.bool false,.int .i64 0,.int .i64 0,.bool false,.int .i64 0,.int .i64 0,.bool false,.int .i64 0,.int .i64 0,.bool false,.int .i64 0,.int .i64 0,.bool false,.int .i64 0,.int .i64 0,.bool false,.int .i64 0,.int .i64 0,.bool false,.int .i64 0,.int .i64 0,.bool false,.int .i64 0,.int .i64 0,.bool false,.int .i64 0,.int .i64 0,.bool false,.int .i64 0,.int .i64 0,.bool false,.int .i64 0,.int .i64 0,.bool false,.int .i64 0,.int .i64 0,.bool false,.int .i64 0,.int .i64 0,.bool false,.int .i64 0,.int .i64 0,.bool false,.int .i64 0,.int .i64 0,.bool false,.int .i64 0,.int .i64 0,.bool false,.int .i64 0,.int .i64 0,.bool false,.int .i64 0,.int .i64 0,.bool false,.int .i64 0,.int .i64 0,.bool false,.int .i64 0,.int .i64 0,.bool false,.int .i64 0,.int .i64 0,.bool false,.int .i64 0,.int .i64 0,.bool false,.int .i64 0,.int .i64 0,.bool false,.int .i64 0,.int .i64 0,.bool false,.int .i64 0,.int .i64 0,.bool false,.int .i64 0,.int .i64 0,.bool false,.int .i64 0,.int .i64 0,.bool false,.int .i64 0,.int .i64 0]):=DU
theorem Zie{α:Type}[Enc α]:∀(l:List α) (k:Nat),(l.flatMap Enc.enc).take (k*Enc.sz α)=(l.take k).flatMap Enc.enc
 | [],k=>by simp
 | a :: l,0=>by simp
 | a :: l,k+1=>by
  have ih:=Zie l k;rw[Az,C5,Az,Nat.add_mul,DJ,List.take_append,Enc.len,<-ih,B0,Ae (by rw[Enc.len];omega)]
theorem Zr0{α:Type}[Enc α](n:Nat)(hn:Enc.sz α=n)(l:List α)(k:Nat)(v:α)(h:k<l.length):yf (l.flatMap Enc.enc) (k*n) (Enc.enc v)=(l.set k v).flatMap Enc.enc:=by
 subst hn;have h1:=Zbp h;have h2:(l.flatMap Enc.enc).drop (k*Enc.sz α+Enc.sz α)=(l.drop (k+1)).flatMap Enc.enc:=by
  rw[<-List.drop_drop,h1,Cx,AS (by rw[Enc.len];exact Ag _),Enc.len,BA];simp
 rw[yf,Enc.len,Zie,h2,AE,if_pos h];simp
theorem Zif(tab:List Stp):∀(f s:Nat) (d:Int),s<2 ^ 64->ur tab f s d<2 ^ 64
 | 0,_,_,h=>h
 | f+1,s,d,h=>by
  unfold ur;split
  ·exact h
  ·exact Zif tab f _ _ (Zah _ _ h)
theorem Zr1(tab:List Stp)(f s:Nat){d:Int}(h:d<0):ur tab f s d=s:=by
 cases f with
 | zero=>rfl
 | succ f=>unfold ur;rw[if_pos h]
theorem Zr2{S:Store}{pl:PV}{price:List Int}(c:Cust)(n:Nat)(cap:Int)(hR:RowOf S pl price)(hc:CustFits c)(hn:n<=60):
  Spec prog 247 [.agg (zV c),I n,I cap,pl] S (λq S'=>q=.tup [L (YO c n cap price).1,B (YO c n cap price).2]/\S'=S):=by
 have hmin:xh (n:Int) 64=n:=by unfold xh;split<;>omega
 have hmax:jk (n:Int) 0=n:=by unfold jk;split<;>omega
 have hpr:=λS (h:RowOf S pl price) d=>Zdi d h
 have hrest:=λ(last d:Int) (h1:-1<=last/\last<=64) (h2:0<=d/\d<=64)=>Zia c last d hc h1 h2
 have hmost:=λ(th:Int) (h:-4611686018427387904<=th/\th<=4611686018427387904)=>Zdh c th cap hc.size h
 unfold YO;refine yl func247 ntmps247 results247 λnx hd=>?_
 refine D0 ?_;intro v0;refine za (ze [] (zo hmin hmax) ?_);refine D0 ?_;intro v1;have hw:IntKind.i64.wrap ((n:Int)+1)=((n+1:Nat):Int):=zu n DQ
 repeat apply za
 refine ze [] hw ?_;refine zj (zC (λd:Nat=>d<=n+1) (λd=>[(1,I n),(2,I cap),(3,pl),(4,.ptr nx v0 0),(10,.ptr (nx+1) v1 0),(22,I (n+1:Nat)),(23,I d)]) (λd=>[.cells v0 87 (zV c),.cells v1 325 ((qD (jC c n cap price d) zs).flatMap Enc.enc)]) (λd=>n+1-d) 0 [] DR DR (by simp[jC];rfl) ?_);rintro d hd1;have htl:=WH c n cap price d;have htok:=Zdm c n cap price d;have htn:jC c n cap price (d+1)=jC c n cap price d++[xJ c n cap price (jC c n cap price d) d (d+1)]:=rfl
 by_cases hdn:d<n+1
 case neg =>
  obtain rfl:d=n+1:=DQ
  clear htn;generalize jC c n cap price (n+1)=tab at *;have hml:=Zid tab zs DQ;obtain⟨s,tl,a1,-,-,e1,e0⟩:=el 3 rfl (qD tab zs) n DQ;have hs:tab.getD n zs=s:=by have:=ZaA tab zs n DQ;rw[a1]at this;exact(Option.some.inj this).symm
  have hs2:tab[n]?=some s:=by rw[<-hs,Aa,Af DQ];rfl
  have e12:=e1 2 DQ;have hn65:(n:Int)<65:=DQ
  have z1:3<=195-n*3:=DQ
  have z2:1<=195-(n*3+2):=DQ
  rw[hs];refine D0 ?_;refine za (zm DR ?_);refine zx ?_;rcases htok n s hs2 with q | ⟨hr,hl1,hl2,hl3⟩
  ·subst q;rw[if_pos rfl];have e0':((qD tab zs).flatMap Enc.enc).drop (n*3)=[B false,I 0,I 0]++tl:=e0
   repeat apply za
   refine ze [] (zJ e0' hn65 hml z1) ?_;refine zk rfl (D0 ?_);refine uc 8 rfl ?_;exact zg ⟨_,S,rfl,⟨by simp[zn],rfl⟩,zR hd⟩
  ·have hne:s≠zs:=λe=>by rw[e]at hr;cases hr
   rw[if_neg hne];obtain⟨sr,sk,sl⟩:=s;simp only at hr hl1 hl2 hl3 ⊢;subst hr
   repeat apply za
   refine ze [] (zJ e0 hn65 hml z1) ?_;refine zm rfl (zh (D0 ?_))
   repeat apply za
   refine ze [] (zJ e12 hn65 hml z2) ?_;generalize hres:ur tab 65 0 sl=res;have hrlt:res<2 ^ 64:=hres ▸ Zif tab 65 0 sl DX;have hfil:=ZrU c res hrlt hc;generalize (jK c (yy res 0 64)).1=vv at hfil ⊢;refine zj (zC (λst:Nat × Nat × Int=>ur tab st.1 st.2.1 st.2.2=res/\-1<=st.2.2/\st.2.2<st.1/\st.2.2<n/\st.2.1<2 ^ 64/\(0<=st.2.2->tab.getD st.2.2.toNat zs≠zs)) (λ(f,s,l)=>[(4,.ptr nx v0 0),(10,.ptr (nx+1) v1 0),(16,U s),(17,I l)]) (λ_=>[.cells v0 87 (zV c),.cells v1 325 ((qD tab zs).flatMap Enc.enc)]) (λst=>st.1) (65,0,sl) [] ⟨hres,hl1,by dsimp only;omega,by dsimp only;omega,by show (0:Nat)<2 ^ 64;decide,hl3⟩ DR DR ?_);rintro⟨f,s,l⟩ ⟨p1,p2,p3,p4,p5,p6⟩;simp only at p1 p2 p3 p4 p5 p6 ⊢
   by_cases hl:l<0
   ·have hl':¬0<=l:=DQ
    rw[Zr1 tab f s hl]at p1;subst p1
    repeat apply za
    refine ze [] hl' ?_;refine zm rfl (zx (D0 ?_));refine zt hfil ?_;exact zg ⟨_,S,DT,⟨by simp[zn],rfl⟩,zR hd⟩
   ·have hl':0<=l:=DQ
    obtain⟨i,rfl⟩:=Au hl';obtain⟨f,rfl⟩:∃g,f=g+1:=⟨f-1,by omega⟩;have p6:=p6 hl';rw[AJ]at p6;have hi:i<tab.length:=DQ
    obtain⟨e,tl2,b1,-,-,f1,f0⟩:=el 3 rfl (qD tab zs) i DQ;have he:tab.getD i zs=e:=by have:=ZaA tab zs i hi;rw[b1]at this;exact(Option.some.inj this).symm
    have he2:tab[i]?=some e:=by rw[<-he,Aa,Af hi];rfl
    have f12:=f1 2 DQ;have hi65:(i:Int)<65:=DQ
    have y2:1<=195-(i*3+2):=DQ
    rw[he]at p6;rcases htok i e he2 with q | ⟨er,el1',el2',el3'⟩
    ·exact absurd q p6
    have p1':ur tab f (qk s i) e.l=res:=by
     rw[<-p1];unfold ur;rw[if_neg DQ,AJ,he];cases f<;>rfl
    repeat apply za
    refine ze [] hl' ?_;refine zk rfl (zh (za (zj (zb ?_))));refine zt (Zg4 s i p5) ?_;refine ze [] (zJ f12 hi65 hml y2) ?_;exact zq (f,qk s i,e.l) [] ⟨p1',el1',by dsimp only;omega,by dsimp only;omega,Zah _ _ p5,el3'⟩ DR DR rfl DR
 generalize jC c n cap price d=tab at *;refine D0 ?_;refine za (zk DV ?_);refine zh (za (zj (D0 ?_)));refine D0 ?_;refine zj (zC (λj:Nat=>j<=d+1) (λj=>[(1,I n),(2,I cap),(3,pl),(4,.ptr nx v0 0),(10,.ptr (nx+1) v1 0),(11,I d),(12,I ((j:Int)-1)),(22,I (n+1:Nat)),(23,I d)]) (λj=>[.cells v0 87 (zV c),.cells v1 325 ((qD tab (xJ c n cap price tab d j)).flatMap Enc.enc)]) (λj=>d+1-j) 0 [] DR DR (by simp[xJ]) ?_);rintro j hj;have hesucc:=Zic c n cap price tab d j;have heok:=Zaz c n cap price tab d j;have hdd:xJ c n cap price tab d (d+1)=xJ c n cap price tab d (d+1):=rfl
 by_cases hjd:j<d+1
 case neg =>
  obtain rfl:j=d+1:=DQ
  repeat apply za
  refine zb ?_;refine zm DR ?_;refine zx (zb ?_);exact zq (d+1) [] hdn DQ (by simp[zu d (by omega)]) rfl (by rw[htn,<-ZrZ tab _ (by omega)];simp)
 clear hdd htn;generalize xJ c n cap price tab d j=b at *;obtain⟨last,hlast⟩:∃last:Int,last=(j:Int)-1:=⟨_,rfl⟩;rw[<-hlast]at hesucc ⊢;have hwl:IntKind.i64.wrap (last+1)=((j+1:Nat):Int)-1:=by rw[wr _ DQ DQ];omega
 have hml:=Zid tab b DQ;have hd65:(d:Int)<65:=DQ
 have zd3:3<=195-d*3:=DQ
 have zd1:1<=195-(d*3+1):=DQ
 have hr:=hrest last d DQ DQ;have hrbd:-4611686018427387904<=(je c last d).1/\(je c last d).1<=4611686018427387904:=by
  have h1:=hc.rate;have h2:=hc.size;have h3:=hc.start;unfold je;simp only;have hp:0<=c.rate*((if last<0 then (d:Int) else d-last).toNat:Int)/\c.rate*((if last<0 then (d:Int) else d-last).toNat:Int)<=2147483648*65 :=
   ⟨DF h1.1 DQ,DG h1.2 (by split<;>omega) DQ DQ⟩
  generalize c.rate*((if last<0 then (d:Int) else d-last).toNat:Int)=pp at hp ⊢;split<;>omega
 have hm:=hmost _ hrbd;have hks:∀(k1:Int),k1=(if 0<=last then W ((je c last d).2+(tab.getD last.toNat zs).k) else (je c last d).2)->Jr c n cap price tab d last=if d<n then W (k1+YL price d) else k1:=λk1 h=>by unfold Jr;rw[h]
 have hokd:QC c n cap tab d last=(¬(0<=last/\tab.getD last.toNat zs=zs)/\¬((je c last d).1<0\/(d<n/\vS c (je c last d).1 cap=0))):=rfl;have hstay:¬QC c n cap tab d last->xJ c n cap price tab d (j+1)=b:=λh=>by rw[hesucc];unfold WG;rw[if_neg h]
 have hgo:QC c n cap tab d last->xJ c n cap price tab d (j+1)=if b=zs\/Jr c n cap price tab d last<b.k then ⟨true,Jr c n cap price tab d last,last⟩ else b:=λh=>by rw[hesucc];unfold WG;rw[if_pos h]
 clear hesucc;generalize je c last d=rr at hr hm hks hokd;obtain⟨th,he⟩:=rr;simp only at hr hm hks hokd;generalize vS c th cap=mo at hm hokd;generalize QC c n cap tab d last=OK at hokd hstay hgo;generalize Jr c n cap price tab d last=kk at hks hgo;generalize hb'e:xJ c n cap price tab d (j+1)=b' at hstay hgo;subst hokd
 repeat apply za
 refine zb ?_;refine zk DV ?_;refine zh (za (zj (za (qa (nx:=nx) (σ:=Unit) (λ_=>¬(0<=last/\tab.getD last.toNat zs=zs)) (λ_=>[(1,I n),(2,I cap),(3,pl),(4,.ptr nx v0 0),(10,.ptr (nx+1) v1 0),(11,I d),(12,I last),(22,I (n+1:Nat)),(23,I d)]) (λ_=>S) (λ_=>[.cells v0 87 (zV c),.cells v1 325 ((qD tab b).flatMap Enc.enc)]) ?_ ?_))))
 ·by_cases hl:0<=last
  ·obtain⟨i,hi⟩:=Au hl;have hit:i<tab.length:=DQ
   obtain⟨e,tl2,b1,-,-,-,f0⟩:=el 3 rfl (qD tab b) i DQ;have hee:tab.getD i zs=e:=by have:=ZaA tab b i hit;rw[b1]at this;exact(Option.some.inj this).symm
   have he2:tab[i]?=some e:=by rw[<-hee,Aa,Af hit];rfl
   have hi65:(i:Int)<65:=DQ
   have y3:3<=195-i*3:=DQ
   have hlt:last.toNat=i:=DQ
   rcases htok i e he2 with q | ⟨er,-,-,-⟩
   ·subst q;have f0':((qD tab b).flatMap Enc.enc).drop (i*3)=[B false,I 0,I 0]++tl2:=f0;have hb':=hstay λh=>h.1 ⟨hl,by rw[hlt];exact hee⟩
    subst hb';subst hi;refine za (ze [(2,33)] (yv hl f0' hi65 hml y3) ?_);refine zk rfl (zx (ze [] hwl ?_));exact zq (j+1) [] DQ DQ DR rfl (by simp[hb'e])
   ·obtain⟨r1,r2,r3⟩:=e;simp only at er;subst er;subst hi;refine za (ze [(2,33)] (yv hl f0 hi65 hml y3) ?_);exact zm rfl (zh (zS () [] (by rw[hlt,hee];rintro⟨-,q⟩;cases q) DR rfl DR))
  ·refine za (ze [(2,33)] (zo hl zB) ?_);exact zm rfl (zh (zS () [] (λq=>hl q.1) DR rfl DR))
 intro _ hA;refine D0 ?_;refine zt hr ?_;refine za (qa (nx:=nx) (σ:=Unit) (λ_=>¬(th<0\/(d<n/\mo=0))) (λ_=>[(1,I n),(2,I cap),(3,pl),(4,.ptr nx v0 0),(10,.ptr (nx+1) v1 0),(11,I d),(12,I last),(14,I he),(22,I (n+1:Nat)),(23,I d)]) (λ_=>S) (λ_=>[.cells v0 87 (zV c),.cells v1 325 ((qD tab b).flatMap Enc.enc)]) ?_ ?_)
 ·by_cases h1:th<0
  ·have hb':=hstay λh=>h.2 (.inl h1)
   subst hb';refine za (ze [(2,49),(6,53)] (zo h1 zB) ?_);refine zk rfl (zx (ze [] hwl ?_));exact zq (j+1) [] DQ DQ DR rfl (by simp[hb'e])
  ·by_cases h2:d<n
   ·by_cases h3:mo=0
    ·have hb':=hstay λh=>h.2 (.inr ⟨h2,h3⟩)
     subst hb';refine za (ze [(2,49),(6,53)] (zA h1 h2 h3) ?_);refine qi [(2,49),(6,53)] hm (zA h1 h2 h3) ?_;refine zk rfl (zx (ze [] hwl ?_));exact zq (j+1) [] DQ DQ DR rfl (by simp[hb'e])
    ·refine za (ze [(2,49),(6,53)] (zA h1 h2 h3) ?_);refine qi [(2,49),(6,53)] hm (zA h1 h2 h3) ?_;exact zm rfl (zh (zS () [] DQ DR rfl DR))
   ·refine za (ze [(2,49),(6,53)] (zA h1 h2 zB) ?_);exact zm rfl (zh (zS () [] DQ DR rfl DR))
 intro _ hB;have hgo:=hgo ⟨hA,hB⟩;clear hstay hm hr;refine D0 ?_;intro v2;obtain⟨k1,hk1⟩:∃k1,k1=(if 0<=last then W (he+(tab.getD last.toNat zs).k) else he):=⟨_,rfl⟩;have hks:=hks k1 hk1;refine za (qa (nx:=nx) (σ:=Unit) (λ_=>True) (λ_=>[(1,I n),(2,I cap),(3,pl),(4,.ptr nx v0 0),(10,.ptr (nx+1) v1 0),(11,I d),(12,I last),(15,.ptr (nx+2) v2 0),(22,I (n+1:Nat)),(23,I d)]) (λ_=>S) (λ_=>[.cells v0 87 (zV c),.cells v1 325 ((qD tab b).flatMap Enc.enc),.cells v2 324 [B true,I k1,I last]]) ?_ ?_)
 ·refine D0 ?_
  by_cases hl:0<=last
  ·rw[if_pos hl]at hk1;obtain⟨i,hi⟩:=Au hl;have hit:i<tab.length:=DQ
   obtain⟨e,tl2,b1,-,-,f1,f0⟩:=el 3 rfl (qD tab b) i DQ;have hee:tab.getD i zs=e:=by have:=ZaA tab b i hit;rw[b1]at this;exact(Option.some.inj this).symm
   have f11:=f1 1 DQ;have hi65:(i:Int)<65:=DQ
   have y1:1<=195-(i*3+1):=DQ
   have hlt:last.toNat=i:=DQ
   rw[hlt,hee]at hk1;subst hi;refine zk DR ?_;refine zz (some [nx+1]) (Row.pures [0,2,3,4,5] (.alt 1 (Row.pures [6,7] (.alt 8 (.done) .stop)) .stop)) mixed (zJ f11 hi65 hml y1) ?_;exact zS () [] trivial DR rfl (by simp[hk1])
  ·rw[if_neg hl]at hk1;refine zm DV ?_;exact zh (zS () [] trivial DR rfl (by simp[hk1]))
 intro _ _;clear hk1;refine za (qa (nx:=nx) (σ:=Unit) (λ_=>True) (λ_=>[(1,I n),(2,I cap),(3,pl),(4,.ptr nx v0 0),(10,.ptr (nx+1) v1 0),(11,I d),(12,I last),(15,.ptr (nx+2) v2 0),(22,I (n+1:Nat)),(23,I d)]) (λ_=>S) (λ_=>[.cells v0 87 (zV c),.cells v1 325 ((qD tab b).flatMap Enc.enc),.cells v2 324 [B true,I kk,I last]]) ?_ ?_)
 ·refine D0 ?_
  by_cases h2:d<n
  ·rw[if_pos h2]at hks;refine zk (by simp[h2]) ?_;refine zz (some [nx+1]) (Row.pures [0,2,3] (.alt 1 (.alt 4 (Row.pures [5,6] (.alt 7 (.done) .stop)) .stop) (.alt 4 (.alt 1 (Row.pures [5,6] (.alt 7 (.done) .stop)) .stop) .stop))) mixed trivial ?_;refine⟨?_,?_⟩
   ·refine(((hpr _ (hR.ext hd _) _).mono ?_).v);rintro _ _ ⟨rfl,rfl⟩;refine⟨by simp[yK],jy trivial ?_⟩;exact zS () [] trivial DR rfl (by simp[hks])
   ·refine(((hpr _ (hR.ext hd _) _).mono ?_).v);rintro _ _ ⟨rfl,rfl⟩;refine⟨by simp[yK],jy trivial ?_⟩;exact zS () [] trivial DR rfl (by simp[hks])
  ·rw[if_neg h2]at hks;refine zm DV ?_;exact zh (zS () [] trivial DR rfl (by simp[hks]))
 intro _ _;clear hks;obtain⟨e,tl2,b1,-,-,f1,f0⟩:=el 3 rfl (qD tab b) d DQ;have hee:b=e:=by have:=ZrX tab b;rw[htl,b1]at this;exact(Option.some.inj this).symm
 subst hee;have f11:=f1 1 DQ;have hsp:=Zr0 3 rfl (qD tab b) d ⟨true,kk,last⟩ DQ;have hms:=ZrY tab b ⟨true,kk,last⟩;rw[htl]at hms;rw[hms]at hsp;have hsp':yf ((qD tab b).flatMap Enc.enc) (d*3) [B true,I kk,I last]=(qD tab ⟨true,kk,last⟩).flatMap Enc.enc:=hsp;clear hsp hms;have hmf:((qD tab b).flatMap Enc.enc:List PV).length=195:=by rw[ZrV,hml]
 rcases heok with q | ⟨hbr,-,-,-⟩
 ·subst q;rw[if_pos (.inl rfl)]at hgo;subst hgo;have f0':((qD tab zs).flatMap Enc.enc).drop (d*3)=[B false,I 0,I 0]++tl2:=f0;refine za (zz none (Row.pures [0,1,2,3,4,5,6,7,8,9,10,11,12,13] .done) mixed (yv f0' hd65 hml zd3 zB) ?_);refine zk rfl (ze [] (zJ hd65 hmf hsp' hml) ?_);refine⟨by omega,?_⟩;refine ze [] hwl ?_;exact zq (j+1) [_] DQ DQ DR rfl (by simp[hb'e];rfl)
 ·obtain⟨r1,r2,r3⟩:=b;simp only at hbr;subst hbr;have hnz:¬((⟨true,r2,r3⟩:Stp)=zs):=λe=>by cases e
  by_cases hlt:kk<r2
  ·rw[if_pos (.inr hlt)]at hgo;subst hgo;refine za (zz none (Row.pures [0,1,2,3,4,5,6,7,8,9,10,11,12,13] .done) mixed (zP f0 f11 hd65 hml zd3 (zo zd1 hlt)) ?_);refine zk rfl (ze [] (zJ hd65 hmf hsp' hml) ?_);refine⟨by omega,?_⟩;refine ze [] hwl ?_;exact zq (j+1) [_] DQ DQ DR rfl (by simp[hb'e];rfl)
  ·rw[if_neg (by rintro(q | q);exact hnz q;exact hlt q)]at hgo;subst hgo;refine za (zz none (Row.pures [0,1,2,3,4,5,6,7,8,9,10,11,12,13] .done) mixed (zP f0 f11 hd65 hml zd3 (zo zd1 hlt)) ?_);refine zm rfl (zh (ze [] hwl ?_));exact zq (j+1) [_] DQ DQ DR rfl (by simp[hb'e];rfl)
end Go.Proofs.YtcocagkbfpgmiaaGreatDoor.Pv
