/- Part of a proof, packed. -/
import Derived.Test.YtdjbbndbalhekaaGreatDoorF4
open List (range replicate length_map length_append map_append append_assoc cons_append map_take)
open Option.some (inj injEq)
open Go.IntKind (i64)
open Go.Proofs.Tryz
set_option linter.defProp false
set_option maxRecDepth 100000
set_option maxHeartbeats 3200000
namespace Go.Proofs.YtdjbbndbalhekaaGreatDoor.Pv
open Go
def Pm(c:Cust)(ns:List Int)(hn:ns.length<=1048576):PP 87 [.agg (yf c),L ns] (I (uS c ns)):=by
 refine c9 func87 λS nx a=>?_;intro v0;refine EJ ?_;refine ze (EJ ?_);refine zn (zF (λs:Nat=>s<=ns.length) (λk=>[(1,L ns),(2,.ptr nx v0 0),(5,I (W (ns.take k).sum)),(6,I k)]) (λ_=>[.cells v0 59 (yf c)]) (λs=>ns.length-s) 0 [] EA EA EA ?_);rintro k e;refine ze (EJ ?_);refine zA rfl (λhc=>?_) (λhc=>?_);simp at hc;obtain⟨z,tl,f,g,a3,b⟩:=zH rfl ns k hc;refine zk (aA ?_);have d:W (W (ns.take k).sum+z)=W (ns.take (k+1)).sum:=by rw[a3,WX,uk]
 refine zi [] (zq b hc) ?_;refine zg ?_;exact zv (k+1) [] hc D9 (by simp[zy k D9];exact d) rfl EA;simp at hc;obtain rfl:k=ns.length:=D9;rw[Ah];refine zB (EJ ?_);exact EK a
variable {q:List Int}
def iy(h:∀z∈q,0<=z/\z<=2147483648):∀k:Nat,k<=q.length->0<=(q.take k).sum/\(q.take k).sum<=2147483648*k:=by
 intro k;induction k with
 |zero=>intro _;simp
 |succ k a =>
 intro b;have:=a D9;have c:=h q[k] (AY D9);rw[AT D9,WX];omega
def rN(c:Cust)(q:List Int)(hc:CustFits c)(hq:q.length<=1048576):PP 84 [.agg (yf c),L q] (.tup [L (qc c q).1,I (qc c q).2]):=by
 obtain⟨x,a7,p⟩:=hc;refine c9 func84 λS nx g=>?_;intro v0;refine ze (EJ ?_);refine qg (nx:=nx) (σ:=Nat) (λv0=>q.any vy=false) (λv0=>[(1,L q),(2,.ptr nx v0 0)]) (λ_=>S) (λv0=>[.cells v0 59 (yf c)]) ?_ ?_;refine zn (zF (λs:Nat=>s<=q.length/\(q.take s).any vy=false) (λk=>[(1,L q),(2,.ptr nx v0 0),(6,I k)]) (λ_=>[.cells v0 59 (yf c)]) (λs=>q.length-s) 0 [] EA EA EA ?_);rintro k ⟨r,ho⟩;refine ze (EJ ?_);refine zA rfl (λhc=>?_) (λhc=>?_);simp at hc;obtain⟨z,tl,t,a2,a3,o⟩:=zH rfl q k hc;have bad:vy z=true->qc c q=([],1):=λh=>by
  have:q.any vy=true:=by rw[BX];exact⟨z,Ab t,h⟩
  simp[qc,this]
 refine zk (aA ?_);by_cases h1:z<0;refine aF [(5,23)] (zM o hc h1 zz) ?_;refine zo rfl (EJ ?_);refine Zh 4 rfl ?_;exact zj (zm g EB (by rw[bad (by simp[vy,h1])];rfl));by_cases h2:(2147483648:Int)<z;refine aF [(5,23)] (zM o hc h1 h2) ?_;refine zo rfl (EJ ?_);refine Zh 4 rfl ?_;exact zj (zm g EB (by rw[bad (by simp[vy,h2])];rfl));refine aF [(5,23)] (zM o hc h1 h2) ?_;refine zp rfl (zk (zg ?_));exact zv (k+1) [] ⟨hc,by rw[a3,Dp,ho];simp[vy];omega⟩ D9 (by simp[zy k D9]) rfl EA;simp at hc;obtain rfl:k=q.length:=D9;rw[Ah]at ho;exact zB (zY v0 [] ho EA rfl EA);intro v0 hb;have b:∀z∈q,0<=z/\z<=2147483648:=by intro z hz;rw[CA]at hb;have:=hb z hz;simp[vy]at this;omega
 have d:qc c q=match qV c.size c.H c.Q q with|none=>([],8)|some l=>(l,0):=by unfold qc;rw[hb];rfl
 refine EJ ?_;refine qa 7 3 1 rfl λv1=>?_;refine ze (EJ ?_);refine zn (zF (λs:Nat × List Int × Nat=>s.1<=q.length/\s.2.1.length=s.1/\(0<=c.Q+(q.take s.1).sum-c.H*s.1/\c.Q+(q.take s.1).sum-c.H*s.1<=2147483648)/\qV c.size c.H c.Q q=(qV c.size c.H (c.Q+(q.take s.1).sum-c.H*s.1) (q.drop s.1)).map (s.2.1++·))
  (λ(k,out,v1)=>[(1,L q),(2,.ptr nx v0 0),(7,.sl (nx+1) v1 1 0 out.length),(8,I k)])
  (λ(k,out,v1)=>[.cells v0 59 (yf c),.cells v1 3 (out.flatMap Enc.enc)]) (λs=>q.length-s.1) (0,[],v1) [] ?_ EA EA ?_)
 refine⟨by simp,by simp,by simpa using p,?_⟩;simp;rintro⟨k,out,v1⟩ ⟨r,i,m,ho⟩;simp only at r i m ho ⊢;refine ze (EJ ?_);refine zA rfl (λhc=>?_) (λhc=>?_);simp at hc;obtain⟨z,tl,t,a2,a3,o⟩:=zH rfl q k hc;have hz:=b z (Ab t);have a0:=iy b k r;have a4:=iy b (k+1) hc;have a5:(q.take (k+1)).sum=(q.take k).sum+z:=by rw[a3,WX]
 have a8:0<=c.H*k/\c.H*k<=2147483648*1048576:=⟨CF x.1 D9,CG x.2 D9 D9 D9⟩;rw[a2]at ho;refine zk (aA (EJ ?_));refine ze (EJ ?_);refine qg (nx:=nx) (σ:=Nat) (λ_=>True) (λv1=>[(1,L q),(2,.ptr nx v0 0),(7,.sl (nx+1) v1 1 0 out.length),(8,I k),(9,I (c.Q+(q.take (k+1)).sum))]) (λ_=>S) (λv1=>[.cells v0 59 (yf c),.cells v1 3 (out.flatMap Enc.enc)]) ?_ ?_;refine zn (zF (λs:Nat=>s<=k+1) (λj=>[(1,L q),(2,.ptr nx v0 0),(7,.sl (nx+1) v1 1 0 out.length),(8,I k),(9,I (c.Q+(q.take j).sum)),(10,I j)]) (λ_=>[.cells v0 59 (yf c),.cells v1 3 (out.flatMap Enc.enc)]) (λs=>k+1-s) 0 [] EA EA EA ?_);rintro j hj;refine ze (EJ ?_);refine zA rfl (λe=>?_) (λe=>?_);simp at e;obtain⟨y,a9,b1,b2,b3,e2⟩:=zH rfl q j D9;have b7:=iy b (j+1) D9;have u:j<q.length:=D9;have f:c.Q+(q.take j).sum+y=c.Q+(q.take (j+1)).sum:=by rw[b3,WX];omega
 have v:i64.wrap (c.Q+(q.take (j+1)).sum)=c.Q+(q.take (j+1)).sum:=wr _ D9 D9;refine zk (aA (zi [] (zM e2 u f v) ?_));refine zg ?_;exact zv (j+1) [] D9 D9 (by simp[zy j D9]) rfl EA;simp at e;obtain rfl:j=k+1:=D9;exact zB (zY v1 [] n' EA rfl EA);intro v1 _;have v:i64.wrap (c.H*(k:Int))=c.H*(k:Int):=wr _ D9 D9;have n:c.Q+(q.take (k+1)).sum-c.H*(k:Int)=(c.Q+(q.take k).sum-c.H*(k:Int))+z:=D9;generalize a6:c.Q+(q.take k).sum-c.H*(k:Int)=there at m ho n;have w2:i64.wrap (there+z)=there+z:=wr _ D9 D9;have w:i64.wrap (there+z-c.H)=there+z-c.H:=wr _ D9 D9;have bad:(c.size<there+z\/there+z<c.H)->qc c q=([],8):=λh=>by rw[d,ho];simp only[qV,if_pos h,Dq]
 refine aF [] (zD v n w2) ?_;by_cases h1:c.size<there+z;refine ze (aF [(4,59)] (zq h1 zz) ?_);refine zo rfl (EJ ?_);refine Zh 4 rfl ?_;exact zj (zm g EB (by rw[bad (.inl h1)];rfl));by_cases h2:there+z-c.H<0;refine ze (aF [(4,59)] (zD h1 h2 w) ?_);refine zo rfl (EJ ?_);refine Zh 4 rfl ?_;exact zj (zm g EB (by rw[bad (.inr D9)];rfl));refine ze (aF [(4,59)] (zD h1 h2 w) ?_);refine zp rfl (zk (zi [] w ?_));refine⟨by omega,?_⟩;refine zg ?_;have a:c.Q+(q.take (k+1)).sum-c.H*((k+1:Nat):Int)=there+z-c.H:=by
  have:c.H*((k+1:Nat):Int)=c.H*(k:Int)+c.H:=by rw[show ((k+1:Nat):Int)=(k:Int)+1 by omega,DL,Int.mul_one]
  omega
 exact zv (k+1,out++[there+z-c.H],v1+1) [] ⟨hc,by simp[i],by dsimp only;rw[a];omega,by dsimp only;rw[a];exact rJ ho h1 D9⟩ ED (by simp[zy k D9]) rfl EA;simp at hc;obtain rfl:k=q.length:=D9;rw[Bh]at ho;simp only[qV,AU,Ay]at ho;refine zB (EJ ?_);refine yc 1 rfl ?_;exact zj (zm g EB (by rw[d,ho];simp[zr]))
variable {size rate:Int}
def rO:∀{q:List Int} {there:Int} {l:List Int},qV size rate there q=some l->l.length=q.length:=by
 intro q;induction q with
 |nil=>intro there l h;simp only[qV,injEq]at h;subst h;rfl
 |cons z q a =>
 intro there l h;simp only[qV]at h;split at h;cases h;obtain⟨l2,h2,rfl⟩:=Al.1 h;simp[a h2]
def Pn:∀{q:List Int} {there:Int} {l:List Int},qV size rate there q=some l->∀n∈l,n+rate<=size/\0<=n:=by
 intro q;induction q with
 |nil=>intro there l h;simp only[qV,injEq]at h;subst h;intro n hn;cases hn
 |cons z q a =>
 intro there l h;simp only[qV]at h;split at h;cases h;obtain⟨l2,h2,rfl⟩:=Al.1 h;intro n hn;obtain rfl|hn:=Am.1 hn;omega;exact a h2 n hn
def Po(c:Cust)(q:List Int)(hc:CustFits c)(j:q.length<=1048576):PP 137 [.agg (yf c),L q] (I (uy c q)):=by
 have e:=rN c q hc j;obtain⟨x,m,o⟩:=hc;refine c9 func137 λS nx f=>?_;intro v0;refine EJ ?_;refine zu e ?_;by_cases b:(qc c q).2=0;case neg =>
  refine ze (aF [] b ?_);refine zo (by simp[b]) ?_;refine EJ ?_;exact zj (zm f EB (by simp[uy,b,zr]))
 refine ze (aF [] b ?_);refine zp (by simp[b]) ?_;refine zk ?_;have a:uy c q=if c.X≠1 then 0 else if Yg c.H c.size q (qc c q).1 then 9 else 0:=by simp[uy,b]
 obtain⟨l,hl,g⟩:∃l,qV c.size c.H c.Q q=some l/\(qc c q).1=l:=by
  unfold qc at b ⊢;split at b;simp at b;rename_i hb;cases h:qV c.size c.H c.Q q with
  |none=>simp[h]at b
  |some l=>exact⟨l,rfl,by simp[hb]⟩
 rw[g]at a ⊢;have p:=rO hl;refine ze (EJ ?_);refine zn (zF (λs:Nat=>s<=q.length/\(c.X=1->Yg c.H c.size q l=Yg c.H c.size (q.drop s) (l.drop s)))
  (λk=>[(1,L q),(2,.ptr nx v0 0),(5,L l),(7,I k)]) (λk=>[.cells v0 59 (yf c)]) (λs=>q.length-s) 0 [] ⟨by simp,by simp⟩ EA EA ?_)
 rintro k ⟨y,ho⟩;refine ze (EJ ?_);refine zA rfl (λhc=>?_) (λhc=>?_);simp at hc;obtain⟨z,tl,a1,r,a3,i⟩:=zH rfl q k hc;obtain⟨n,t,b1,b2,b3,e2⟩:=zH rfl l k D9;have d:k<l.length:=D9;have u:=Pn hl n (Ab b1);rw[r,b2]at ho;simp only[Yg]at ho;have v:i64.wrap (n+c.H)=n+c.H:=wr _ D9 D9;refine zk (aA ?_);by_cases h0:c.X=1;have ho:=ho h0;by_cases h1:0<z;by_cases h2:n+c.H=c.size;have w:i64.wrap c.size=c.size:=wr _ D9 D9;refine aG (some [nx]) Rk (zN i e2 hc d h0 (zD h1 h2 w)) ?_;refine aC (zg ?_);exact zv (k+1) [] ⟨hc,λ_=>by rw[ho,decide_eq_false D9,DK]⟩ D9 (by simp[zy k D9]) rfl EA;refine aG (some [nx]) Rk (zN i e2 hc d h0 (zD h1 v h2)) ?_;refine zo (by simp[h2]) ?_;refine EJ ?_;exact zj (zm f EB (by rw[a,ho];simp[h0,h1,h2,zr]));refine aG (some [nx]) Rk (zN i e2 hc d h0 (zq h1 zz)) ?_;refine aC (zg ?_);exact zv (k+1) [] ⟨hc,λ_=>by rw[ho,decide_eq_false D9,DK]⟩ D9 (by simp[zy k D9]) rfl EA;refine aG (some [nx]) Rk (zq h0 zz) ?_;refine aC (zg ?_);exact zv (k+1) [] ⟨hc,λq=>absurd q h0⟩ D9 (by simp[zy k D9]) rfl EA;simp at hc;obtain rfl:k=q.length:=D9;rw[Bh]at ho;simp only[Yg]at ho;refine zB (EJ ?_);exact zj (zm f EB (by rw[a];by_cases h0:c.X=1;simp[h0,ho h0,zr];simp[h0,zr]))
def ax(v:List Visit)(k:Nat):List Int:=(range k).map λ(d:Nat)=>((v.filter λs=>decide (s.d=(d:Int))).map (·.q)).sum
def rP(v:List Visit)(n:Int)(hv:VisOk v):PP 85 [L v,I n] (L (yN v n)):=by
 have p:=hv.n;have e:yN v n=ax v (min (max n 0) 64).toNat:=rfl;rw[e];refine c9 func85 λS nx r=>?_;refine ze (EJ ?_);refine qg (nx:=nx) (σ:=Unit) (λ_=>True) (λ_=>[(0,L v),(1,I (min n 64))]) (λ_=>S) (λ_=>[]) ?_ ?_;by_cases h:(64:Int)<n;refine zo (by simp[h]) ?_;refine zg ?_;exact zY () [] n' ED rfl EA;refine zp ED ?_;exact zk (zY () [] n' ED rfl EA);intro _ _;generalize hm:(min (max n 0) 64).toNat=m;have l:m<=64:=D9;have c:∀k:Nat,((k:Int)<min n 64)=(k<m):=λk=>propext ⟨λh=>by omega,λh=>by omega⟩;refine EJ ?_;refine qa 5 3 1 rfl λv1=>?_;refine ze (EJ ?_);refine zn (zF (λs:Nat × List Int × Nat=>s.1<=m/\s.2.1=ax v s.1) (λ(k,out,v1)=>[(0,L v),(1,I (min n 64)),(5,.sl nx v1 1 0 out.length),(6,I k)]) (λ(k,out,v1)=>[.cells v1 3 (out.flatMap Enc.enc)]) (λs=>m-s.1) (0,[],v1) [] (by simp[ax]) EA EA ?_);rintro⟨k,out,v1⟩ ⟨t,ho⟩;simp only at t ho ⊢;have u:out.length=k:=by rw[ho];simp[ax]
 by_cases hc:k<m;refine ze (aF [] (zq c hc) ?_);refine aD ?_;refine zk (aA (EJ ?_));refine ze (EJ ?_);refine qg (nx:=nx) (σ:=Nat) (λ_=>True) (λv1=>[(0,L v),(1,I (min n 64)),(5,.sl nx v1 1 0 out.length),(6,I k),(7,I ((v.filter λs=>decide (s.d=(k:Int))).map (·.q)).sum)]) (λ_=>S) (λv1=>[.cells v1 3 (out.flatMap Enc.enc)]) ?_ ?_;refine zn (zF (λs:Nat=>s<=v.length) (λj=>[(0,L v),(1,I (min n 64)),(5,.sl nx v1 1 0 out.length),(6,I k),(7,I (((v.take j).filter λs=>decide (s.d=(k:Int))).map (·.q)).sum),(8,I j)]) (λ_=>[.cells v1 3 (out.flatMap Enc.enc)]) (λs=>v.length-s) 0 [] EA EA EA ?_);rintro j hj;refine ze (EJ ?_);refine zA rfl (λa=>?_) (λa=>?_);simp at a;obtain⟨s,tl,w,a2,a3,y,o⟩:=el 2 rfl v j a;have f:=hv.q s (Ab w);have z:(v.take j).length<=1048576:=ED;have g:=rL (v.take j) (λs=>decide (s.d=(k:Int))) (λx hx=>hv.q x (Bn hx));have i:=y 1 D9;refine zk (aA ?_);by_cases h:s.d=(k:Int);have b:(((v.take j).filter λs=>decide (s.d=(k:Int))).map (·.q)).sum+s.q=(((v.take (j+1)).filter λs=>decide (s.d=(k:Int))).map (·.q)).sum:=by rw[a3];simp[h]
 refine aF [] (zD o a h) ?_;refine aD ?_;refine zi [] (zq i a) ?_;refine zu (Pl _ _ g.1 f.1 D9) ?_;refine zg ?_;exact zv (j+1) [] a D9 (by simp[zy j D9];exact b) rfl EA;have b:(((v.take j).filter λs=>decide (s.d=(k:Int))).map (·.q)).sum=(((v.take (j+1)).filter λs=>decide (s.d=(k:Int))).map (·.q)).sum:=by rw[a3];simp[h]
 refine aF [] (zD o a h) ?_;refine aC (zg ?_);exact zv (j+1) [] a D9 (by simp[zy j D9];exact b) rfl EA;simp at a;obtain rfl:j=v.length:=D9;rw[Ah];exact zB (zY v1 [] n' EA rfl EA);intro v1 _;refine zg ?_;refine⟨by omega,?_⟩;refine zg ?_;exact zv (k+1,out++[((v.filter λs=>decide (s.d=(k:Int))).map (·.q)).sum],v1+1) [] ⟨hc,by rw[ho];simp[ax,AO]⟩ ED (by simp[zy k D9]) rfl EA;obtain rfl:k=m:=D9;refine ze (aF [] c ?_);refine aE ?_;refine zB (EJ ?_);refine yc 0 rfl ?_;exact zj (zm r EB (by rw[ho];simp[zr]))
def rQ(p:zG)(c:Int)(l:PlanOk p):PP 86 [.agg [L p],I c] (L (yJ c (told 0 p))):=by
 have o:=l.ak;have u:∀pre rest,told 0 p=pre++rest->(yJ c pre).length<=1048576:=λpre rest e=>by have:=io c pre;have:=congrArg List.length e;simp at this;omega
 refine c9 func86 λS nx v=>?_;intro v0;refine EJ ?_;refine ze (qa 5 197 2 rfl λv1=>?_);refine EJ ?_;refine zn (zF (λs:Nat × List (Stop × Nat) × Nat=>s.1<=p.length/\told 0 p=s.2.1++told s.1 (p.drop s.1)) (λ(a,pre,v1)=>[(1,I c),(2,.ptr nx v0 0),(5,.sl (nx+1) v1 2 0 (yJ c pre).length),(6,I a)]) (λ(a,pre,v1)=>[.cells v0 31 [L p],.cells v1 197 ((yJ c pre).flatMap Enc.enc)]) (λs=>p.length-s.1) (0,[],v1) [] EA (by simp[yJ]) (by simp[yJ]) ?_);rintro⟨a,pre,v1⟩ ⟨w,f⟩;simp only at w f ⊢;have x:=l.n;refine ze (EJ ?_);refine zA rfl (λhc=>?_) (λhc=>?_);simp at hc;obtain⟨d,tl,y,z,a3,q⟩:=zH rfl p a hc;have k:=Ab y;have a0:=l.d d k;rw[z]at f;simp only[told]at f;refine zk (aA (EJ ?_));refine zn (zF (λs:Nat × List (Stop × Nat) × Nat=>s.1<=d.length/\told 0 p=s.2.1++((d.drop s.1).flatten.map (·,a)++told (a+1) (p.drop (a+1)))) (λ(b,pre,v1)=>[(1,I c),(2,.ptr nx v0 0),(5,.sl (nx+1) v1 2 0 (yJ c pre).length),(6,I a),(7,I b)]) (λ(b,pre,v1)=>[.cells v0 31 [L p],.cells v1 197 ((yJ c pre).flatMap Enc.enc)]) (λs=>d.length-s.1) (0,pre,v1) [] (by simp[f]) EA EA ?_);rintro⟨b,pre,v1⟩ ⟨hb,f⟩;simp only at hb f ⊢;refine ze (aF [] (zq q hc) ?_);refine zA rfl (λi=>?_) (λi=>?_);simp at i;obtain⟨t,a4,b1,b2,b3,e2⟩:=zH rfl d b i;have a5:=l.t d k t (Ab b1);rw[b2]at f;simp only[BB,map_append,append_assoc]at f;refine zk (aA (aF [] (zM q hc e2 i) ?_));refine EJ ?_;refine zn (zF (λs:Nat × List (Stop × Nat) × Nat=>s.1<=t.length/\told 0 p=s.2.1++((t.drop s.1).map (·,a)++((d.drop (b+1)).flatten.map (·,a)++told (a+1) (p.drop (a+1))))) (λ(j,pre,v1)=>[(1,I c),(2,.ptr nx v0 0),(5,.sl (nx+1) v1 2 0 (yJ c pre).length),(6,I a),(7,I b),(8,L t),(9,I j)]) (λ(j,pre,v1)=>[.cells v0 31 [L p],.cells v1 197 ((yJ c pre).flatMap Enc.enc)]) (λs=>t.length-s.1) (0,pre,v1) [] (by simp[f]) EA EA ?_);rintro⟨j,pre,v1⟩ ⟨hj,f⟩;simp only at hj f ⊢;refine ze (EJ ?_);refine zA rfl (λg=>?_) (λg=>?_);simp at g;obtain⟨s,a6,c1,c2,c3,e4,r⟩:=el 2 rfl t j g;have m:=e4 1 D9;rw[c2]at f;simp only[Aw,cons_append]at f;have hl:=u pre _ f;refine zk (aA ?_);by_cases h:s.c=c;refine aF [] (zD r g h) ?_;refine aD ?_;refine zi [] (zq m g) ?_;refine⟨by omega,?_⟩;refine zg ?_;exact zv (j+1,pre++[(s,a)],v1+1) [] ⟨g,by simp[f]⟩ ED (by simp[zy j D9,WU,WV,h]) rfl (by simp[WU,WV,h]);refine aF [] (zD r g h) ?_;refine aC (zg ?_);exact zv (j+1,pre++[(s,a)],v1) [] ⟨g,by simp[f]⟩ ED (by simp[zy j D9,WU,WV,h]) rfl (by simp[WU,WV,h]);simp at g;obtain rfl:j=t.length:=D9;simp only[Bh,Bf,AK]at f;refine zB (zg ?_);exact zv (b+1,pre,v1) [] ⟨i,f⟩ ED (by simp[zy b D9]) rfl EA;simp at i;obtain rfl:b=d.length:=D9;simp only[Bh,DO,Bf,AK]at f;refine zB (zg ?_);exact zv (a+1,pre,v1) [] ⟨hc,f⟩ ED (by simp[zy a D9]) rfl EA;simp at hc;obtain rfl:a=p.length:=D9;simp only[Bh,told,Ay]at f;refine zB (EJ ?_);refine yc 1 rfl ?_;exact zj (zm v EB (by rw[f];simp[zr]))
def Pp(n d:Nat):((n:Int).fdiv (2^d))=((n/2^d:Nat):Int):=by have h:(2:Int)^d=((2^d:Nat):Int):=EA;rw[h,Int.fdiv_eq_ediv_of_nonneg _ (Int.natCast_nonneg _)];rfl
def Pq(n:Nat)(d:Int)(hn:n<2^64):PP 269 [U n,I d] (B (decide (0<=d/\d<64/\yR n d.toNat=1))):=by
 by_cases h:0<=d/\d<64;have h1:¬d<0:=D9;have h2:min d.toNat 64=d.toNat:=D9;have g:n/2^d.toNat<=n:=Nat.div_le_self _ _;have h3:=Pp n d.toNat;have hb:yR n d.toNat=n/2^d.toNat%2:=rfl;generalize n/2^d.toNat=m at g h3 hb;have k:=and_one_u64 (m:Int) D9 D9;have l:IntKind.u64.wrap (m:Int)=(m:Int):=by simp only[IntKind.wrap,IntKind.bits,IntKind.signed];simp;omega
 have o:((m:Int)%2=1)=(yR n d.toNat=1):=by rw[hb];exact propext ⟨λq=>by omega,λq=>by omega⟩
 refine c9 func269 λS nx i=>?_;refine ze (x8 [(2,7)] EF EF λK Gc Gh j b c X a e=>?_);simp -implicitDefEqProofs [a,e];try clear a e X
 refine b _ _ _ _ _ _ _ λf=>((ir d _).mono ?_).v;rintro _ _ ⟨rfl,rfl⟩;refine⟨_,_,rfl,?_⟩;clear b c;clear Gc Gh;refine vr f (D:=[(2,7)]) EF λGc Gh b c X a e=>?_;simp -implicitDefEqProofs [a,e,h,h1,h2,h3,l,k,IntKind.bits];try clear a e X
 refine j _ _ _ ?_;clear j b c;clear K Gc Gh;exact zj (zm i EB (by simp[h,zr,o]));refine c9 func269 λS nx i=>?_;refine aF [(2,7)] n' ?_;refine yK [(2,7)] (ir d) (zq h zz) ?_;have p:¬(0<=d/\d<64/\yR n d.toNat=1):=λq=>h ⟨q.1,q.2.1⟩;exact zj (zm i EB (by simp only[p,zr,decide_false]))
def yM(n a k:Nat):List Int:=((range k).filter λi=>decide (a<=i)&&decide (yR n i=1)).map λ(i:Nat)=>(i:Int)
def JR(n a k:Nat):(yM n a k).length<=k:=by simp only[yM,length_map];exact AF (BO _ _) EA
def rR(n a k:Nat)(h:a<=k):yM n a (k+1)=yM n a k++(if yR n k=1 then [(k:Int)] else []):=by simp only[yM,AO,Cd,map_append];by_cases q:yR n k=1<;>simp[q,h]
def iz(n a k:Nat)(h:k<=a):yM n a k=[]:=by simp only[yM,List.map_eq_nil_iff,CZ,AI];intro i hi;simp;omega
def rS(n:Nat)(d:Int)(hn:n<2^64)(i:d<=1000):PP 268 [.fn (.func 269) [U n] [],I d] (L (yM n d.toNat 64)):=by
 have b:jU d 0=((d.toNat:Nat):Int):=by unfold jU;split<;>omega
 have c:yM n d.toNat (max d.toNat 64)=yM n d.toNat 64:=by by_cases q:d.toNat<=64;rw[Nat.max_eq_right q];rw[Nat.max_eq_left D9,iz _ _ _ (Ag _),iz _ _ _ D9]
 have h:d.toNat<=1000:=D9;have e:∀a:Nat,a<=1000->yM n a (max a 64)=yM n d.toNat 64->jU d 0=(a:Int)->PP 268 [.fn (.func 269) [U n] [],I d] (L (yM n d.toNat 64)):=by
  intro a h c b;refine c9 func268 λS nx j=>?_;refine EJ ?_;refine ze (qa 5 3 1 rfl λv1=>?_);refine aF [] b ?_;refine zn (zF (λs:Nat × List Int × Nat=>a<=s.1/\s.1<=max a 64/\s.2.1=yM n a s.1) (λ(k,out,v1)=>[(0,.fn (.func 269) [U n] []),(5,.sl nx v1 1 0 out.length),(6,I k)]) (λ(k,out,v1)=>[.cells v1 3 (out.flatMap Enc.enc)]) (λs=>max a 64-s.1) (a,[],v1) [] (by simp[iz];omega) EA EA ?_);rintro⟨k,out,v1⟩ ⟨f,l,ho⟩;simp only at f l ho ⊢;have m:out.length<=k:=by rw[ho];exact JR _ _ _
  refine ze (EJ ?_);refine zA rfl (λhc=>?_) (λhc=>?_);simp at hc;have o:k<64:=D9;refine zk (aA (EJ ?_));refine zu (Pq n k hn) ?_;have hs:=rR n a k f;refine zA rfl (λhb=>?_) (λhb=>?_);simp at hb;refine zg ?_;refine⟨by omega,?_⟩;refine zg ?_;exact zv (k+1,out++[(k:Int)],v1+1) [] ⟨by omega,by omega,by rw[hs,if_pos hb.2,ho]⟩ ED (by simp[zy k D9]) rfl EA;have g:¬yR n k=1:=by simp at hb;exact hb D9
  refine zk (zg ?_);exact zv (k+1,out,v1) [] ⟨by omega,by omega,by rw[hs,if_neg g,ho];simp⟩ ED (by simp[zy k D9]) rfl EA;simp at hc;obtain rfl:k=max a 64:=D9;refine zB (EJ ?_);refine yc 0 rfl ?_;exact zj (zm j EB (by simp[ho,c,zr]))
 exact e d.toNat h c b
def vS(n:Nat)(d:Int):Int:=(yM n d.toNat 64).headD (-1)
def Pt(n:Nat)(d:Int)(hn:n<2^64)(c:d<=1000):PP 242 [U n,I d] (I (vS n d)):=by
 have b:=JR n d.toNat 64;refine c9 func242 λS nx e=>?_;refine EJ ?_;refine zu (rS n d hn c) ?_;unfold vS;generalize yM n d.toNat 64=l at b ⊢;cases l with
 |nil =>
 refine ze (EJ ?_);refine zo rfl (EJ ?_);exact EK e
 |cons a l =>
 have h1:¬((l.length:Int)+1=0):=D9;refine ze (aF [] h1 ?_);refine zp rfl (zk ?_);have h2:(0:Int)<(l.length:Int)+1:=D9;refine aF [] h2 ?_;exact EK e
def yb(n lo hi:Int):Bool:=decide (lo<=n/\n<=hi)
def ZU(n lo hi:Int):PP 117 [I n,I lo,I hi] (B (yb n lo hi)):=by refine c9 func117 λS nx a=>?_;by_cases h:lo<=n;refine aF [(3,10)] h ?_;exact zj (zm a EB (by simp[yb,h,zr]));refine aF [(3,10)] (zq h zz) ?_;exact zj (zm a EB (by simp[yb,h,zr]))
abbrev ZV(c:Cust)(days:Int):List PV:=[I c.kind,I c.O,L c.D,I c.H,I c.size,I c.Q,I c.X,I c.Y,I days]
def uT(c:Cust)(days:Int):Bool:=(c.D.all λp=>decide (vS p days<0))&&yb c.D.length 1 64
def wT(c:Cust):Bool:=decide (c.H=0/\c.size=0/\c.Q=0/\c.X=0/\c.Y=0)
def uU(c:Cust):Bool:=decide (c.X=1\/c.X=2)
def Zt(c:Cust):Bool:=decide (c.D.length=0/\c.O=0)
def Pu(c:Cust)(d:Int):PP 199 [.agg (ZV c d)] (B (yb c.O 1 2147483648)):=by refine c9 func199 λS nx a=>?_;intro v0;refine EJ ?_;refine zu (ZU _ _ _) ?_;exact EK a
def Pw(c:Cust)(d:Int):PP 202 [.agg (ZV c d)] (B (yb c.H 0 2147483648)):=by refine c9 func202 λS nx a=>?_;intro v0;refine EJ ?_;refine zu (ZU _ _ _) ?_;exact EK a
def Px(c:Cust)(d:Int):PP 203 [.agg (ZV c d)] (B (yb c.size 1 2147483648)):=by refine c9 func203 λS nx a=>?_;intro v0;refine EJ ?_;refine zu (ZU _ _ _) ?_;exact EK a
def Py(c:Cust)(d:Int):PP 204 [.agg (ZV c d)] (B (yb c.Q 0 c.size)):=by refine c9 func204 λS nx a=>?_;intro v0;refine EJ ?_;refine zu (ZU _ _ _) ?_;exact EK a
def Pz(c:Cust)(d:Int):PP 206 [.agg (ZV c d)] (B (yb c.Y 0 1024)):=by refine c9 func206 λS nx a=>?_;intro v0;refine EJ ?_;refine zu (ZU _ _ _) ?_;exact EK a
def PA(c:Cust)(d:Int):PP 205 [.agg (ZV c d)] (B (uU c)):=by refine c9 func205 λS nx a=>?_;intro v0;by_cases h:c.X=1;refine aF [(4,7)] (zq h zz) ?_;exact zj (zm a EB (by simp[uU,h,zr]));refine aF [(4,7)] h ?_;exact zj (zm a EB (by simp[uU,h,zr]))
def PB(c:Cust)(d:Int):PP 207 [.agg (ZV c d)] (B (Zt c)):=by refine c9 func207 λS nx a=>?_;intro v0;by_cases h:c.D=[];refine aF [(5,8)] h ?_;exact zj (zm a EB (by simp[Zt,h,zr]));refine aF [(5,8)] (zq h zz) ?_;exact zj (zm a EB (by simp[Zt,h,zr]))
def PC(c:Cust)(d:Int):PP 201 [.agg (ZV c d)] (B (wT c)):=by refine c9 func201 λS nx a=>?_;intro v0;by_cases h1:c.H=0;by_cases h2:c.size=0;by_cases h3:c.Q=0;by_cases b:c.X=0;refine aF [(4,7),(10,13),(16,19),(22,25)] (zM h1 h2 h3 b) ?_;exact zj (zm a EB (by simp[wT,h1,h2,h3,b,zr]));refine aF [(4,7),(10,13),(16,19),(22,25)] (yp h1 h2 h3 b zz) ?_;exact zj (zm a EB (by simp[wT,b,zr]));refine aF [(4,7),(10,13),(16,19),(22,25)] (zM h1 h2 h3 zz) ?_;exact zj (zm a EB (by simp[wT,h3,zr]));refine aF [(4,7),(10,13),(16,19),(22,25)] (zD h1 h2 zz) ?_;exact zj (zm a EB (by simp[wT,h2,zr]));refine aF [(4,7),(10,13),(16,19),(22,25)] (zq h1 zz) ?_;exact zj (zm a EB (by simp[wT,h1,zr]))
def PD(c:Cust)(d:Int)(f:∀p∈c.D,p<2^64)(hl:c.D.length<=9223372036854775807)(g:d<=1000):PP 200 [.agg (ZV c d)] (B (uT c d)):=by
 refine c9 func200 λS nx i=>?_;intro v0;refine ze (EJ ?_);refine zn (zF (λs:Nat=>s<=c.D.length/\∀p∈c.D.take s,vS p d<0) (λk=>[(1,.ptr nx v0 0),(7,L c.D),(8,I c.D.length),(9,I k)]) (λk=>[.cells v0 180 (ZV c d)]) (λs=>c.D.length-s) 0 [] EA EA EA ?_);rintro k ⟨j,ho⟩;simp only at j ho ⊢;refine EJ ?_;refine ze (zA rfl (λhc=>?_) (λhc=>?_));simp at hc;obtain⟨p,tl,l,n,a3,m⟩:=zH rfl c.D k hc;have b:=Ab l;refine zk (aA (aF [] (zq m hc) ?_));refine EJ ?_;refine zu (Pt p d (f p b) g) ?_;refine zA rfl (λh=>?_) (λh=>?_);simp at h;have a:uT c d=false:=by
  have:(c.D.all λp=>decide (vS p d<0))=false:=by rw[Bl];exact⟨p,b,by simp;omega⟩
  simp[uT,this]
 refine EJ ?_;exact zj (zm i EB (by simp[a,zr]));simp at h;refine zk (zg ?_);exact zv (k+1) [] ⟨hc,by rw[a3];intro q e;obtain e|e:=AC.1 e;exact ho q e;rw[AX.1 e];exact h⟩ D9 (by simp[zy k D9]) rfl EA;simp at hc;obtain rfl:k=c.D.length:=D9;rw[Ah]at ho;have a:uT c d=yb c.D.length 1 64:=by
  have:(c.D.all λp=>decide (vS p d<0))=true:=by rw[Av];intro p f;simpa using ho p f
  simp[uT,this]
 refine zB (EJ ?_);refine zu (ZU _ _ _) ?_;exact zj (zm i EB (by simp[a,zr]))
structure Must where
 f:FuncId
 b:Bool
instance:Enc Must:=⟨λm=>[.fn (.func m.f) [] []],1,λ_=>rfl,λ_=>rfl⟩
@[simp] theorem ZCS(m:Must):Enc.enc m=[.fn (.func m.f) [] []]:=rfl
@[simp high] theorem ZCT(l:List Must):(l.flatMap Enc.enc).length=l.length:=(ju l).trans (BK _)
def Qh(c:Cust)(d:Int)(k:Int):List Must :=
 if k=1 then [⟨199,yb c.O 1 2147483648⟩,⟨200,uT c d⟩,⟨201,wT c⟩]
 else if k=2 then [⟨202,yb c.H 0 2147483648⟩,⟨203,yb c.size 1 2147483648⟩,⟨204,yb c.Q 0 c.size⟩,
  ⟨205,uU c⟩,⟨206,yb c.Y 0 1024⟩,⟨207,Zt c⟩]
 else []
def PE(c:Cust)(d k:Int):PP 154 [I k] (L (Qh c d k)):=by refine c9 func154 λS nx a=>?_;refine ze (EJ ?_);refine zn (EJ ?_);refine zA rfl (λh=>?_) (λh=>?_);simp at h;subst h;refine EJ ?_;exact EK a;simp at h;refine EJ ?_;refine zA rfl (λh2=>?_) (λh2=>?_);simp at h2;subst h2;refine EJ ?_;exact EK a;simp at h2;refine zk (EJ ?_);refine Zh 2 rfl ?_;exact zj (zm a EB (by simp[Qh,h,h2,zr]))
def PF(c:Cust)(d:Int)(e:∀p∈c.D,p<2^64)(hl:c.D.length<=9223372036854775807)(a:d<=1000):∀m∈Qh c d c.kind,Pure prog m.f [.agg (ZV c d)] (B m.b):=by intro m hm;unfold Qh at hm;split at hm;simp only[Am,A9,or_false]at hm;obtain rfl|rfl|rfl:=hm;exact Pu c d;exact PD c d e hl a;exact PC c d;split at hm;simp only[Am,A9,or_false]at hm;obtain rfl|rfl|rfl|rfl|rfl|rfl:=hm;exact Pw c d;exact Px c d;exact Py c d;exact PA c d;exact Pz c d;exact PB c d;cases hm
def xI(c:Cust)(d:Int):Bool :=
 if c.kind=1 then (yb c.O 1 2147483648&&uT c d&&wT c)
 else if c.kind=2 then (yb c.H 0 2147483648&&yb c.size 1 2147483648&&yb c.Q 0 c.size&&uU c&&yb c.Y 0 1024&&Zt c) else false
def PG(c:Cust)(d:Int):xI c d=((Qh c d c.kind).all (·.b)&&decide (0<(Qh c d c.kind).length)):=by unfold xI Qh;split;simp[Bool.and_assoc];split;simp[Bool.and_assoc];simp
def PH(c:Cust)(d:Int)(j:∀p∈c.D,p<2^64)(hl:c.D.length<=9223372036854775807)(g:d<=1000):PP 118 [.agg (ZV c d)] (B (xI c d)):=by
 have a:=PF c d j hl g;have e:=PE c d c.kind;have h:(Qh c d c.kind).length<=6:=by unfold Qh;split;simp;split<;>simp
 rw[PG];generalize Qh c d c.kind=ms at a e h ⊢;refine c9 func118 λS nx i=>?_;intro v0;refine EJ ?_;refine zu e ?_;refine ze (EJ ?_);refine zn (zF (λs:Nat=>s<=ms.length/\(ms.take s).all (·.b)=true) (λk=>[(1,.ptr nx v0 0),(3,L ms),(10,L ms),(11,I ms.length),(12,I k)]) (λk=>[.cells v0 180 (ZV c d)]) (λs=>ms.length-s) 0 [] EA EA EA ?_);rintro k ⟨l,ho⟩;simp only at l ho ⊢;refine EJ ?_;refine ze (zA rfl (λhc=>?_) (λhc=>?_))
 .simp at hc;obtain⟨m,tl,n,q,a3,o⟩:=zH rfl ms k hc;have hm:=Ab n;refine zk (aA (aF [] (zq o hc) ?_));refine EJ ?_;refine zu (a m hm) ?_;cases hb:m.b with
  |false =>
  have f:ms.all (·.b)=false:=by rw[Bl];exact⟨m,hm,by simp[hb]⟩
  refine zo rfl (EJ ?_);exact zj (zm i EB (by simp only[f,zr,B0]))
  |true =>
  refine zp rfl (zk (zg ?_));exact zv (k+1) [] ⟨hc,by rw[a3,BN,ho];simp[hb]⟩ D9 (by simp[zy k D9]) rfl EA
 simp at hc;obtain rfl:k=ms.length:=D9;rw[Ah]at ho;refine zB (EJ ?_);exact zj (zm i EB (by simp[ho,zr]))
def vT(n:Nat):Nat->List (List Int)->Bool
 |_,[]=>true
 |a,row::l=>(decide (row.length=n)&&decide (row.getD a 0=0)&&row.all (yb · 0 2147483648))&&vT n (a+1) l
def ZW(l:List (List Int))(n:Nat):Bool:=decide (l.length=n)&&vT n 0 l
def yV(x:Inst):Bool :=
 yb x.days 1 64&&decide (x.y.length<=2000)&&yb x.U 0 2147483648&&yb x.R 0 2147483648&&yb x.len 0 2147483648&&x.y.all (xI · x.days)&&ZW x.J (x.y.length+1)
def PI(l:List (List Int))(n:Nat)(hn:n<=1048576)(hl:l.length<=9223372036854775807)(t:∀r∈l,r.length<=9223372036854775807):PP 119 [L l,I n] (B (ZW l n)):=by
 refine c9 func119 λS nx g=>?_;by_cases h:l.length=n;have h1:((l.length:Int)=n):=D9;refine ze (aF [] h1 ?_);refine aC ?_;refine ze (EJ ?_);refine zn (zF (λs:Nat=>s<=l.length/\vT n 0 l=vT n s (l.drop s)) (λk=>[(0,L l),(1,I n),(13,L l),(14,I l.length),(15,I k)]) (λk=>[]) (λs=>l.length-s) 0 [] EA (by simp[h1]) EA ?_);rintro k ⟨u,ho⟩;simp only at u ho ⊢;refine EJ ?_;refine ze (zA rfl (λhc=>?_) (λhc=>?_));simp at hc;obtain⟨row,tl,v,w,a3,x⟩:=zH rfl l k hc;have y:=t row (Ab v);rw[w]at ho;simp only[vT]at ho;refine zk (aA (aF [] (zq x hc) ?_));have bad:(row.length=n/\row.getD k 0=0->row.all (yb · 0 2147483648)=false)->ZW l n=false:=by intro q;simp only[ZW,ho];by_cases o:row.length=n;by_cases p:row.getD k 0=0;rw[q ⟨o,p⟩];simp;simp only[p,decide_false,CH,B0];simp only[o,decide_false,CH,B0]
 by_cases h2:row.length=n;have c:((row.length:Int)=n):=D9;have h3:k<n:=D9;obtain⟨d,z,b1,b2,b3,e2⟩:=zH rfl row k D9;have i:row.getD k 0=d:=by rw[Aa,b1];rfl
 by_cases m:d=0;refine ze (aF [(4,24)] (zM c h3 e2 m) ?_);refine aC (EJ ?_);refine zn (zF (λs:Nat=>s<=row.length/\(row.take s).all (yb · 0 2147483648)=true) (λj=>[(0,L l),(1,I n),(13,L l),(14,I l.length),(15,I k),(31,L row),(32,I row.length),(33,I j)]) (λk=>[]) (λs=>row.length-s) 0 [] EA (by simp[h1,c]) EA ?_);rintro j ⟨hj,f⟩;try simp only at hj f ⊢
 refine EJ ?_;refine ze (zA rfl (λb=>?_) (λb=>?_))
 .simp at b;obtain⟨e,a0,c1,c2,c3,e3⟩:=zH rfl row j b;refine zk (aA (aF [] (zq e3 b) ?_));refine EJ ?_;refine zu (ZU _ _ _) ?_;cases hb:yb e 0 2147483648 with
  |false =>
  have a:=bad (λ_=>by rw[Bl];exact⟨e,Ab c1,by simp[hb]⟩);refine zo rfl (EJ ?_);exact zj (zm g EB (by simp only[a,zr]))
  |true =>
  refine zp rfl (zk (zg ?_));exact zv (j+1) [] ⟨b,by rw[c3,BN,f];simp[hb]⟩ D9 (by simp[zy j D9]) rfl EA
 simp at b;obtain rfl:j=row.length:=D9;rw[Ah]at f;refine zB (zg ?_);exact zv (k+1) [] ⟨hc,by rw[ho,f,i];simp[h2,m]⟩ D9 (by simp[zy k D9]) rfl EA;have a:=bad (λq=>absurd (i.symm.trans q.2) m);refine ze (aF [(4,24)] (zM c h3 e2 m) ?_);refine zo (by simp[m]) ?_;refine EJ ?_;exact zj (zm g EB (by simp only[a,zr]));have a:=bad (λq=>absurd q.1 h2);have c:((row.length:Int) != (n:Int))=true:=ED;refine ze (aF [(4,24)] (zq c zz) ?_);refine aD ?_;refine EJ ?_;exact zj (zm g EB (by simp only[a,zr]));simp at hc;obtain rfl:k=l.length:=D9;simp only[Bh,vT]at ho;refine zB (EJ ?_);exact zj (zm g EB (by simp[ZW,h,ho,zr]));have h1:¬((l.length:Int)=n):=D9;refine ze (aF [] h1 ?_);refine zo (by simp[h1]) ?_;refine EJ ?_;exact zj (zm g EB (by simp[ZW,h,zr]))
def rT(x:Inst)(hx:InstOk x):PP 75 [.agg (zE x)] (I (if yV x=true then 0 else 3)):=by
 have i:=hx.ah;refine c9 func75 λS nx b=>?_;intro v0;by_cases a:yb x.days 1 64=true
 .have j:1<=x.days/\x.days<=64:=by simpa[yb] using a
  by_cases d:(2000:Int)<x.y.length;refine ze (aF [(4,11)] n' ?_);refine yK [(4,11)] (ZU _ _ _) (zq a d) ?_;refine aD ?_;refine EJ ?_;exact zj (zm b EB (by simp[yV,show ¬x.y.length<=2000 by omega,zr]));refine ze (aF [(4,11)] n' ?_);refine yK [(4,11)] (ZU _ _ _) (zq a d) ?_;refine aC ?_;refine ze (EJ ?_);refine zn (zF (λs:Nat=>s<=3/\(1<=s->yb x.U 0 2147483648=true)/\(2<=s->yb x.R 0 2147483648=true)/\(3<=s->yb x.len 0 2147483648=true)) (λk=>[(1,.ptr nx v0 0),(23,.lst 3 [I x.U,I x.R,I x.len]),(24,I 3),(25,I k)]) (λk=>[.cells v0 25 (zE x)]) (λs=>3-s) 0 [] EA EA EA ?_);rintro k ⟨h,i1,i2,i3⟩;simp only at h i1 i2 i3 ⊢
  match k,h with
  |0,_ =>
   refine EJ ?_;refine ze (zo rfl (zk (aA (EJ ?_))));refine EJ ?_;refine zu (ZU _ _ _) ?_;cases hb:yb x.U 0 2147483648 with
   |false =>
   refine zo rfl (EJ ?_);exact zj (zm b EB (by simp[yV,hb,zr]))
   |true =>
   refine zp rfl (zk (zg ?_));exact zv 1 [] (by simp[hb]) EA EB rfl EA
  |1,_ =>
   refine EJ ?_;refine ze (zo rfl (zk (aA (EJ ?_))));refine EJ ?_;refine zu (ZU _ _ _) ?_;cases hb:yb x.R 0 2147483648 with
   |false =>
   refine zo rfl (EJ ?_);exact zj (zm b EB (by simp[yV,hb,zr]))
   |true =>
   refine zp rfl (zk (zg ?_));exact zv 2 [] (by simp[hb,i1 D9]) EA EB rfl EA
  |2,_ =>
   refine EJ ?_;refine ze (zo rfl (zk (aA (EJ ?_))));refine EJ ?_;refine zu (ZU _ _ _) ?_;cases hb:yb x.len 0 2147483648 with
   |false =>
   refine zo rfl (EJ ?_);exact zj (zm b EB (by simp[yV,hb,zr]))
   |true =>
   refine zp rfl (zk (zg ?_));exact zv 3 [] (by simp[hb,i1 D9,i2 D9]) EA EB rfl EA
  |3,_ =>
  have l:=i1 D9;have m:=i2 D9;have n:=i3 D9;refine EJ ?_;refine ze (zp rfl (zB ?_));refine ze (EJ ?_);refine zn (zF (λs:Nat=>s<=x.y.length/\(x.y.take s).all (xI · x.days)=true) (λk=>[(1,.ptr nx v0 0),(34,L x.y),(35,I x.y.length),(36,I k)]) (λk=>[.cells v0 25 (zE x)]) (λs=>x.y.length-s) 0 [] EA EA EA ?_);rintro k ⟨h,ho⟩;try simp only at h ho ⊢
  refine EJ ?_;refine ze (zA rfl (λhc=>?_) (λhc=>?_))
  .simp at hc;obtain⟨c,tl,o,u,a3,_,p⟩:=el 8 rfl x.y k hc;have e:=Ab o;have f:=hx.y c e;refine zk (aA (aF [] (zq p hc) ?_));intro v1;refine EJ ?_;refine zu (PH c x.days f.D f.npats D9) ?_;cases hb:xI c x.days with
   |false =>
   have g:x.y.all (xI · x.days)=false:=by rw[Bl];exact⟨c,e,by simp[hb]⟩
   refine zo rfl (EJ ?_);exact zj (zm b EB (by simp[yV,g,zr]))
   |true =>
   refine zp rfl (zk (zg ?_));exact zv (k+1) [_] ⟨hc,by rw[a3,BN,ho];simp[hb]⟩ D9 (by simp[zy k D9]) rfl rfl
  simp at hc;obtain rfl:k=x.y.length:=D9;rw[Ah]at ho;have q:=zy x.y.length D9;refine zB ?_;refine ze (aF [] q ?_);refine zu (PI x.J (x.y.length+1) D9 hx.ndist (λr t=>(hx.J r t).1)) ?_;cases hb:ZW x.J (x.y.length+1) with
  |false =>
  refine zo rfl (EJ ?_);exact zj (zm b EB (by simp[yV,hb,zr]))
  |true =>
  refine zp rfl (zk (EJ ?_));exact zj (zm b EB (by simp[yV,hb,a,l,m,n,ho,show x.y.length<=2000 by omega,zr]))
 refine ze (aF [(4,11)] n' ?_);refine yK [(4,11)] (ZU _ _ _) (zq a zz) ?_;refine aD ?_;refine EJ ?_;exact zj (zm b EB (by simp[yV,a,zr]))
def PJ(n:Nat)(hn:n<2^64):PP 220 [U n] (L (yM n 0 64)):=by
 have hl:=Jw n;refine c9 func220 λS nx e=>?_;refine EJ ?_;refine ze (qa 3 3 1 rfl λv1=>?_);refine zg ?_;refine zu (fN n hn) ?_;refine ze (EJ ?_);refine zn (zF (λs:Nat × List Int × Nat=>s.1<=64/\s.2.1=yM n 0 s.1) (λ(k,out,v1)=>[(3,.sl nx v1 1 0 out.length),(4,L (qy n)),(5,I k)]) (λ(k,out,v1)=>[.cells v1 3 (out.flatMap Enc.enc)]) (λs=>64-s.1) (0,[],v1) [] (by simp[yM]) EA EA ?_);rintro⟨k,out,v1⟩ ⟨f,ho⟩;simp only at f ho ⊢;have g:out.length<=k:=by rw[ho];exact JR _ _ _
 have hs:=rR n 0 k D9;refine ze (EJ ?_);refine zA rfl (λhc=>?_) (λhc=>?_);simp at hc;have c:k<64:=D9;obtain⟨b,tl,d,i,a3,h⟩:=zH rfl (qy n) k D9;rw[fO n k c]at d;cases d;have g1:(k:Int)<64:=D9;refine zk (aA (aF [] (zD h hl g1) ?_));refine zA rfl (λhb=>?_) (λhb=>?_);have a:yR n k=1:=by simp at hb;omega
 refine zg ?_;refine⟨by omega,?_⟩;refine zg ?_;exact zv (k+1,out++[(k:Int)],v1+1) [] ⟨by omega,by rw[hs,if_pos a,ho]⟩ ED (by simp[zy k D9]) rfl EA;have a:¬yR n k=1:=by simp at hb;omega
 refine zk (zg ?_);exact zv (k+1,out,v1) [] ⟨by omega,by rw[hs,if_neg a,ho];simp⟩ ED (by simp[zy k D9]) rfl EA;simp at hc;obtain rfl:k=64:=D9;refine zB (EJ ?_);refine yc 0 rfl ?_;exact zj (zm e EB (by simp[ho,zr]))
theorem iA(n:Nat)(d:Int):yM n d.toNat 64=(yM n 0 64).filter λx=>decide (d<=x):=by simp only[yM,List.filter_map,List.filter_filter,Bx,decide_true,BP];congr 1;apply List.filter_congr;intro i _;have:(d.toNat<=i)=(d<=(i:Int)):=propext ⟨λh=>by omega,λh=>by omega⟩;simp only[Function.comp,this]
def PK(n:Nat)(d:Int)(hn:n<2^64):PP 167 [U n,I d] (I (vS n d)):=by
 have c:=JR n 0 64;have b:vS n d=((yM n 0 64).filter λx=>decide (d<=x)).headD (-1):=by rw[vS,iA]
 have a:=PJ n hn;generalize yM n 0 64=l at c b a;refine c9 func167 λS nx f=>?_;refine EJ ?_;refine zu a ?_;refine ze (EJ ?_);refine zn (zF (λs:Nat=>s<=l.length/\vS n d=((l.drop s).filter λx=>decide (d<=x)).headD (-1)) (λk=>[(1,I d),(5,L l),(6,I k)]) (λ_=>[]) (λs=>l.length-s) 0 [] (by simp[b]) EA EA ?_);rintro k ⟨j,ho⟩;refine ze (EJ ?_);refine zA rfl (λhc=>?_) (λhc=>?_);simp at hc;obtain⟨e,tl,m,i,a3,g⟩:=zH rfl l k hc;rw[i]at ho;refine zk (aA (aF [] (zq g hc) ?_));refine zA rfl (λh=>?_) (λh=>?_);simp at h;refine aF [] (zq g hc) ?_;exact zj (zm f EB (by rw[ho];simp[h,zr]));simp at h;refine zk (zg ?_);exact zv (k+1) [] ⟨hc,by rw[ho];simp[h]⟩ D9 (by simp[zy k D9]) rfl EA;simp at hc;obtain rfl:k=l.length:=D9;rw[Bh]at ho;refine zB (EJ ?_);exact zj (zm f EB (by rw[ho];rfl))
def iB(c:Cust)(d:Int)(h:c.kind=1):xI c d=(yb c.O 1 2147483648&&uT c d&&wT c):=by simp[xI,h]
def iC(c:Cust)(d:Int)(h:c.kind=2):xI c d=(yb c.H 0 2147483648&&yb c.size 1 2147483648&&yb c.Q 0 c.size&&uU c&&yb c.Y 0 1024&&Zt c):=by simp[xI,h]
def rU(c:Cust)(d:Int)(h:¬c.kind=1)(h2:¬c.kind=2):xI c d=false:=by simp[xI,h,h2]
def PL(c:Cust)(d:Int)(x:∀p∈c.D,p<2^64)(hl:c.D.length<=9223372036854775807):PP 134 [.agg (yf c),I d] (B (xI c d)):=by
 refine c9 func134 λS nx a=>?_;intro v0;refine ze (EJ ?_);refine zA rfl (λj=>?_) (λj=>?_)
 .simp at j;rw[iB c d j];by_cases h1:c.O<1;refine ze (aF [(3,12),(8,17),(14,23),(20,29),(25,34),(30,39),(35,44),(40,49)] (zq h1 zz) ?_);refine zo rfl (EJ ?_);exact zj (zm a rfl (by simp only[yb,show ¬(1<=c.O/\c.O<=2147483648) by omega];rfl));by_cases h2:(2147483648:Int)<c.O;refine ze (aF [(3,12),(8,17),(14,23),(20,29),(25,34),(30,39),(35,44),(40,49)] (zD h2 h1 zz) ?_);refine zo rfl (EJ ?_);exact zj (zm a rfl (by simp only[yb,show ¬(1<=c.O/\c.O<=2147483648) by omega];rfl));by_cases h3:c.D=[];refine ze (aF [(3,12),(8,17),(14,23),(20,29),(25,34),(30,39),(35,44),(40,49)] (zM h3 h1 h2 zz) ?_);refine zo rfl (EJ ?_);exact zj (zm a rfl (by simp[uT,h3,yb,zr]));have b:¬(c.D.length:Int)<1:=by have:=Bt.2 h3;omega
  by_cases e:(64:Int)<(c.D.length:Int);refine ze (aF [(3,12),(8,17),(14,23),(20,29),(25,34),(30,39),(35,44),(40,49)] (zN e h1 h2 h3 b zz) ?_);refine zo rfl (EJ ?_);exact zj (zm a rfl (by simp[uT,yb,zr,show ¬((c.D.length:Int)<=64) by omega]));by_cases f:c.H=0;case neg =>
   refine ze (aF [(3,12),(8,17),(14,23),(20,29),(25,34),(30,39),(35,44),(40,49)] (zN f h1 h2 h3 b (zq e zz)) ?_);refine zo rfl (EJ ?_);exact zj (zm a rfl (by simp[wT,f,zr]))
  by_cases i:c.size=0;case neg =>
   refine ze (aF [(3,12),(8,17),(14,23),(20,29),(25,34),(30,39),(35,44),(40,49)] (zN i h1 h2 h3 b (zD e f zz)) ?_);refine zo rfl (EJ ?_);exact zj (zm a rfl (by simp[wT,i,zr]))
  by_cases m:c.Q=0;case neg =>
   refine ze (aF [(3,12),(8,17),(14,23),(20,29),(25,34),(30,39),(35,44),(40,49)] (zN m h1 h2 h3 b (zM e f i zz)) ?_);refine zo rfl (EJ ?_);exact zj (zm a rfl (by simp[wT,m,zr]))
  by_cases n:c.X=0;case neg =>
   refine ze (aF [(3,12),(8,17),(14,23),(20,29),(25,34),(30,39),(35,44),(40,49)] (zN n h1 h2 h3 b (yp e f i m zz)) ?_);refine zo rfl (EJ ?_);exact zj (zm a rfl (by simp[wT,n,zr]))
  by_cases r:c.Y=0;case neg =>
   refine ze (aF [(3,12),(8,17),(14,23),(20,29),(25,34),(30,39),(35,44),(40,49)] (zN r h1 h2 h3 b (zN e f i m n zz)) ?_);refine zo rfl (EJ ?_);exact zj (zm a rfl (by simp[wT,r,zr]))
  refine ze (aF [(3,12),(8,17),(14,23),(20,29),(25,34),(30,39),(35,44),(40,49)] (zN h1 h2 h3 b e (yp f i m n r)) ?_);refine zp rfl (zk ?_);have l:(yb c.O 1 2147483648&&uT c d&&wT c)=c.D.all λp=>decide (vS p d<0):=by
   have t:yb c.O 1 2147483648=true:=by simp[yb];omega
   have e2:yb c.D.length 1 64=true:=by simp[yb];omega
   have u:wT c=true:=by simp[wT,f,i,m,n,r]
   rw[t,u,uT,e2];simp
  rw[l];refine ze (EJ ?_);refine zn (zF (λs:Nat=>s<=c.D.length/\(c.D.take s).all (λp=>decide (vS p d<0))=true) (λk=>[(1,I d),(2,.ptr nx v0 0),(5,I k)]) (λ_=>[.cells v0 59 (yf c)]) (λs=>c.D.length-s) 0 [] EA EA EA ?_);rintro k ⟨hk,ho⟩;refine ze (EJ ?_);refine zA rfl (λhc=>?_) (λhc=>?_);simp at hc;obtain⟨p,tl,y,a2,a3,z⟩:=zH rfl c.D k hc;have o:=Ab y;refine zk (aA (aF [] (zq z hc) ?_));refine zu (PK p d (x p o)) ?_;refine zA rfl (λh=>?_) (λh=>?_);simp at h;have v:(c.D.all λp=>decide (vS p d<0))=false:=by rw[Bl];exact⟨p,o,by simp;omega⟩
  refine EJ ?_;exact zj (zm a EB (by simp only[v,zr]));simp at h;refine zk (zg ?_);exact zv (k+1) [] ⟨hc,by rw[a3,BN,ho];simp[h]⟩ D9 (by simp[zy k D9]) rfl EA;simp at hc;obtain rfl:k=c.D.length:=D9;rw[Ah]at ho;refine zB (EJ ?_);exact zj (zm a EB (by rw[ho];rfl))
 simp at j;refine zk ?_;by_cases g:c.kind=2
 .rw[iC c d g];by_cases h1:0<c.D.length;refine ze (aF [(3,72),(9,78)] (zD h1 g zz) ?_);refine zo rfl (EJ ?_);exact zj (zm a rfl (by simp[Zt,List.ne_nil_of_length_pos h1,zr]));have w:c.D=[]:=As D9;by_cases h2:c.O=0;case neg =>
   refine ze (aF [(3,72),(9,78)] (zM h2 g h1 zz) ?_);refine zo rfl (EJ ?_);exact zj (zm a rfl (by simp[Zt,h2,zr]))
  refine ze (aF [(3,72),(9,78)] (zD g h1 h2) ?_);refine zp rfl (zk ?_);by_cases h3:c.H<0;refine ze (aF [(3,86),(8,91),(13,96),(18,101),(23,106)] (zq h3 zz) ?_);refine zo rfl (EJ ?_);exact zj (zm a rfl (by simp only[yb,show ¬(0<=c.H/\c.H<=2147483648) by omega];rfl));by_cases e:(2147483648:Int)<c.H;refine ze (aF [(3,86),(8,91),(13,96),(18,101),(23,106)] (zD e h3 zz) ?_);refine zo rfl (EJ ?_);exact zj (zm a rfl (by simp only[yb,show ¬(0<=c.H/\c.H<=2147483648) by omega];rfl));by_cases f:c.size<1;refine ze (aF [(3,86),(8,91),(13,96),(18,101),(23,106)] (zM f h3 e zz) ?_);refine zo rfl (EJ ?_);exact zj (zm a rfl (by simp[yb,zr,show ¬1<=c.size by omega]));by_cases i:(2147483648:Int)<c.size;refine ze (aF [(3,86),(8,91),(13,96),(18,101),(23,106)] (yp i h3 e f zz) ?_);refine zo rfl (EJ ?_);exact zj (zm a rfl (by simp[yb,zr,show ¬c.size<=2147483648 by omega]));by_cases m:c.Q<0;refine ze (aF [(3,86),(8,91),(13,96),(18,101),(23,106)] (zN m h3 e f i zz) ?_);refine zo rfl (EJ ?_);exact zj (zm a rfl (by simp[yb,zr,show ¬0<=c.Q by omega]));by_cases n:c.size<c.Q;refine ze (aF [(3,86),(8,91),(13,96),(18,101),(23,106)] (zN n h3 e f i (zq m zz)) ?_);refine zo rfl (EJ ?_);exact zj (zm a rfl (by simp[yb,zr,show ¬c.Q<=c.size by omega]));refine ze (aF [(3,86),(8,91),(13,96),(18,101),(23,106)] (zN h3 e f i m n) ?_);refine zp rfl (zk ?_);have l:(yb c.H 0 2147483648&&yb c.size 1 2147483648&&yb c.Q 0 c.size&&uU c&&yb c.Y 0 1024&&Zt c)=(uU c&&yb c.Y 0 1024):=by
   have t:yb c.H 0 2147483648=true:=by simp[yb];omega
   have e2:yb c.size 1 2147483648=true:=by simp[yb];omega
   have u:yb c.Q 0 c.size=true:=by simp[yb];omega
   have e4:Zt c=true:=by simp[Zt,w,h2]
   rw[t,e2,u,e4];simp
  rw[l];by_cases r1:c.X=1;by_cases r3:0<=c.Y;refine aF [(3,116),(8,121),(13,126)] (zD r1 r3 zz) ?_;exact zj (zm a EB (by simp[uU,r1,yb,r3,zr]));refine aF [(3,116),(8,121),(13,126)] (zD r1 r3 zz) ?_;exact zj (zm a EB (by simp[uU,r1,yb,r3,zr]));by_cases r2:c.X=2;by_cases r3:0<=c.Y;refine aF [(3,116),(8,121),(13,126)] (zM r1 r2 r3 zz) ?_;exact zj (zm a EB (by simp[uU,r2,yb,r3,zr]));refine aF [(3,116),(8,121),(13,126)] (zM r1 r2 r3 zz) ?_;exact zj (zm a EB (by simp[uU,r2,yb,r3,zr]));refine aF [(3,116),(8,121),(13,126)] (zD r1 r2 zz) ?_;exact zj (zm a EB (by simp[uU,r1,r2,zr]))
 rw[rU c d j g];have q:(c.kind != 2)=true:=by simpa using g
 refine ze (aF [(3,72),(9,78)] (zq q zz) ?_);refine zo rfl (EJ ?_);exact EK a
def rV(x:Inst)(hx:InstOk x):PP 92 [.agg (zE x)] (B (yV x)):=by
 have b8:=hx.ah;refine c9 func92 λS nx g=>?_;intro v0;refine EJ ?_;by_cases h1:x.days<1;refine ze (aF [(3,14),(8,19),(13,24),(18,29),(23,34),(28,39),(33,44),(38,49),(42,53)] (zq h1 zz) ?_);refine zo rfl (EJ ?_);exact zj (zm g rfl (by simp[yV,yb,zr,show ¬1<=x.days by omega]));by_cases h2:(64:Int)<x.days;refine ze (aF [(3,14),(8,19),(13,24),(18,29),(23,34),(28,39),(33,44),(38,49),(42,53)] (zD h2 h1 zz) ?_);refine zo rfl (EJ ?_);exact zj (zm g rfl (by simp[yV,yb,zr,show ¬x.days<=64 by omega]));by_cases h3:x.U<0;refine ze (aF [(3,14),(8,19),(13,24),(18,29),(23,34),(28,39),(33,44),(38,49),(42,53)] (zM h3 h1 h2 zz) ?_);refine zo rfl (EJ ?_);exact zj (zm g rfl (by simp[yV,yb,zr,show ¬0<=x.U by omega]));by_cases t:(2147483648:Int)<x.U;refine ze (aF [(3,14),(8,19),(13,24),(18,29),(23,34),(28,39),(33,44),(38,49),(42,53)] (yp t h1 h2 h3 zz) ?_);refine zo rfl (EJ ?_);exact zj (zm g rfl (by simp[yV,yb,zr,show ¬x.U<=2147483648 by omega]));by_cases u:x.R<0;refine ze (aF [(3,14),(8,19),(13,24),(18,29),(23,34),(28,39),(33,44),(38,49),(42,53)] (zN u h1 h2 h3 t zz) ?_);refine zo rfl (EJ ?_);exact zj (zm g rfl (by simp[yV,yb,zr,show ¬0<=x.R by omega]));by_cases z:(2147483648:Int)<x.R;refine ze (aF [(3,14),(8,19),(13,24),(18,29),(23,34),(28,39),(33,44),(38,49),(42,53)] (zN z h1 h2 h3 t (zq u zz)) ?_);refine zo rfl (EJ ?_);exact zj (zm g rfl (by simp[yV,yb,zr,show ¬x.R<=2147483648 by omega]));by_cases h7:x.len<0;refine ze (aF [(3,14),(8,19),(13,24),(18,29),(23,34),(28,39),(33,44),(38,49),(42,53)] (zN h7 h1 h2 h3 t (zD u z zz)) ?_);refine zo rfl (EJ ?_);exact zj (zm g rfl (by simp[yV,yb,zr,show ¬0<=x.len by omega]));by_cases h8:(2147483648:Int)<x.len;refine ze (aF [(3,14),(8,19),(13,24),(18,29),(23,34),(28,39),(33,44),(38,49),(42,53)] (zN h8 h1 h2 h3 t (zM u z h7 zz)) ?_);refine zo rfl (EJ ?_);exact zj (zm g rfl (by simp[yV,yb,zr,show ¬x.len<=2147483648 by omega]));by_cases h9:(2000:Int)<(x.y.length:Int);refine ze (aF [(3,14),(8,19),(13,24),(18,29),(23,34),(28,39),(33,44),(38,49),(42,53)] (zN h9 h1 h2 h3 t (yp u z h7 h8 zz)) ?_);refine zo rfl (EJ ?_);exact zj (zm g rfl (by simp[yV,zr,show ¬x.y.length<=2000 by omega]));have w1:=zy x.y.length D9;have l:i64.wrap ((x.y.length:Int)+1)=(x.y.length:Int)+1:=by rw[w1];omega
 by_cases m:(x.J.length:Int)=(x.y.length:Int)+1;case neg =>
  refine ze (aF [(3,14),(8,19),(13,24),(18,29),(23,34),(28,39),(33,44),(38,49),(42,53)] (zN h1 h2 h3 t u (zN z h7 h8 h9 m l)) ?_);refine zo (by simp[m]) ?_;refine EJ ?_;exact zj (zm g rfl (by simp[yV,ZW,zr,show ¬x.J.length=x.y.length+1 by omega]))
 have a0:x.J.length=x.y.length+1:=D9;refine ze (aF [(3,14),(8,19),(13,24),(18,29),(23,34),(28,39),(33,44),(38,49),(42,53)] (zN h1 h2 h3 t u (zN z h7 h8 h9 m l)) ?_);refine zp (by simp[m]) ?_;refine zk ?_;have e:yV x=(x.y.all (xI · x.days)&&vT (x.y.length+1) 0 x.J):=by
  have e1:yb x.days 1 64=true:=by simp[yb];omega
  have e2:yb x.U 0 2147483648=true:=by simp[yb];omega
  have e3:yb x.R 0 2147483648=true:=by simp[yb];omega
  have e4:yb x.len 0 2147483648=true:=by simp[yb];omega
  have e5:x.y.length<=2000:=D9;simp[yV,e1,e2,e3,e4,e5,ZW,a0]
 rw[e];clear e;refine ze (EJ ?_);refine zn (zF (λs:Nat=>s<=x.y.length/\(x.y.take s).all (xI · x.days)=true) (λk=>[(1,.ptr nx v0 0),(3,I x.y.length),(4,I k)]) (λ_=>[.cells v0 25 (zE x)]) (λs=>x.y.length-s) 0 [] EA EA EA ?_);rintro k ⟨hk,ho⟩;refine ze (EJ ?_);refine zA rfl (λhc=>?_) (λhc=>?_)
 .simp at hc;obtain⟨c,tl,a1,a2,a3,_,o⟩:=el 8 rfl x.y k hc;have a4:=Ab a1;have a5:=hx.y c a4;refine zk (aA (aG none Re (zq hc o) ?_));refine zK (PL c x.days a5.D a5.npats) n' ?_;refine EJ ?_;cases hb:xI c x.days with
  |false =>
  have p:x.y.all (xI · x.days)=false:=by rw[Bl];exact⟨c,a4,by simp[hb]⟩
  refine zo rfl (EJ ?_);exact zj (zm g EB (by simp only[p,zr,B0]))
  |true =>
  refine zp rfl (zk (zg ?_));exact zv (k+1) [] ⟨hc,by rw[a3,BN,ho];simp[hb]⟩ D9 (by simp[zy k D9]) rfl EA
 simp at hc;obtain rfl:k=x.y.length:=D9;rw[Ah]at ho;rw[ho,BP];refine zB ?_;refine ze (EJ ?_);generalize hn:x.y.length=n at *;refine zn (zF (λs:Nat=>s<=n+1/\vT (n+1) 0 x.J=vT (n+1) s (x.J.drop s)) (λk=>[(1,.ptr nx v0 0),(3,I n),(6,I k)]) (λ_=>[.cells v0 25 (zE x)]) (λs=>n+1-s) 0 [] EA EA EA ?_);rintro a ⟨ha,v⟩;refine ze (EJ ?_);refine zA rfl (λw=>?_) (λw=>?_)
 .simp at w;have f:a<x.J.length:=D9;obtain⟨row,tl,a1,a2,a3,o⟩:=zH rfl x.J a f;have b7:=hx.J row (Ab a1);rw[a2]at v;simp only[vT]at v;have bad:(row.length=n+1/\row.getD a 0=0->row.all (yb · 0 2147483648)=false)->vT (n+1) 0 x.J=false:=by intro q;rw[v];by_cases q1:row.length=n+1;by_cases q2:row.getD a 0=0;rw[q ⟨q1,q2⟩];simp;simp only[q2,decide_false,CH,B0];simp only[q1,decide_false,CH,B0]
  refine zk (aA ?_);by_cases h2:row.length=n+1;case neg =>
   have e:=bad (λq=>absurd q.1 h2);have i:¬((row.length:Int)=(n:Int)+1):=D9;refine ze (aF [] (zM f o i l) ?_);refine zo (by simp[i]) ?_;refine EJ ?_;exact zj (zm g EB (by simp only[e,zr]))
  have i:((row.length:Int)=(n:Int)+1):=D9;refine ze (aF [] (zM f o i l) ?_);refine zp (by simp[i]) ?_;refine zk (EJ ?_);refine zn (zF (λs:Nat=>s<=n+1/\(row.take s).all (yb · 0 2147483648)=true/\(a<s->row.getD a 0=0)) (λj=>[(1,.ptr nx v0 0),(3,I n),(6,I a),(7,I j)]) (λ_=>[.cells v0 25 (zE x)]) (λs=>n+1-s) 0 [] EA EA EA ?_);rintro b ⟨hb,r,p⟩;refine ze (EJ ?_);refine zA rfl (λy=>?_) (λy=>?_);simp at y;have h:b<row.length:=D9;obtain⟨d,c6,b1,b2,b3,e2⟩:=zH rfl row b h;have a6:=Ab b1;have c7:b<n+1:=D9;refine zk (aA ?_);by_cases g1:d<0;have e:=bad (λ_=>by rw[Bl];exact⟨d,a6,by simp[yb];omega⟩);refine aF [(9,104),(20,115),(24,119)] (zN f o h e2 g1 zz) ?_;refine zo rfl (EJ ?_);exact zj (zm g EB (by simp only[e,zr]));by_cases g2:(2147483648:Int)<d;have e:=bad (λ_=>by rw[Bl];exact⟨d,a6,by simp[yb];omega⟩);refine aF [(9,104),(20,115),(24,119)] (zN f o h e2 g1 (zq g2 zz)) ?_;refine zo rfl (EJ ?_);exact zj (zm g EB (by simp only[e,zr]));have a7:yb d 0 2147483648=true:=by simp[yb];omega
  by_cases g3:a=b;subst g3;have a8:row.getD a 0=d:=by rw[Aa,b1];rfl
  by_cases g4:d=0;refine aF [(9,104),(20,115),(24,119)] (zN f o h e2 g1 (zq g2 g4)) ?_;refine aC (zg ?_);exact zv (a+1) [] ⟨by omega,by rw[b3,BN,r];simp[a7],λ_=>a8.trans g4⟩ D9 (by simp[zy a D9]) rfl EA;have e:=bad (λq=>absurd (a8.symm.trans q.2) g4);refine aF [(9,104),(20,115),(24,119)] (zN f o h e2 g1 (zq g2 g4)) ?_;refine zo (by simp[g4]) ?_;refine EJ ?_;exact zj (zm g EB (by simp only[e,zr]));have a9:¬((a:Int)=(b:Int)):=D9;refine aF [(9,104),(20,115),(24,119)] (zN f o h e2 g1 (zM g2 g3 a9 zz)) ?_;refine aC (zg ?_);exact zv (b+1) [] ⟨by omega,by rw[b3,BN,r];simp[a7],λq=>p D9⟩ D9 (by simp[zy b D9]) rfl EA;simp at y;obtain rfl:b=n+1:=D9;rw[Ad D9]at r;have h0:=p D9;refine zB (zg ?_);exact zv (a+1) [] ⟨by omega,by rw[v,r,h0];simp[h2]⟩ D9 (by simp[zy a D9]) rfl EA
 simp at w;obtain rfl:a=n+1:=D9;rw[AS D9]at v;simp only[vT]at v;refine zB (EJ ?_);exact zj (zm g EB (by simp[v,zr]))
abbrev dB(x:Inst)(p:zG)(i:Int):List PV:=[I x.days,I x.U,I x.R,I x.len,L x.y,L x.J,L p,I i]
def WZ(c:Cust)(v:List Visit):Int:=if (v.any λs=>decide (s.q≠c.O))=true then 9 else if ux (v.map (·.d))∈c.D then 0 else 10
def vz(x:Inst)(p:zG)(i:Nat):Int :=
 match x.y[i]? with
 |none=>5
 |some c=>if c.kind=2 then uy c (yN (yJ i (told 0 p)) x.days) else WZ c (yJ i (told 0 p))
structure Serves (x:Inst) (p:zG):Prop where
 sz:PlanOk p
 q:∀s∈told 0 p,0<=s.1.q/\s.1.q<=2147483648
 days:p.length<=64
theorem rW:∀(p:zG) (i:Nat) (x:Stop × Nat),x∈told i p->i<=x.2/\x.2<i+p.length
 |[],_,_,h=>by cases h
 |d::p,i,x,h=>by simp only[told,AC,Ak]at h;simp only[Ae];obtain⟨s,_,rfl⟩|h:=h;simp only;omega;have:=rW p (i+1) x h;omega
variable {x:Inst}{p:zG}
def dC(h:Serves x p)(c:Int):VisOk (yJ c (told 0 p))/\∀s∈yJ c (told 0 p),0<=s.d/\s.d<=63:=by
 have a:∀s∈yJ c (told 0 p),(0<=s.q/\s.q<=2147483648)/\0<=s.d/\s.d<=63:=by intro s hs;simp only[yJ,Ak,Bu]at hs;obtain⟨y,⟨b,_⟩,rfl⟩:=hs;have h1:=h.q y b;have h2:=rW p 0 y b;have h3:=h.days;simp only;omega
 exact⟨⟨AF (io _ _) h.sz.ak,λs hs=>(a s hs).1,λs hs=>by have:=(a s hs).2;unfold zU;omega⟩,λs hs=>(a s hs).2⟩
def rX(x:Inst)(p:zG)(i:Nat)(h:Serves x p):PP 81 [.agg (dB x p i)] (L (yN (yJ i (told 0 p)) x.days)):=by have h1:=iq p i h.sz;have h2:=rM _ x.days (dC h i).1;generalize yN (yJ i (told 0 p)) x.days=q at h2 ⊢;generalize yJ i (told 0 p)=v at h1 h2;refine c9 func81 λS nx a=>?_;intro v0;refine aG (some [nx]) Ri n' ?_;refine zK (h1) n' ?_;refine zK (h2) n' ?_;exact EK a
def PM(x:Inst)(p:zG)(i:Nat)(c:Cust)(h:Serves x p)(hc:x.y[i]?=some c)(hf:CustFits c):PP 127 [.agg (dB x p i)] (I (uy c (yN (yJ i (told 0 p)) x.days))):=by
 have h1:=rX x p i h;have a:i<x.y.length:=(Af.1 hc).1;obtain⟨b,tl,d,g,a3,_,e⟩:=el 8 rfl x.y i a;obtain rfl:b=c:=by rw[d]at hc;exact inj hc
 have h2:=rK b (yN (yJ i (told 0 p)) x.days) hf (by rw[aw];omega);generalize yN (yJ i (told 0 p)) x.days=q at h1 h2 ⊢;refine c9 func127 λS nx f=>?_;intro v0;refine aG (some [nx]) Rl (zq a e) ?_;refine zK (h1) n' ?_;refine zK (h2) n' ?_;exact EK f
def PN(x:Inst)(p:zG)(i:Nat)(c:Cust)(h:Serves x p)(hc:x.y[i]?=some c)(l:c.D.length<=1048576):PP 126 [.agg (dB x p i)] (I (WZ c (yJ i (told 0 p)))):=by
 have h1:=iq p i h.sz;have h2:=ON p i h.sz;have e:=(dC h i).1.n;have f:i<x.y.length:=(Af.1 hc).1;obtain⟨b,tl,r,w,a3,_,t⟩:=el 8 rfl x.y i f;obtain rfl:b=c:=by rw[r]at hc;exact inj hc
 generalize yJ i (told 0 p)=v at h1 h2 e ⊢;have h3:=OO (v.map (·.d)) (by simpa using e);have o:=OQ b.D (ux (v.map (·.d))) l;unfold WZ;generalize ux (v.map (·.d))=set at h3 o ⊢;refine c9 func126 λS nx m=>?_;intro v0;refine aF [] (zq f t) ?_;intro v1;refine ze (EJ ?_);refine zu h1 ?_;refine zn (zF (λs:Nat=>s<=v.length/\((v.take s).any λs=>decide (s.q≠b.O))=false) (λk=>[(1,.ptr nx v0 0),(3,.ptr (nx+1) v1 0),(18,L v),(19,I v.length),(20,I k)]) (λ_=>[.cells v0 140 (dB x p i),.cells v1 59 (yf b)]) (λs=>v.length-s) 0 [] EA EA EA ?_);rintro k ⟨y,ho⟩;refine EJ ?_;refine ze (zA rfl (λa=>?_) (λa=>?_));simp at a;obtain⟨s,u,b1,b2,b3,z,e2⟩:=el 2 rfl v k a;refine zk (aA (aF [] (zq a e2) ?_));intro v2;by_cases j:s.q=b.O;refine aF [] j ?_;refine aC (zg ?_);exact zv (k+1) [_] ⟨a,by rw[b3,Dp,ho];simp[j]⟩ D9 (by simp[zy k D9]) rfl rfl;have g:(v.any λs=>decide (s.q≠b.O))=true:=by rw[BX];exact⟨s,Ab b1,by simpa using j⟩
 refine aF [] j ?_;refine aD ?_;refine EJ ?_;exact zj (zm m EB (by rw[if_pos g];rfl));simp at a;obtain rfl:k=v.length:=D9;rw[Ah]at ho;refine zB (EJ ?_);refine zu h2 ?_;refine zu h3 ?_;refine ze (EJ ?_);refine zu o ?_;by_cases hm:set∈b.D;refine zp (by simp[hm]) ?_;refine zk (EJ ?_);exact zj (zm m EB (by rw[ho];simp[hm,zr]));refine zo (by simp[hm]) ?_;refine EJ ?_;exact zj (zm m EB (by rw[ho];simp[hm,zr]))
structure CustsOk (x:Inst):Prop where
 n:x.y.length<=1048576
 kind:∀c∈x.y,c.kind=1\/c.kind=2
 ad:∀c∈x.y,CustFits c
 D:∀c∈x.y,c.D.length<=1048576
 vM:∀c∈x.y,∀p∈c.D,p<2^64
def PQ(x:Inst)(p:zG)(i:Nat)(h:Serves x p)(hx:CustsOk x)(hi:i<x.y.length):PP 79 [.agg (zE x),.agg [L p],I i] (I (vz x p i)):=by
 obtain⟨c,tl,m,r,a3,_,n⟩:=el 8 rfl x.y i hi;have j:=Ab m;have k:vz x p i=if c.kind=2 then uy c (yN (yJ i (told 0 p)) x.days) else WZ c (yJ i (told 0 p)):=by simp only[vz,m]
 rw[k];have q:¬(i:Int)<0:=D9;have g1:¬(x.y.length:Int)<=(i:Int):=D9;refine c9 func79 λS nx o=>?_;intro v0 v1;refine ze (aF [(2,12)] (zD q g1 hi) ?_);refine aC (ze (x8 [] EF EF λK Gc Gh g d b X a f=>?_));simp -implicitDefEqProofs [a,f];try clear a f X
 intro s;refine b _ _ _ _ _ λe=>QM (.inr rfl) underlying190 underlying3 rfl (by simp;exact⟨rfl,rfl⟩) EB EB (by simp[j5];rfl) ?_;refine⟨_,_,yu _ D9 EA,?_⟩;clear d b;clear Gc Gh;refine vr e (D:=[]) EF λGc Gh d b X a f=>?_;simp -implicitDefEqProofs [a,f];clear a f X;refine b _ _ _ _ _ λe=>QM (.inr rfl) underlying190 underlying3 rfl (by simp;exact⟨rfl,rfl⟩) EB EB (by simp[j5,jO];rfl) ?_;refine⟨_,_,yu _ D9 EA,?_⟩;clear d b;clear Gc Gh;refine vr e (D:=[]) EF λGc Gh d b X a f=>?_;simp -implicitDefEqProofs [a,f,jO];clear a f X;refine g _ _ _ ?_;clear g d b;clear K Gc Gh;obtain l|l:=hx.kind c j;refine ze (x8 [] EF EF λK Gc Gh g d b X a f=>?_);simp -implicitDefEqProofs [a,f,hi,n,l];try clear a f X
 refine b _ _ _ _ _ λe=>Ys rfl underlying190 underlying3 rfl (by simp;exact⟨rfl,rfl⟩) EB EB (by simp[j5,jO];rfl) EB ?_;refine⟨_,_,rfl,?_⟩;clear d b;clear Gc Gh;refine vr e (D:=[]) EF λGc Gh d b X a f=>?_;simp -implicitDefEqProofs [a,f,Y0];clear a f X;refine g _ _ _ ?_;clear g d b;clear K Gc Gh;refine ze (EJ ?_);refine aC (EJ ?_);refine zu (PN x p i c h m (hx.D c j)) ?_;exact zj (zm o EB (by simp[l,zr]));refine ze (x8 [] EF EF λK Gc Gh g d b X a f=>?_);simp -implicitDefEqProofs [a,f,hi,n,l];try clear a f X
 refine b _ _ _ _ _ λe=>Ys rfl underlying190 underlying3 rfl (by simp;exact⟨rfl,rfl⟩) EB EB (by simp[j5,jO];rfl) EB ?_;refine⟨_,_,rfl,?_⟩;clear d b;clear Gc Gh;refine vr e (D:=[]) EF λGc Gh d b X a f=>?_;simp -implicitDefEqProofs [a,f,Y0];clear a f X;refine g _ _ _ ?_;clear g d b;clear K Gc Gh;refine ze (EJ ?_);refine aC (EJ ?_);refine zu (PM x p i c h m (hx.ad c j)) ?_;exact zj (zm o EB (by simp[l,zr]))
theorem iD:∀(l:List Int),(∀b∈l,b=0\/b=1)->∀i:Nat,(xF l).toNat.testBit i=decide (l[i]?=some 1)
 |[],_,i=>by simp[xF]
 |b::l,h,i=>by
  have hl:∀b∈l,b=0\/b=1:=λx hx=>h x (by simp[hx]);have h0:=(cB l hl).1;have hb:=h b EA;have hn:xF (b::l)=2*xF l+b:=rfl;cases i with
  |zero =>
  rw[Nat.testBit_zero,hn];simp only[Bi,injEq];apply decide_eq_decide.2;omega
  |succ i =>
  rw[Nat.testBit_succ,hn];have:(2*xF l+b).toNat/2=(xF l).toNat:=D9;rw[this,iD l hl i];simp
def W0(n i:Nat):n.testBit i=decide (yR n i=1):=by rw[CX];rfl
def rY(n d:Nat)(hn:n<2^64)(c:d<64):Wz n d=jz n d:=by
 have a:∀b∈(qy n).set d 1,b=0\/b=1:=λb hb=>by obtain h|h:=fQ hb;exact fL n b h;exact .inr h
 apply Dg;intro i;unfold Wz VX jz;rw[iD _ a,if_pos D9,Dz,AN,CL,BG];have hl:=Jw n;by_cases h:d=i;subst h;simp[hl,c];rw[if_neg h];by_cases hi:i<64;rw[fO n i hi,W0];simp[h];omega;rw[An D9];have:n.testBit i=false:=Cw (Br hn (BS EG D9));simp[this,h]
def PR(x:Inst)(p:zG)(i:Nat)(h:Serves x p)(hx:CustsOk x)(hi:i<x.y.length):PP 94 [.agg (zE x),.agg [L p],I i] (I (vz x p i)):=by
 obtain⟨c,tl,a1,a2,a3,_,e0⟩:=el 8 rfl x.y i hi;have o:=Ab a1;have r:vz x p i=if c.kind=2 then uy c (yN (yJ i (told 0 p)) x.days) else WZ c (yJ i (told 0 p)):=by simp only[vz,a1]
 rw[r];have g0:¬(i:Int)<0:=D9;have g1:¬(x.y.length:Int)<=(i:Int):=D9;have t:=rQ p i h.sz;obtain⟨f,u⟩:=dC h i;generalize yJ (i:Int) (told 0 p)=v at t f u;have a8:=f.n;refine c9 func94 λS nx hd=>?_;intro v0 v1;refine ze (aF [(2,14)] (zD g0 g1 hi) ?_);refine aC (aF [] (zq hi e0) ?_);intro m;refine EJ ?_;refine zu t ?_;refine ze (EJ ?_);by_cases hk:c.kind=2;have hb:=rP v x.days f;have hh:=Po c (yN v x.days) (hx.ad c o) (by rw[aw];omega);generalize yN v x.days=q at hb hh ⊢;refine zo (by simp[hk]) ?_;refine aG (some [nx,nx+2]) RJ n' ?_;refine zK (hb) n' ?_;refine zK (hh) n' ?_;exact zj (zm hd EB (by simp[hk,zr]));have a9:=hx.D c o;rw[if_neg hk];unfold WZ;refine zp (by simp[hk]) ?_;refine zk (EJ ?_);refine ze (EJ ?_);refine qg (nx:=nx) (σ:=Unit) (λ_=>(v.any λs=>decide (s.q≠c.O))=false) (λ_=>[(7,.ptr (nx+2) m 0),(9,U (ux (v.map (·.d))))]) (λ_=>S) (λ_=>[.cells v0 25 (zE x),.cells v1 31 [L p],.cells m 59 (yf c)]) ?_ ?_;refine zn (zF (λs:Nat=>s<=v.length/\((v.take s).any λs=>decide (s.q≠c.O))=false) (λk=>[(7,.ptr (nx+2) m 0),(8,L v),(9,U (ux ((v.map (·.d)).take k))),(10,I k)]) (λ_=>[.cells v0 25 (zE x),.cells v1 31 [L p],.cells m 59 (yf c)]) (λs=>v.length-s) 0 [] EA (by simp[ux]) EA ?_);rintro k ⟨a0,ho⟩;refine ze (EJ ?_);refine zA rfl (λa=>?_) (λa=>?_);simp at a;obtain⟨s,a4,b1,b2,b3,e1,e2⟩:=el 2 rfl v k a;have w:=e1 1 D9;have hs:=u s (Ab b1);have y:=rE ((v.map (·.d)).take k);refine zk (aA ?_);by_cases b:s.q=c.O;refine ze (aG (some [nx+2]) Rh (zD a w b) ?_);refine aC ?_;obtain⟨dn,g⟩:=Az hs.1;have j:=ng (ux ((v.map (·.d)).take k)) s.d y hs.1 hs.2;rw[(fR _ _).1,g,AN,rY _ dn y D9]at j;have a5:jz (ux ((v.map (·.d)).take k)) dn=ux ((v.map (·.d)).take (k+1)):=by rw[<-map_take,<-map_take,b3];simp[ux,g]
 rw[a5]at j;refine zi [] (zD a e2 g) ?_;refine zu j ?_;refine zg ?_;exact zv (k+1) [] ⟨a,by rw[b3,Dp,ho];simp[b]⟩ D9 (by simp[zy k D9]) rfl EA;have z:(v.any λs=>decide (s.q≠c.O))=true:=by rw[BX];exact⟨s,Ab b1,by simpa using b⟩
 refine ze (aG (some [nx+2]) Rh (zD a w b) ?_);refine zo (by simp[b]) ?_;refine EJ ?_;exact zj (zm hd EB (by rw[if_pos z];rfl));simp at a;obtain rfl:k=v.length:=D9;rw[Ah]at ho;have a6:(v.map (·.d)).take v.length=v.map (·.d):=Ad EA;exact zB (zY () [] ho (by simp[a6]) rfl EA);intro _ ho;rw[ho];generalize ux (v.map (·.d))=set;refine ze (EJ ?_);refine zn (zF (λs:Nat=>s<=c.D.length/\set ∉ c.D.take s) (λk=>[(7,.ptr (nx+2) m 0),(9,U set),(11,I k)]) (λ_=>[.cells v0 25 (zE x),.cells v1 31 [L p],.cells m 59 (yf c)]) (λs=>c.D.length-s) 0 [] EA EA EA ?_);rintro k ⟨a0,l⟩;refine ze (EJ ?_);refine zA rfl (λa=>?_) (λa=>?_);simp at a;obtain⟨q,a4,b1,b2,b3,e2⟩:=zH rfl c.D k a;refine zk (aA ?_);by_cases b:q=set;subst b;refine aF [] (zq a e2) ?_;refine aD ?_;refine EJ ?_;exact zj (zm hd EB (by simp[Ab b1,zr]));have a7:¬((q:Int)=(set:Int)):=D9;refine aF [] (zM a e2 b a7) ?_;refine aC (zg ?_);exact zv (k+1) [] ⟨a,by rw[b3];simp;exact⟨l,λe=>b e.symm⟩⟩ D9 (by simp[zy k D9]) rfl EA;simp at a;obtain rfl:k=c.D.length:=D9;rw[Ah]at l;refine zB (EJ ?_);exact zj (zm hd EB (by simp[l,zr]))
def jA:List Int->Int
 |[]=>0
 |e::l=>if e≠0 then e else jA l
def W3{l:List Int}(h:∀e∈l,e=0):jA l=0:=by
 induction l with
 |nil=>rfl
 |cons e l a=>simp only[jA,h e EA,ne_eq,not_true,if_false];exact a λx hx=>h x (by simp[hx])
variable {e:Int}
def ay{l:List Int}{k:Nat}(h:∀e∈l.take k,e=0)(b:l[k]?=some e)(c:e≠0):jA l=e:=by
 induction l generalizing k with
 |nil=>cases b
 |cons a l d =>
 cases k with
 |zero=>simp at b;subst b;simp[jA,c]
 |succ k =>
 simp only[jA,h a EA,ne_eq,not_true,if_false];exact d (k:=k) (λx hx=>h x (by rw[CK];simp[hx])) (by simpa using b)
def iE(l:List Int):jA l=0<->∀e∈l,e=0:=by
 refine⟨λh=>?_,W3⟩;induction l with
 |nil=>intro e c;cases c
 |cons a l d =>
 simp only[jA]at h;split at h;rename_i b;exact absurd h b;rename_i b;intro e c;obtain rfl|c:=Am.1 c;simpa using b;exact d h e c
def xJ(x:Inst)(p:zG):Int :=
 if yV x=false then 3 else if (p.length:Int)≠x.days then 1 else if jA (p.map (yx x))≠0 then jA (p.map (yx x)) else jA ((range x.y.length).map (vz x p))
structure PlanSz (p:zG):Prop where
 ok:PlanOk p
 f:∀d∈p,d.flatten.length<=1048576
theorem dD:∀(p:zG) (i:Nat) (x:Stop × Nat),x∈told i p->∃d∈p,x.1∈d.flatten
 |[],_,_,h=>by cases h
 |d::p,i,x,h=>by simp only[told,AC,Ak]at h;obtain⟨s,hs,rfl⟩|h:=h;exact⟨d,by simp,hs⟩;obtain⟨a,h1,h2⟩:=dD p (i+1) x h;exact⟨a,by simp[h1],h2⟩
variable {d:zt}
def W4(h:yx x d=0):∀s∈d.flatten,jx x s=true:=by
 intro s hs;obtain⟨t,b,a⟩:=BA.1 hs;have hm:yd x t=0:=by unfold yx at h;split at h;rename_i u c;have:=List.find?_some c;simp[h]at this;rename_i hn;rw[List.find?_eq_none]at hn;simpa using hn t b
 have:jH x t=true:=by by_cases q:jH x t=true;exact q;simp[yd,q]at hm
 unfold jH at this;simp only[Ar,Av]at this;exact this.1 s a
def rZ(e:PlanSz p)(hx:InstOk x)(hm:yV x=true)(c:(p.length:Int)=x.days)(h0:∀d∈p,yx x d=0):Serves x p:=by
 have a:1<=x.days/\x.days<=64:=by unfold yV at hm;simp only[Ar]at hm;have:=hm.1.1.1.1.1.1;simpa[yb] using this
 refine⟨e.ok,λs hs=>?_,by omega⟩;obtain⟨d,c,b⟩:=dD p 0 s hs;have:=W4 (h0 d c) s.1 b;simp[jx]at this;omega
def sd(hx:InstOk x)(hm:yV x=true):CustsOk x:=by
 unfold yV at hm;simp only[Ar,decide_eq_true_eq,Av]at hm;obtain⟨⟨⟨⟨⟨⟨_,h1⟩,_⟩,_⟩,_⟩,h2⟩,_⟩:=hm;have d:∀c∈x.y,c.kind=1\/c.kind=2:=λc hc=>by have:=h2 c hc;by_cases k1:c.kind=1;exact .inl k1;by_cases e:c.kind=2;exact .inr e;rw[rU c _ k1 e]at this;cases this
 refine⟨by omega,d,λc hc=>?_,λc hc=>?_,λc hc=>(hx.y c hc).D⟩;have hb:=h2 c hc;obtain k|k:=d c hc;rw[iB c _ k]at hb;simp only[Ar,wT,decide_eq_true_eq]at hb;obtain⟨_,a,b,c,_⟩:=hb;exact⟨by omega,by omega,by omega⟩;rw[iC c _ k]at hb;simp only[Ar,yb,decide_eq_true_eq]at hb;obtain⟨⟨⟨⟨⟨a,b⟩,c⟩,_⟩,_⟩,_⟩:=hb;exact⟨by omega,by omega,by omega⟩;have hb:=h2 c hc;obtain k|k:=d c hc;rw[iB c _ k]at hb;simp only[Ar,uT,yb,decide_eq_true_eq]at hb;omega;rw[iC c _ k]at hb;simp only[Ar,Zt,decide_eq_true_eq]at hb;omega
def se(x:Inst)(p:zG)(hx:InstOk x)(l:PlanSz p):PP 45 [.agg (zE x),.agg [L p]] (I (xJ x p)):=by
 have z:=l.ok.n;refine c9 func45 λS nx m=>?_;intro v0 v1;refine ze (EJ ?_);refine zu (rT x hx) ?_;cases hm:yV x with
 |false =>
 refine aD ?_;refine EJ ?_;exact zj (zm m EB (by simp[xJ,hm,zr]))
 |true =>
 have o:=sd hx hm;have r:=o.n;refine aC ?_;by_cases a:(p.length:Int)=x.days;case neg =>
  refine ze (aF [] a ?_);refine zo (by simp[a]) ?_;refine EJ ?_;exact zj (zm m EB (by simp[xJ,hm,a,zr]))
 have c:xJ x p=if jA (p.map (yx x))≠0 then jA (p.map (yx x)) else jA ((range x.y.length).map (vz x p)):=by simp[xJ,hm,a]
 refine ze (aF [] a ?_);refine zp (by simp[a]) ?_;refine zk ?_;refine ze (EJ ?_);refine qg (nx:=nx) (σ:=Unit) (λ_=>∀d∈p,yx x d=0) (λ_=>[(2,.ptr nx v0 0),(3,.ptr (nx+1) v1 0)]) (λ_=>S) (λ_=>[.cells v0 25 (zE x),.cells v1 31 [L p]]) ?_ ?_;refine zn (zF (λs:Nat=>s<=p.length/\∀d∈p.take s,yx x d=0) (λk=>[(2,.ptr nx v0 0),(3,.ptr (nx+1) v1 0),(20,L p),(21,I p.length),(22,I k)]) (λ_=>[.cells v0 25 (zE x),.cells v1 31 [L p]]) (λs=>p.length-s) 0 [] EA (by simp[a]) EA ?_);rintro k ⟨hk,ho⟩;refine EJ ?_;refine ze (zA rfl (λhc=>?_) (λhc=>?_));simp at hc;obtain⟨d,tl,y,a2,a3,e0⟩:=zH rfl p k hc;have j:=Ab y;refine zk (aA (aF [] (zq hc e0) ?_));intro v2;refine EJ ?_;refine zu (fZ x d r (l.ok.d d j) (l.ok.t d j) (l.f d j)) ?_;by_cases h0:yx x d=0;refine aF [] h0 ?_;refine zp (by simp[h0]) ?_;refine zk (zg ?_);exact zv (k+1) [_] ⟨hc,λe b=>by rw[a3]at b;obtain b|b:=AC.1 b;exact ho e b;rw[AX.1 b];exact h0⟩ D9 (by simp[zy k D9]) rfl rfl;have hf:jA (p.map (yx x))=yx x d:=ay (k:=k) (λe b=>by rw[<-map_take]at b;obtain⟨u,g,rfl⟩:=Ak.1 b;exact ho u g) (by rw[Ai,y];rfl) h0;refine aF [] h0 ?_;refine zo (by simp[h0]) ?_;refine EJ ?_;exact zj (zm m EB (by rw[c,hf];simp[h0,zr]));simp at hc;obtain rfl:k=p.length:=D9;rw[Ah]at ho;exact zB (zY () [] ho EA rfl EA);intro _ h;have v:=rZ l hx hm a h;have w:jA (p.map (yx x))=0:=W3 λe b=>by obtain⟨u,g,rfl⟩:=Ak.1 b;exact h u g
 rw[w]at c;simp only[ne_eq,not_true,if_false]at c;rw[c];refine ze (EJ ?_);refine zn (zF (λs:Nat=>s<=x.y.length/\∀i<s,vz x p i=0) (λk=>[(2,.ptr nx v0 0),(3,.ptr (nx+1) v1 0),(35,I x.y.length),(36,I k)]) (λ_=>[.cells v0 25 (zE x),.cells v1 31 [L p]]) (λs=>x.y.length-s) 0 [] EA EA EA ?_);rintro k ⟨hk,ho⟩;refine EJ ?_;refine ze (zA rfl (λhc=>?_) (λhc=>?_));simp at hc;refine zk (aA (EJ ?_));refine EJ ?_;refine zu (PQ x p k v o hc) ?_;by_cases h0:vz x p k=0;refine aF [] h0 ?_;refine zp (by simp[h0]) ?_;refine zk (zg ?_);exact zv (k+1) [] ⟨hc,λi hi=>by by_cases q:i=k;rw[q];exact h0;exact ho i D9⟩ D9 (by simp[zy k D9]) rfl EA;have hf:jA ((range x.y.length).map (vz x p))=vz x p k:=ay (k:=k) (λe b=>by rw[<-map_take]at b;obtain⟨u,g,rfl⟩:=Ak.1 b;rw[List.take_range]at g;have:=AI.1 g;exact ho u D9) (by rw[Ai,Bg hc];rfl) h0;refine aF [] h0 ?_;refine zo (by simp[h0]) ?_;refine EJ ?_;exact zj (zm m EB (by rw[hf];rfl));simp at hc;obtain rfl:k=x.y.length:=D9;refine zB (EJ ?_);exact zj (zm m EB (by rw[W3 λe b=>by obtain⟨u,g,rfl⟩:=Ak.1 b;exact ho u (AI.1 g)];rfl))
def PS(x:Inst)(p:zG)(hx:InstOk x)(l:PlanSz p):PP 56 [.agg (zE x),.agg [L p]] (I (xJ x p)):=by
 have z:=l.ok.n;refine c9 func56 λS nx m=>?_;intro v0 v1;refine EJ ?_;refine zu (rV x hx) ?_;cases hm:yV x with
 |false =>
 refine ze (EJ ?_);refine zo rfl (EJ ?_);exact zj (zm m EB (by simp[xJ,hm,zr]))
 |true =>
 have o:=sd hx hm;have r:=o.n;refine ze (EJ ?_);refine zp rfl (zk ?_);by_cases b:(p.length:Int)=x.days;case neg =>
  refine ze (aF [] b ?_);refine zo (by simp[b]) ?_;refine EJ ?_;exact zj (zm m EB (by simp[xJ,hm,b,zr]))
 have c:xJ x p=if jA (p.map (yx x))≠0 then jA (p.map (yx x)) else jA ((range x.y.length).map (vz x p)):=by simp[xJ,hm,b]
 refine ze (aF [] b ?_);refine zp (by simp[b]) ?_;refine zk ?_;refine ze (EJ ?_);refine qg (nx:=nx) (σ:=Unit) (λ_=>∀d∈p,yx x d=0) (λ_=>[(2,.ptr nx v0 0),(3,.ptr (nx+1) v1 0)]) (λ_=>S) (λ_=>[.cells v0 25 (zE x),.cells v1 31 [L p]]) ?_ ?_;refine zn (zF (λs:Nat=>s<=p.length/\∀d∈p.take s,yx x d=0) (λk=>[(2,.ptr nx v0 0),(3,.ptr (nx+1) v1 0),(6,I k)]) (λ_=>[.cells v0 25 (zE x),.cells v1 31 [L p]]) (λs=>p.length-s) 0 [] EA EA EA ?_);rintro k ⟨hk,ho⟩;refine ze (EJ ?_);refine zA rfl (λhc=>?_) (λhc=>?_);simp at hc;obtain⟨d,tl,y,a2,a3,e0⟩:=zH rfl p k hc;have j:=Ab y;refine zk (aA (aG (some [nx,nx+1]) Rh (zq hc e0) ?_));refine zK (Ke x d r (l.ok.d d j) (l.ok.t d j) (l.f d j)) n' ?_;by_cases h0:yx x d=0;refine aF [] h0 ?_;refine zp (by simp[h0]) ?_;refine zk (zg ?_);exact zv (k+1) [] ⟨hc,λe a=>by rw[a3]at a;obtain a|a:=AC.1 a;exact ho e a;rw[AX.1 a];exact h0⟩ D9 (by simp[zy k D9]) rfl EA;have hf:jA (p.map (yx x))=yx x d:=ay (k:=k) (λe a=>by rw[<-map_take]at a;obtain⟨u,g,rfl⟩:=Ak.1 a;exact ho u g) (by rw[Ai,y];rfl) h0;refine aF [] h0 ?_;refine zo (by simp[h0]) ?_;refine EJ ?_;exact zj (zm m EB (by rw[c,hf];simp[h0,zr]));simp at hc;obtain rfl:k=p.length:=D9;rw[Ah]at ho;exact zB (zY () [] ho EA rfl EA);intro _ h;have v:=rZ l hx hm b h;have w:jA (p.map (yx x))=0:=W3 λe a=>by obtain⟨u,g,rfl⟩:=Ak.1 a;exact h u g
 rw[w]at c;simp only[ne_eq,not_true,if_false]at c;rw[c];refine ze (EJ ?_);refine zn (zF (λs:Nat=>s<=x.y.length/\∀i<s,vz x p i=0) (λk=>[(2,.ptr nx v0 0),(3,.ptr (nx+1) v1 0),(8,I k)]) (λ_=>[.cells v0 25 (zE x),.cells v1 31 [L p]]) (λs=>x.y.length-s) 0 [] EA EA EA ?_);rintro k ⟨hk,ho⟩;refine ze (EJ ?_);refine zA rfl (λhc=>?_) (λhc=>?_);simp at hc;refine zk (aA (EJ ?_));refine zu (PR x p k v o hc) ?_;by_cases h0:vz x p k=0;refine aF [] h0 ?_;refine zp (by simp[h0]) ?_;refine zk (zg ?_);exact zv (k+1) [] ⟨hc,λi hi=>by by_cases q:i=k;rw[q];exact h0;exact ho i D9⟩ D9 (by simp[zy k D9]) rfl EA;have hf:jA ((range x.y.length).map (vz x p))=vz x p k:=ay (k:=k) (λe a=>by rw[<-map_take]at a;obtain⟨u,g,rfl⟩:=Ak.1 a;rw[List.take_range]at g;have:=AI.1 g;exact ho u D9) (by rw[Ai,Bg hc];rfl) h0;refine aF [] h0 ?_;refine zo (by simp[h0]) ?_;refine EJ ?_;exact zj (zm m EB (by rw[hf];rfl));simp at hc;obtain rfl:k=x.y.length:=D9;refine zB (EJ ?_);exact zj (zm m EB (by rw[W3 λe a=>by obtain⟨u,g,rfl⟩:=Ak.1 a;exact ho u (AI.1 g)];rfl))
open Go.Proofs Hp
def XK(l:List Visit)(day:Int)(i k:Nat):List Stop:=((l.take k).filter (λw=>w.d=day)).map λw=>⟨i,w.q⟩
def QY(v:List (List Visit))(day:Int)(i:Nat):List Stop:=((v.getD i []).filter (λw=>w.d=day)).map λw=>⟨i,w.q⟩
def wI(v:List (List Visit))(day:Int)(n:Nat):List Stop:=(range n).flatMap (QY v day)
def sf(v:List (List Visit))(a:Int)(n:Nat):wI v a (n+1)=wI v a n++QY v a n:=by simp[wI,AO]
theorem PU(l:List Visit)(a:Int)(i:Nat):XK l a i 0=[]:=rfl
def PY(v:List (List Visit))(a:Int)(i:Nat)(l:List Visit)(h:v[i]?=some l):XK l a i l.length=QY v a i:=by simp_all[XK,QY]
variable {k:Nat}
def sh{l:List Visit}{w:Visit}(h:l[k]?=some w)(a:Int)(i:Nat):XK l a i (k+1)=XK l a i k++(if w.d=a then [⟨i,w.q⟩] else []):=by grind[XK,List.take_add_one]
structure VsOk (m n:Nat) (v:List (List Visit)):Prop where
 len:v.length=m
 ok:∀l∈v,∀w∈l,(0<=w.d/\w.d<n)/\1<=w.q/\w.q<=2147483648
 nd:∀l∈v,(l.map (·.d)).Nodup
 few:∀l∈v,l.length<=1000
variable {n:Nat}
theorem VsOk.at{m:Nat}{v:List (List Visit)}(h:VsOk m n v)(i:Nat):(∀w∈v.getD i [],(0<=w.d/\w.d<n)/\1<=w.q/\w.q<=2147483648)/\((v.getD i []).map (·.d)).Nodup:=by
 rw[Aa];cases e:v[i]? with
 |none=>simp
 |some l=>exact⟨h.ok l (Ab e),h.nd l (Ab e)⟩
def PZ{l:List Visit}(h:(l.map (·.d)).Nodup)(c:Int):(l.filter (λw=>w.d=c)).length<=1:=by
 have h1:=(List.filter_sublist (p:=λw:Visit=>decide (w.d=c)) (l:=l)).map (·.d);have h2:=h.sublist h1;have h3:∀w∈l.filter (λw=>w.d=c),w.d=c:=λw e=>by simp_all
 generalize l.filter (λw=>decide (w.d=c))=m at h2 h3
 match m,h2,h3 with
 |[],_,_=>simp
 |[_],_,_=>simp
 |a::b::m,h2,h3 =>
 simp_all
def Sa{m:Nat}{v:List (List Visit)}(h:VsOk m n v)(a:Int)(i:Nat):(QY v a i).length<=1:=by unfold QY;rw[length_map];exact PZ (h.at i).2 a
variable {a:Int}{i:Nat}
def Sc{m:Nat}{v:List (List Visit)}(h:VsOk m n v){s:Stop}(hs:s∈QY v a i):s.c=i/\1<=s.q/\s.q<=2147483648:=by obtain⟨w,b,rfl⟩:=Ak.1 hs;exact⟨rfl,((h.at i).1 w (Bu.1 b).1).2⟩
theorem iF{m:Nat}{v:List (List Visit)}(h:VsOk m n v)(a:Int):∀k:Nat,(wI v a k).length<=k/\(∀s∈wI v a k,(0<=s.c/\s.c<k)/\1<=s.q/\s.q<=2147483648)/\((wI v a k).map (·.c)).Nodup
 |0=>⟨by simp[wI],by simp[wI],by simp[wI]⟩
 |k+1=>by
  obtain⟨h1,h2,h3⟩:=iF h a k;have b:=Sa h a k;have d:∀s∈QY v a k,s.c=k/\1<=s.q/\s.q<=2147483648:=λs hs=>Sc h hs;rw[sf];refine⟨by grind,λs hs=>?_,?_⟩;grind;rw[map_append];generalize QY v a k=e at b d
  match e,b,d with
  |[],_,_=>simpa using h3
  |[s],_,d =>
  grind
  |_::_::_,b,_=>simp at b
structure InstH (x:Inst):Prop where
 y:x.y.length<=1000
 diag:arc x 0 0=0
 aj:jk x
 U:0<=x.U
def sj(hx:InstH x){v:List (List Visit)}(h:VsOk x.y.length n v)(a:Int):SOk x (wI v a x.y.length):=by obtain⟨h1,h2,h3⟩:=iF h a x.y.length;have:=hx.y;exact⟨by omega,hx.aj,hx.U,by omega,λs hs=>by grind[qz],h3⟩
def W5(x:Inst)(v:List (List Visit))(b:Int)(n:Nat):List (zt × Int):=(range n).map λd:Nat=>ZT x b (wI v d x.y.length)
def vA(x:Inst)(v:List (List Visit))(b:Int)(n:Nat):zG:=(W5 x v b n).map (·.1)
def xv(x:Inst)(v:List (List Visit))(b:Int)(n:Nat):List Int:=(W5 x v b n).map (·.2)
def iG(x:Inst)(v:List (List Visit))(b:Int)(n:Nat):(vA x v b n).length=n:=by simp[vA,W5]
def sn(x:Inst)(v:List (List Visit))(b:Int)(n:Nat):(xv x v b n).length=n:=by simp[xv,W5]
def Sf(x:Inst)(v:List (List Visit))(b:Int)(n:Nat):vA x v b (n+1)=vA x v b n++[(ZT x b (wI v n x.y.length)).1]:=by simp[vA,W5,AO]
def Sg(x:Inst)(v:List (List Visit))(b:Int)(n:Nat):xv x v b (n+1)=xv x v b n++[(ZT x b (wI v n x.y.length)).2]:=by simp[xv,W5,AO]
def Sh(x:Inst)(v:List (List Visit))(a:Int)(n:Nat)(hx:x.y.length<=1000)(hv:VsOk x.y.length n v):PP 262 [.agg (zE x),L v,I a] (L (wI v a x.y.length)):=by
 have f:=hv.len;have g:=λk=>(iF hv a k).1;have h:xk (x.y.length:Int) (x.y.length:Int)=x.y.length:=by unfold xk;simp
 refine c9 func262 λS nx c=>?_;intro v0;refine EJ ?_;refine ze (qa 7 101 2 rfl λv1=>?_);refine EJ ?_;refine zn (zF (λs:Nat × List Stop × Nat=>s.1<=x.y.length/\s.2.1=wI v a s.1) (λ(i,out,w)=>[(1,L v),(2,I a),(7,.sl (nx+1) w 2 0 out.length),(16,I x.y.length),(17,I i)]) (λ(i,out,w)=>[.cells v0 25 (zE x),.cells w 101 (out.flatMap Enc.enc)]) (λs=>x.y.length-s.1) (0,[],v1) [] (by simp[wI]) (by simp[f,h]) EA ?_);rintro⟨i,out,w⟩ ⟨hi,ho⟩;simp only at hi ho ⊢;refine EJ ?_;refine ze (zA rfl (λhc=>?_) (λhc=>?_));simp at hc;have e:i<v.length:=D9;obtain⟨l,tl,m,z,a3,o⟩:=zH rfl v i e;have p:=hv.few l (Ab m);have r:=g i;refine zk (aA (EJ ?_));refine aF [] (zq o e) ?_;refine zn (zF (λs:Nat × List Stop × Nat=>s.1<=l.length/\s.2.1=wI v a i++XK l a i s.1/\s.2.1.length<=i+s.1) (λ(k,out,w)=>[(1,L v),(2,I a),(7,.sl (nx+1) w 2 0 out.length),(8,I i),(16,I x.y.length),(17,I i),(23,L l),(24,I l.length),(25,I k)]) (λ(k,out,w)=>[.cells v0 25 (zE x),.cells w 101 (out.flatMap Enc.enc)]) (λs=>l.length-s.1) (0,out,w) [] ⟨by simp,by simp[PU,ho],by simp[ho];omega⟩ EA EA ?_);clear ho;rintro⟨k,out,w⟩ ⟨t,ho,j⟩;simp only at t ho j ⊢;refine EJ ?_;refine ze (zA rfl (λb=>?_) (λb=>?_));simp at b;obtain⟨s,u,b1,b2,b3,y,e2⟩:=el 2 rfl l k b;refine zk (aA (aF [] (zD y e2 b) ?_));intro v2;refine EJ ?_;by_cases c:s.d=a;refine zo (by simp[c]) ?_;refine zg ?_;refine⟨by omega,?_⟩;refine zg ?_;exact zv (k+1,out++[⟨i,s.q⟩],w+1) [_] ⟨b,by rw[sh b1,if_pos c,ho];simp,by simp;omega⟩ ED (by simp[zy k D9]) rfl EB;refine zp (by simp[c]) ?_;refine zk (zg ?_);exact zv (k+1,out,w) [_] ⟨b,by rw[sh b1,if_neg c,ho];simp,by dsimp only;omega⟩ ED (by simp[zy k D9]) rfl EB;simp at b;obtain rfl:k=l.length:=D9;rw[PY v a i l m,<-sf]at ho;refine zB (zg ?_);exact zv (i+1,out,w) [] ⟨hc,ho⟩ ED (by simp[zy i D9]) rfl EA;simp at hc;obtain rfl:i=x.y.length:=D9;refine zB (yc 1 rfl ?_);refine EJ ?_;exact zj (zm c EB (by simp[zr,ho]))
section
variable {P:Program} {r:Rd} {n N:Nat} {Q:Exit->(Nat->PV)->Store->Prop} {F:Nat->PV} {c:Code}
variable {S1:Store}
def Si{T:Store}{G:Nat->PV}{id ver e:Nat}{cs:List PV}(hid:S1 id=.cells ver e cs)(hT:T id=.dead)(g:∀o,T o=.dead\/T o=S1 o\/T o=xD id ver cs (S1 o))
  (hG:∀i,G i=F i\/G i=qk id ver cs (F i)) (h:PW P r n N c Q G T):PW P r n N c Q F S1:=by
 refine QK (F':=G) (S':=T) (λC w a st=>?_) h;have j:∀o v,(T o).ver=some v->(S1 o).ver=some v:=by intro o v hv;obtain q|q|q:=g o;rw[q]at hv;cases hv;simp_all;grind[mL]
 have f:∀o,T o≠.dead->S1 o≠.dead:=by intro o ho hd;obtain q|q|q:=g o;exact ho q;simp_all;simp_all
 have hM:∀b,C.M T b->C.M S1 b:=λb ⟨o,k,ho,hl⟩=>⟨o,k,f o ho,hl⟩;have d:Step C S1 w C T w:=⟨rfl,⟨rfl,Ag _⟩,rfl,Ag _,Ag _,Ag _,λb _ hb=>⟨rfl,λh=>hb (hM b h)⟩,λo v1 hv=>.inr ⟨v1,j o v1 hv,Ag _,λ_=>rfl⟩⟩;have l:∀{p u},Rel C S1 w p u->Rel C T w (qk id ver cs p) u:=λh=>ct st.sim hid hT f d h;refine⟨C,⟨⟨λo ho=>st.sim.lt o (f o ho),λo v hv=>st.sim.clk o v (j o v hv),λo o' b k k' ho t=>st.sim.J o o' b k k' (f o ho) (f o' t),?_,?_⟩,st.size,λi=>?_,r.keep d st.v⟩,d⟩
 .intro o v e' ds ho;obtain q|q|q:=g o;simp_all;rw[q]at ho;obtain hn|⟨b,k,c,h1,h2,h3,s,y,z⟩:=st.sim.cells o v e' ds ho;exact .inl hn;exact .inr ⟨b,k,c,h1,h2,h3,s,y,λi p u hp hu=>(z i p u hp hu).mono d⟩;rw[q]at ho;cases hs:S1 o with
  |dead=>simp_all
  |map v es=>simp_all
  |cells v2 e2 ds2 =>
  rw[hs]at ho;cases ho;obtain⟨h1,h2⟩|⟨b,k,c,h1,h2,h3,s,y,z⟩:=st.sim.cells o _ _ ds2 hs<;>grind
 intro o v es ho;have hs:S1 o=.map v es:=by
  obtain q|q|q:=g o;simp_all;simp_all;rw[q]at ho;cases hs:S1 o with
  |dead=>simp_all
  |map v es=>simp_all
  |cells v2 e2 ds2=>simp_all
 obtain⟨b,k,ms,cl,h1,h2,h3,s⟩:=st.sim.maps o v es hs;exact⟨b,k,ms,cl,h1,h2,h3,λi x m hx hm=>⟨(s i x m hx hm).1,(s i x m hx hm).2.mono d⟩⟩;obtain q|q:=hG i;rw[q];exact(st.fr i).mono d;rw[q];exact l (st.fr i)
def uV{α:Type}(base sz:Nat)(ws:Nat->Nat)(rows:List (List α)):List PV:=(range rows.length).map λi=>.sl (base+i) (ws i) sz 0 (rows.getD i []).length
variable {α:Type}
theorem iH(base sz:Nat)(ws:Nat->Nat)(rows:List (List α)):(uV base sz ws rows).length=rows.length:=by simp[uV]
theorem so(base sz:Nat)(ws:Nat->Nat)(rows:List (List α))(i:Nat)(h:i<rows.length):(uV base sz ws rows)[i]?=some (.sl (base+i) (ws i) sz 0 (rows.getD i []).length):=by simp[uV,h]
def iI(base sz:Nat)(ws:Nat->Nat)(rows:List (List α))(i:Nat)(h:i<rows.length):∃tl,(uV base sz ws rows).drop i=.sl (base+i) (ws i) sz 0 (rows.getD i []).length::tl:=by refine⟨(uV base sz ws rows).drop (i+1),?_⟩;grind[uV,List.drop_eq_getElem_cons]
structure RowsAt {α:Type} [Enc α] (T:Store) (A va tA base e sz:Nat) (ws:Nat->Nat) (rows:List (List α)):Prop where
 arr:T A=.cells va tA (uV base sz ws rows)
 ag:∀i,i<rows.length->T (base+i)=.cells (ws i) e ((rows.getD i []).flatMap Enc.enc)
 out:A<base
variable {A:Nat}
theorem RowsAt.other[Enc α]{T T':Store}{e sz:Nat}{ws:Nat->Nat}{rows:List (List α)}(h:RowsAt T A k n N e sz ws rows)(a:∀o,o=A\/(N<=o/\o<N+rows.length)->T' o=T o):RowsAt T' A k n N e sz ws rows :=
 ⟨(a A (.inl rfl)).trans h.arr,λi hi=>(a _ (.inr ⟨by omega,by omega⟩)).trans (h.ag i hi),h.out⟩
theorem RowsAt.turn[Enc α]{T T':Store}{base e sz:Nat}{ws:Nat->Nat}{rows:List (List α)}(h:RowsAt T A n N base e sz ws rows)(hi:i<rows.length)(w:Nat)(l:List α)
  (d:T' A=.cells n N ((uV base sz ws rows).set i (.sl (base+i) w sz 0 l.length))) (g:T' (base+i)=.cells w e (l.flatMap Enc.enc)) (f:∀o,o≠A->o≠base+i->T' o=T o):RowsAt T' A n N base e sz (λk=>if k=i then w else ws k) (rows.set i l):=by
 have b:=h.out;refine⟨?_,λk c=>?_,h.out⟩;rw[d];congr 1;apply A3;grind[iH,so];rw[Bv]at c;by_cases a:k=i;simp_all;rw[f _ D9 D9,h.ag k c,if_neg a];grind
def Sj(base sz:Nat)(ws:Nat->Nat)(m:Nat):uV (α:=α) base sz ws (replicate m [])=(range m).map λi=>.sl (base+i) (ws i) sz 0 0:=by simp_all[uV]
theorem sp[Enc α](A va tA base e sz m:Nat)(d:A<base):∀(j k:Nat) (T:Store) (ws:Nat->Nat),k+j=m->T A=.cells va tA ((range k).map (λi=>.sl (base+i) (ws i) sz 0 0)++replicate j (.sc (.slice none 0 0))) ->
  (∀i,i<k->T (base+i)=.cells (ws i) e [])->yh (base+k) T ->
  (∀(T':Store) (b:Nat->Nat),RowsAt T' A va tA base e sz b (replicate m ([]:List α))->(∀o,o≠A->o<base->T' o=T o)->yh (base+m) T'->PW P r n N c Q F T')->PW P r n N c Q F T
 |0,k,T,ws,s,p,a,l,h=>by obtain rfl:k=m:=D9;refine h T ws ⟨by rw[p,Sj];simp,λi hi=>?_,d⟩ (λ_ _ _=>rfl) l;simp_all
 |j+1,k,T,ws,s,p,a,l,h=>by
  have f:((range k).map (λi=>PV.sl (base+i) (ws i) sz 0 0)++replicate (j+1) (.sc (.slice none 0 0)))[k]?=some (.sc (.slice none 0 0)):=by rw[Ao EA];simp
  refine ft (o:=A) k e sz p f (YX (X:=λid v=>PW P r n N c Q F ((T.set id (.cells v e [])).set A (.cells va tA (((range k).map (λi=>PV.sl (base+i) (ws i) sz 0 0)++replicate (j+1) (PV.sc (.slice none 0 0))).set k (.sl id v sz 0 0))))) (base+k) (l _ (Ag _)) λv=>?_);refine sp A va tA base e sz m d j (k+1) _ (λi=>if i=k then v else ws i) D9 ?_ ?_ ?_ λT' b t u q=>h T' b t (λo ho w=>?_) q;rw[q11];congr 1;rw[Bw _ _ EA,AO,map_append];simp only[length_map,DI,Bk,BM,AR,Aw,Bf,if_true];rw[append_assoc];congr 1;refine AQ λi hi=>?_;have:=AI.1 hi;rw[if_neg D9];intro i hi;rw[q10 _ _ _ _ D9];by_cases g:i=k;subst g;rw[q11,if_pos rfl];rw[q10 _ _ _ _ D9,if_neg g];exact a i D9;intro i hi;rw[q10 _ _ _ _ D9,q10 _ _ _ _ D9];exact l i D9;grind[q10]
def Sk[Enc α](A va tA base e sz m:Nat){T:Store}(a:T A=.cells va tA (replicate m (.sc (.slice none 0 0))))(d:yh base T)
  (h:∀(T':Store) (ws:Nat->Nat),RowsAt T' A va tA base e sz ws (replicate m ([]:List α))->(∀o,o≠A->o<base->T' o=T o)->yh (base+m) T'->PW P r n N c Q F T'):PW P r n N c Q F T:=by
 have b:A<base:=by obtain q|q:=Bc A base;exact q;rw[d A q]at a;cases a
 exact sp A va tA base e sz m b m 0 T (λ_=>0) D9 (by simpa using a) (λi hi=>by omega) D9 h
def sq{nx:Nat}{S:Store}{obs:List Ob}{id ver b:Nat}{cs:List PV}(i e sz:Nat)(d:id<nx)(hs:S id=.cells ver b cs)(hi:cs[i]?=some (.sc (.slice none 0 0)))
  (h:∀v,PW P r n N c Q F (ext (S.set id (.cells ver b (cs.set i (.sl (nx+obs.length) v sz 0 0)))) nx (obs++[.cells v e []]))):PW P r n N c Q F (ext S nx obs) :=
 ft (o:=id) i e sz (by simp_all[zL]) hi (YX (X:=λa v=>PW P r n N c Q F (((ext S nx obs).set a (.cells v e [])).set id (.cells ver b (cs.set i (.sl a v sz 0 0))))) _ Z9 λv=>by rw[jP,qI _ d];exact h v)
end
instance:Enc Mv:=⟨λm=>Yf m,5,λ_=>rfl,λ_=>rfl⟩
@[simp] theorem ZCU(m:Mv):Enc.enc m=Yf m:=rfl
@[simp high] theorem ZCV(l:List Mv):(l.flatMap Enc.enc).length=l.length*5:=ju l
@[simp high] theorem ZCW(l:List Mv):(l.flatMap Enc.enc).take (l.length*5)=l.flatMap Enc.enc:=Yt l
def sv{A B:Prop}(h2:A->B)(h1:A):B:=h2 h1
abbrev wU(x:Inst)(v:PV)(b:Int)(p f pr:PV):List PV:=[I x.days,I x.U,I x.R,I x.len,L x.y,L x.J,v,I b,p,f,pr]
variable {vF:Nat}
def Sl{S:Store}{id ver idF:Nat}(x:Inst)(v p pr:PV)(b:Int)(fs:List Int)(g:S id=.cells ver 255 (wU x v b p (.sl idF vF 1 0 fs.length) pr))(i:S idF=.cells vF 49 (fs.flatMap Enc.enc))(hl:fs.length<=1000):
  SP 229 [.ptr id ver 0] S (λq S'=>q=I (jA fs)/\S'=S):=by
 refine i' func229 λnx c=>?_;have f:id<nx:=qA c g EA;have a:idF<nx:=qA c i EA;have l:=λobs=>zL (S:=S) (obs:=obs) f;have m:=λobs=>zL (S:=S) (obs:=obs) a;refine EJ ?_;refine ze (aF [] (zq l g) ?_);refine zn (zF (λk:Nat=>k<=fs.length/\∀e∈fs.take k,e=0) (λk=>[(8,.sl idF vF 1 0 fs.length),(9,I fs.length),(10,I k)]) (λ_=>[]) (λk=>fs.length-k) 0 [] EA EA EA ?_);rintro k ⟨r,h0⟩;refine EJ ?_;refine ze (zA rfl (λhc=>?_) (λhc=>?_));simp at hc;obtain⟨e,tl,n,s,a3,o⟩:=zH rfl fs k hc;refine zk (aA (aF [] (zM m i o hc) ?_));refine EJ ?_;by_cases d:e=0;refine zp (by simp[d]) ?_;refine zk (zg ?_);exact zv (k+1) [] ⟨hc,λy j=>by rw[a3]at j;obtain h|h:=AC.1 j;exact h0 y h;rw[AX.1 h];exact d⟩ D9 (by simp[zy k D9]) rfl EA;refine zo (by simp[d]) ?_;refine EJ ?_;exact zj ⟨_,S,rfl,⟨by simp[zr,ay h0 n d],rfl⟩,ye c⟩;simp at hc;obtain rfl:k=fs.length:=D9;rw[Ah]at h0;refine zB (EJ ?_);exact zj ⟨_,S,rfl,⟨by simp[zr,W3 h0],rfl⟩,ye c⟩
variable {vD:Nat}{b:Int}{pr:PV}{ds:zG}{fs:List Int}
def Sn{S:Store}{id ver idD idF:Nat}{v:List (List Visit)}(k:Nat)(q:S id=.cells ver 255 (wU x (L v) b (.sl idD vD 1 0 ds.length) (.sl idF vF 1 0 fs.length) pr))
  (y:S idD=.cells vD 96 (ds.flatMap Enc.enc)) (s:S idF=.cells vF 49 (fs.flatMap Enc.enc)) (z:id≠idD) (t:id≠idF) (d3:idD≠idF) (hx:InstH x) (hv:VsOk x.y.length n v) (hb:b<=9223372036854775807) (a0:ds.length<=1000) (a1:fs.length<=1000) :
  SP 228 [.ptr id ver 0,I k] S (λ_ S'=>S'=((S.set id (.cells ver 255 (wU x (L v) b (.sl idD (vD+1) 1 0 (ds.length+1)) (.sl idF (vF+1) 1 0 (fs.length+1)) pr))).set idD (.cells (vD+1) 96 ((ds++[(ZT x b (wI v k x.y.length)).1]).flatMap Enc.enc))).set idF
   (.cells (vF+1) 49 ((fs++[(ZT x b (wI v k x.y.length)).2]).flatMap Enc.enc))):=by
 have j:=Sh x v k n hx.y hv;have f:=OH (sj hx hv k) hx.diag hb;generalize wI v k x.y.length=st at j f ⊢;generalize ZT x b st=r at f ⊢;obtain⟨d,e⟩:=r;simp only at f ⊢;refine i' func228 λnx m=>?_;have g:id<nx:=qA m q EA;have l:idD<nx:=qA m y EA;have h:idF<nx:=qA m s EA;have p:=λobs=>(zL (S:=S) (obs:=obs) g).trans q;have xd:=λobs=>(zL (S:=S) (obs:=obs) l).trans y;have xf:=λobs=>(zL (S:=S) (obs:=obs) h).trans s;have g1:¬nx<=id:=D9;have g2:¬nx<=idD:=D9;have g3:¬nx<=idF:=D9;have yw:=λ(o:Ob) obs=>(zL (S:=S.set idD o) (obs:=obs) g).trans ((q10 _ _ _ _ z).trans q);have zw:=λ(o o':Ob) obs=>(zL (S:=(S.set idD o).set id o') (obs:=obs) g).trans (q11 _ _ _);have zf:=λ(o o':Ob) obs=>(zL (S:=(S.set idD o).set id o') (obs:=obs) h).trans ((q10 _ _ _ _ t.symm).trans ((q10 _ _ _ _ d3.symm).trans s));have uw:=λ(o o' u:Ob) obs=>(zL (S:=((S.set idD o).set id o').set idF u) (obs:=obs) g).trans ((q10 _ _ _ _ t).trans (q11 _ _ _));refine aG (some [id]) (Row.pures [0,1,2,3,4,5,6,7,8,9,10,11,12,13,14,15,16,17,18,19,20,21] (.alt 22 (.alt 23 (Row.pures [24] .done) .stop) .stop)) p ?_;refine zK (j) p ?_;refine zK (f) p ?_;intro v2;refine aG (some [nx]) R9 (yp p xd yw g1 g2) ?_;refine⟨by omega,?_⟩;refine zi [] (yp zw zf uw g1 g3) ?_;refine⟨by omega,?_⟩;have e1:∀(a b c d:Ob),(((S.set idD a).set id b).set idF c).set id d=((S.set id d).set idD a).set idF c:=by intro a b c d;funext i;simp only[Store.set];by_cases h1:i=id;subst h1;simp[z,t];simp only[h1,if_false]
 have w:∀(a b c:Ob),yh nx (((S.set id a).set idD b).set idF c):=by intro a b c i hi;rw[q10 _ _ _ _ D9,q10 _ _ _ _ D9,q10 _ _ _ _ D9];exact m i hi
 rw[e1];exact⟨_,_,rfl,by simp,ye (w _ _ _)⟩
def So{S:Store}{id ver:Nat}(x:Inst)(v p f pr:PV)(b:Int)(fn:FuncId)(fs:List PV)(n:Nat)(hn:x.days=n)(i:n<=1000)(g:S id=.cells ver 255 (wU x v b p f pr))(St:Nat->Store)(h0:St 0=S)
  (a:∀nx,yh nx S->∀k,k<=n->yh nx (St k)) (c:∀k,k<n->Spec prog fn (fs++[I k]) (St k) (λ_ S'=>S'=St (k+1))) :
  SP 182 [.ptr id ver 0,.fn (.func fn) fs []] S (λ_ S'=>S'=St n):=by
 refine i' func182 λnx h=>?_;have e:id<nx:=qA h g EA;have j:=λobs=>(zL (S:=S) (obs:=obs) e).trans g;have a:=a nx h;refine aF [] (zq j hn) ?_;refine zn (xC (σ:=Nat) (λk=>k<=n) (λk=>[(1,.fn (.func fn) fs []),(9,I n),(10,I k)]) (λk=>St k) (λ_=>[]) (λk=>n-k) (zY 0 [] EA EA h0 EA) ?_);rintro k l;refine EJ ?_;refine ze (zA rfl (λhc=>?_) (λhc=>?_));simp at hc;refine zk (aA (EJ ?_));refine zg ?_;refine λd=>(Spec.mono (by rw[jt (a k l)];simpa using c k hc) ?_).v;rintro _ _ rfl;refine⟨St (k+1),[],(jt (a (k+1) hc)).symm,zS d ?_⟩;refine zg ?_;exact zv (k+1) [] hc D9 (by simp[zy k D9]) rfl EA;simp at hc;obtain rfl:k=n:=D9;refine zB ?_;exact⟨_,_,rfl,rfl,ye (a k (Ag _))⟩
variable {v0 y:PV}
def Sp{S:Store}{nx id ver:Nat}(s:yh nx S){v:List (List Visit)}{z:PV}(t:S id=.cells ver 255 (wU x v0 b y z pr))(hx:InstH x)(hn:x.days=n)(h:n<=1000)(hv:VsOk x.y.length n v)(hb:b<=9223372036854775807):
  SP 185 [.ptr id ver 0,L v] S (λq S'=>q=I (jA (xv x v b n))/\∃vD vF,S'=ext (S.set id (.cells ver 255 (wU x (L v) b (.sl nx vD 1 0 (vA x v b n).length) (.sl (nx+1) vF 1 0 (xv x v b n).length) pr))) nx
   [.cells vD 96 ((vA x v b n).flatMap Enc.enc),.cells vF 49 ((xv x v b n).flatMap Enc.enc)]):=by
 have l:=iG x v b;have j:=sn x v b;refine ZI s func185 ntmps185 results185 ?_;have d:id<nx:=qA s t EA;have g1:¬nx<=id:=D9;have xw:=λobs=>(zL (S:=S) (obs:=obs) d).trans t;have yw:=λ(o:Ob) obs=>(zL (S:=S.set id o) (obs:=obs) d).trans (q11 _ _ _);refine EJ ?_;refine aF [] (zM xw yw g1 Store.set_set) ?_;refine sq (id:=id) 8 96 1 d (q11 _ _ _) rfl λvD=>?_;rw[Store.set_set];refine sq (id:=id) 9 49 1 d (q11 _ _ _) rfl λvF=>?_;rw[Store.set_set];simp only[AM,AR,Ae,Aj,cons_append,AK,BJ,AV];generalize p:(λk:Nat=>ext (S.set id (.cells ver 255 (wU x (L v) b (.sl nx (vD+k) 1 0 (vA x v b k).length) (.sl (nx+1) (vF+k) 1 0 (xv x v b k).length) pr))) nx
   [.cells (vD+k) 96 ((vA x v b k).flatMap Enc.enc),.cells (vF+k) 49 ((xv x v b k).flatMap Enc.enc)])=St
 have a:∀k,St k=ext (S.set id (.cells ver 255 (wU x (L v) b (.sl nx (vD+k) 1 0 (vA x v b k).length) (.sl (nx+1) (vF+k) 1 0 (xv x v b k).length) pr))) nx
   [.cells (vD+k) 96 ((vA x v b k).flatMap Enc.enc),.cells (vF+k) 49 ((xv x v b k).flatMap Enc.enc)]:=λk=>by rw[<-p]
 have h0:St 0=ext (S.set id (.cells ver 255 (wU x (L v) b (.sl nx vD 1 0 0) (.sl (nx+1) vF 1 0 0) pr))) nx [.cells vD 96 [],.cells vF 49 []]:=a 0;have hid:∀k,St k id=.cells ver 255 (wU x (L v) b (.sl nx (vD+k) 1 0 (vA x v b k).length) (.sl (nx+1) (vF+k) 1 0 (xv x v b k).length) pr):=λk=>by rw[a k,zL d,q11]
 have f:∀k,k<n->SP 228 ([.ptr id ver 0]++[I k]) (St k) (λ_ S'=>S'=St (k+1)):=by intro k u;have h1:=l k;have h2:=j k;refine(Sn (idD:=nx) (idF:=nx+1) (n:=n) k (hid k) (by rw[a k];simp) (by rw[a k];simp) D9 D9 D9 hx hv hb D9 D9).mono ?_;rintro _ _ rfl;rw[a k,a (k+1),qI _ d,Store.set_set,yu _ D9 EA,yu _ D9 EA,Sf,Sg];simp[Nat.add_assoc]
 have g:∀m,yh m (St 0)->∀k,k<=n->yh m (St k):=by
  intro m hm k _ i hi;have a0:nx+1<m:=by obtain q|q:=Bc (nx+1) m;exact q;have:=hm (nx+1) q;rw[a 0]at this;simp at this
  rw[a k];simp only[ext];rw[if_neg D9,Aa,An ED];rfl
 rw[<-h0];have r:=hid 0;have w:nx+2=nx+[Ob.cells (vD+0) 96 ((vA x v b 0).flatMap Enc.enc),.cells (vF+0) 49 ((xv x v b 0).flatMap Enc.enc)].length:=rfl;have c:∀k,St k=ext (St k) (nx+2) []:=λk=>by refine(jt ?_).symm;rw[a k];exact xP (obs:=[_,_])
 rw[c 0];refine EJ ?_;refine λe=>((So x (L v) _ _ pr b _ _ n hn h (by rw[<-c 0];exact r) St (c 0) (λm hm k u=>g m (by rw[c 0];exact hm) k u) f).mono ?_).v;rintro _ _ rfl;refine⟨_,_,c n,zS e ?_⟩;refine EJ ?_;refine λe=>((Sl (idF:=nx+1) x _ _ _ _ (xv x v b n) (by rw[<-c n];exact hid n) (by rw[<-c n,a n];simp) (by rw[j];exact h)).mono ?_).v;rintro _ _ ⟨rfl,rfl⟩;refine⟨_,_,rfl,zS e ?_⟩;refine zj ⟨_,St n,rfl,⟨by simp[zr],vD+n,vF+n,a n⟩,λo=>.inl ?_⟩;rw[<-c n]
def Sq(n:Nat):qr n (.slice none 0 0)=replicate n (.sc (.slice none 0 0)):=by
 induction n with
 |zero=>simp
 |succ n a=>rw[Jr,a];rfl
abbrev T(s:ByteArray):PV:=.sc (.string s)
instance:Enc ByteArray:=⟨λx=>[T x],1,λ_=>rfl,λ_=>rfl⟩
@[simp] theorem ZCX(x:ByteArray):Enc.enc x=[T x]:=rfl
@[simp high] theorem W6(l:List ByteArray):(l.flatMap Enc.enc).length=l.length:=(ju l).trans (BK _)
abbrev bs(l:List UInt8):ByteArray:=⟨l.toArray⟩
def Sr(a b:List UInt8):bs a++bs b=bs (a++b):=by apply ByteArray.ext;simp
theorem xK(l:List UInt8):(bs l).size=l.length:=by simp[ByteArray.size]
def zQ(n:Nat):List UInt8:=if h:n<10 then [UInt8.ofNat (48+n)] else zQ (n/10)++[UInt8.ofNat (48+n%10)]
termination_by n
decreasing_by omega
theorem Qi(h:n<10):zQ n=[UInt8.ofNat (48+n)]:=by simp_all[zQ]
theorem JS(h:¬n<10):zQ n=zQ (n/10)++[UInt8.ofNat (48+n%10)]:=by rw[zQ,dif_neg h]
def jB(l:List UInt8):Nat:=l.foldl (λa c=>10*a+(c.toNat-48)) 0
theorem XL(l:List UInt8)(c:UInt8):jB (l++[c])=10*jB l+(c.toNat-48):=by simp[jB]
theorem Qj(h:k<10):(UInt8.ofNat (48+k)).toNat=48+k:=by grind[UInt8.toNat_ofNat']
def sx(n:Nat):jB (zQ n)=n:=by
 induction n using Nat.strongRecOn with
 |_ n a =>
 by_cases h:n<10;rw[Qi h];simp only[jB,Ba,List.foldl_nil,Qj h];omega;grind[JS,XL,Qj]
theorem iJ(n:Nat):∀c∈zQ n,48<=c.toNat/\c.toNat<=57:=by
 induction n using Nat.strongRecOn with
 |_ n a =>
 intro c hc;by_cases h:n<10;grind[Qi,Qj];rw[JS h,AC,AX]at hc;grind[Qj]
def aH(n:Nat):zQ n≠[]:=by by_cases h:n<10<;>simp_all[Qi,JS]
def sy(n:Nat)(h:1<(zQ n).length):∃c l,zQ n=c::l/\c.toNat≠48:=by
 induction n using Nat.strongRecOn with
 |_ n a =>
 by_cases h0:n<10;rw[Qi h0]at h;simp at h;grind[JS,Qi,Qj]
def aI(n:Nat):∀k,n<10^(k+1)->(zQ n).length<=k+1:=by
 induction n using Nat.strongRecOn with
 |_ n a =>
 intro k b;by_cases h:n<10;simp_all[Qi];rw[JS h,length_append,AZ];cases k with
 |zero=>omega
 |succ k =>
 have:=a (n/10) D9 k D9;omega
def jR(w:List UInt8):Prop:=w≠[]/\∀c∈w,33<=c.toNat/\c.toNat<=126
theorem YF(n:Nat):jR (zQ n):=⟨aH n,λc hc=>by grind[iJ]⟩
def zW:List (List UInt8)->List UInt8
 |[]=>[]
 |[w]=>w
 |w::v::ws=>w++32::zW (v::ws)
theorem W7(w v:List UInt8)(ws:List (List UInt8)):zW (w::v::ws)=w++32::zW (v::ws):=rfl
def sA(ws:List (List UInt8))(w v:List UInt8):zW (v::ws++[w])=zW (v::ws)++32::w:=by
 induction ws generalizing v with
 |nil=>rfl
 |cons u us a =>
 simp_all[W7]
def zV(ls:List (List (List UInt8))):List UInt8:=ls.flatMap λws=>zW ws++[10]
theorem ZX(ws:List (List UInt8))(ls:List (List (List UInt8))):zV (ws::ls)=zW ws++10::zV ls:=by simp[zV]
def dE(ls:List (List (List UInt8)))(ws:List (List UInt8)):zV (ls++[ws])=zV ls++(zW ws++[10]):=by simp[zV]
variable {ws:List (List UInt8)}
def Ss{c:UInt8}(h:c∈zW ws):c=32\/∃w∈ws,c∈w:=by
 induction ws with
 |nil=>simp[zW]at h
 |cons w ws a =>
 cases ws with
 |nil=>exact .inr ⟨w,by simp,h⟩
 |cons v ws =>
 grind[W7]
def Su(a:∀w∈ws,jR w):(10:UInt8) ∉ zW ws:=by intro h;obtain h|⟨w,hm,hc⟩:=Ss h;cases h;have:=(a w hm).2 10 hc;simp at this
variable {w:World}{t:TypeId}
def sB(c:prog.underlying t=some .string):Zi prog w t ByteArray (λ_=>True):=by
 intro H enc a cs x h;cases a with
 |zero=>cases h
 |succ n =>
 unfold DataW.trod at h;rw[c]at h
 match cs,h with
 |[.string b],h=>exact⟨b,trivial,VU (.sc _) rfl⟩
def wJ(c:UInt8):List UInt8->Option (List UInt8 × List UInt8)
 |[]=>none
 |x::xs=>if x=c then some ([],xs) else (wJ c xs).map λp=>(x::p.1,p.2)
theorem XM{c:UInt8}{l a b:List UInt8}(h:wJ c l=some (a,b)):l=a++c::b/\c ∉ a:=by induction l generalizing a b<;>grind[wJ,Option.map_eq_some_iff]
theorem dF{c:UInt8}{l:List UInt8}(h:wJ c l=none):c ∉ l:=by induction l<;>grind[wJ,Option.map_eq_none_iff]
def Sv{c:UInt8}{a:List UInt8}(b:List UInt8)(h:c ∉ a):wJ c (a++c::b)=some (a,b):=by induction a<;>grind[wJ]
def iK{c:UInt8}{l a b:List UInt8}(h:wJ c l=some (a,b)):b.length<l.length:=by rw[(XM h).1];simp;omega
def y9(c:UInt8):List UInt8->List (List UInt8)
 |[]=>[[]]
 |x::xs=>if x=c then []::y9 c xs else match y9 c xs with
  |[]=>[[x]]
  |h::t=>(x::h)::t
theorem iL(c x:UInt8)(xs:List UInt8):y9 c (x::xs)=if x=c then []::y9 c xs else match y9 c xs with
  |[]=>[[x]]
  |h::t=>(x::h)::t:=rfl
theorem iM(c:UInt8)(l:List UInt8):y9 c l≠[]:=by cases l<;>grind[y9]
def iN{c:UInt8}{a:List UInt8}(h:c ∉ a):y9 c a=[a]:=by
 induction a with
 |nil=>rfl
 |cons x a b =>
 grind[iL]
def iO{c:UInt8}{a:List UInt8}(b:List UInt8)(h:c ∉ a):y9 c (a++c::b)=a::y9 c b:=by induction a<;>grind[iL]
theorem Sw(c:UInt8)(l:List UInt8):y9 c l=match wJ c l with
  |none=>[l]
  |some (a,b)=>a::y9 c b:=by
 cases h:wJ c l with
 |none=>simp_all[iN,dF]
 |some p=>obtain⟨a,b⟩:=p;obtain⟨h1,h2⟩:=XM h;simp_all[iO]
def Sx(c:UInt8)(l:List UInt8):(y9 c l).length<=l.length+1:=by induction l<;>grind[y9]
def Sy(c:UInt8)(l:List UInt8):∀w∈y9 c l,w.length<=l.length:=by induction l<;>grind[y9]
theorem Sz(a:ws≠[])(b:∀w∈ws,(32:UInt8) ∉ w):y9 32 (zW ws)=ws:=by
 induction ws with
 |nil=>simp_all
 |cons w ws c =>
 cases ws with
 |nil=>exact iN (b w EA)
 |cons v ws =>
 simp_all[W7,iO]
def uW(w:List UInt8):Bool:=decide (w≠[])&&w.all λc=>decide (33<=c.toNat/\c.toNat<=126)
theorem uz(w:List UInt8):uW w=true<->jR w:=by simp[uW,jR]
def sC{w:List UInt8}{c:UInt8}(h:w[k]?=some c)(hc:¬(33<=c.toNat/\c.toNat<=126)):uW w=false:=by grind[uW]
def yO(t:List UInt8):Option (List (List (List UInt8))) :=
 if t=[] then some [] else
  match h:wJ 10 t with
  |none=>none
  |some (a,b)=>if (y9 32 a).all uW=true then (yO b).map (y9 32 a::·) else none
termination_by t.length
decreasing_by exact iK h
def W8:yO []=some []:=by rw[yO,if_pos rfl]
def sD{t:List UInt8}(h0:t≠[])(h:wJ 10 t=none):yO t=none:=by grind[yO]
theorem dG{t a b:List UInt8}(h:wJ 10 t=some (a,b)):yO t=if (y9 32 a).all uW=true then (yO b).map (y9 32 a::·) else none:=by rw[yO,if_neg (by rintro rfl;cases h)];grind
def SA{t a b:List UInt8}(h:wJ 10 t=some (a,b)){w:List UInt8}(c:(y9 32 a)[k]?=some w)(hb:uW w=false):yO t=none:=by rw[dG h,if_neg];grind
theorem SB{w:List UInt8}(h:jR w):(32:UInt8) ∉ w/\(10:UInt8) ∉ w :=
 ⟨λhc=>by have:=(h.2 32 hc).1;simp at this,λhc=>by have:=(h.2 10 hc).1;simp at this⟩
theorem aJ{ls:List (List (List UInt8))}(h0:∀l∈ls,l≠[])(h:∀l∈ls,∀w∈l,jR w):yO (zV ls)=some ls:=by
 induction ls with
 |nil=>exact W8
 |cons l ls a =>
 have hl:=h l EA;have hc:wJ 10 (zV (l::ls))=some (zW l,zV ls):=by rw[ZX];exact Sv _ (Su hl)
 grind[Sz,SB,dG,uz]
theorem SC(l:List UInt8):zW (y9 32 l)=l:=by
 induction l with
 |nil=>rfl
 |cons x xs a =>
 unfold y9;split;rename_i e;cases h:y9 32 xs<;>simp_all[iM,W7];cases h:y9 32 xs with
 |nil=>simp_all[iM]
 |cons v vs =>
 rw[h]at a;cases vs<;>simp_all[zW]
def JT(n:Nat):∀{t:List UInt8} {ls:List (List (List UInt8))},t.length<=n->yO t=some ls->zV ls=t/\(∀l∈ls,l≠[])/\(∀l∈ls,∀w∈l,jR w):=by
 induction n with
 |zero =>
 intro t ls hn h;obtain rfl:=As (Nat.le_zero.1 hn);rw[W8]at h;cases h;exact⟨rfl,by simp,by simp⟩
 |succ n c =>
 intro t ls hn h;by_cases h0:t=[];grind;cases hc:wJ 10 t with
 |none=>simp_all[sD]
 |some p =>
 obtain⟨a,b⟩:=p;rw[dG hc]at h;split at h;rename_i d;obtain⟨ms,hm,rfl⟩:=Al.1 h;have:=iK hc;grind[XM,ZX,SC,iM,uz];cases h
variable {α:Type}
def W9{p:List α->Prop}(h0:p [])(h1:∀l a,p l->p (l++[a]))(l:List α):p l:=by
 have:∀m:List α,p m.reverse:=by
  intro m;induction m with
  |nil=>exact h0
  |cons a m b=>rw[CB];exact h1 _ _ b
 have:=this l.reverse;simp_all
def xT(l:List UInt8):Nat:=l.foldl (λn c=>if 100000000000000000<=n then 1000000000000000000 else 10*n+(c.toNat-48)) 0
theorem aK(l:List UInt8)(c:UInt8):xT (l++[c])=if 100000000000000000<=xT l then 1000000000000000000 else 10*xT l+(c.toNat-48):=by grind[xT]
def uX(w:List UInt8):Bool:=w.all λc=>decide (48<=c.toNat/\c.toNat<=57)
def dH{w:List UInt8}{c:UInt8}(h:w[k]?=some c)(hc:¬(48<=c.toNat/\c.toNat<=57)):uX w=false:=by grind[uX]
def wg(w:List UInt8):Bool:=match w with
 |[]=>true
 |c::l=>decide (c.toNat=48)&&decide (l≠[])
def yt(w:List UInt8):Option Nat:=if wg w=true then none else if uX w=true then some (xT w) else none
theorem sE(l:List UInt8)(h:∀c∈l,c.toNat<=57):xT l<=1000000000000000000:=by revert h;refine W9 (p:=λl:List UInt8=>(∀c∈l,c.toNat<=57)->xT l<=1000000000000000000) (λ_=>by decide) (λl c a h=>?_) l;grind[aK]
def SD(w:List UInt8)(h:jB w<100000000000000000):xT w=jB w:=by revert h;refine W9 (p:=λw:List UInt8=>jB w<100000000000000000->xT w=jB w) (λ_=>rfl) (λl c a h=>?_) w;grind[XL,aK]
theorem sF(n:Nat)(hn:n<100000000000000000):yt (zQ n)=some n:=by
 have h1:wg (zQ n)=false:=by
  obtain h|h:=Bc 1 (zQ n).length;obtain⟨c,l,e,hc⟩:=sy n h;rw[e];simp[wg,hc];rcases a:zQ n with _|⟨c,_|⟨d,l⟩⟩
  exact absurd a (aH n);simp[wg];rw[a]at h;simp at h
 have h2:uX (zQ n)=true:=by unfold uX;rw[Av];intro c hc;simpa using iJ n c hc
 simp_all[yt,SD,sx]
def Qk{w:List UInt8}(h:yt w=some n):n<=1000000000000000000:=by grind[yt,sE,uX]
def Qs(q:List Int):Prop:=∀z∈q,0<=z/\z<=2147483648
structure GoodV (n:Nat) (v:List Visit):Prop where
 len:v.length<=64
 ok:∀s∈v,(0<=s.d/\s.d<n)/\1<=s.q/\s.q<=2147483648
 nd:(v.map (·.d)).Nodup
def qC:Nat->List Int->List Visit
 |_,[]=>[]
 |i,z::l=>if 0<z then ⟨i,z⟩::qC (i+1) l else qC (i+1) l
theorem dJ:∀(l:List Int) (i:Nat),(qC i l).length<=l.length
 |[],_=>by simp[qC]
 |z::l,i=>by have:=dJ l (i+1);simp only[qC];split<;>simp<;>omega
theorem dK:∀(l:List Int) (i:Nat),Qs l->∀s∈qC i l,((i:Int)<=s.d/\s.d<(i+l.length:Nat))/\1<=s.q/\s.q<=2147483648
 |[],_,_=>by intro s hs;cases hs
 |z::l,i,h=>by
  have a:=dK l (i+1) λx hx=>h x (by simp[hx]);have b:=h z EA;intro s hs;simp only[qC]at hs;split at hs;rcases Am.1 hs with rfl|hs
  simp only[Ae];omega;have:=a s hs;simp only[Ae];omega;have:=a s hs;simp only[Ae];omega
theorem sG:∀(l:List Int) (i:Nat),∀s∈qC i l,(i:Int)<=s.d
 |[],_=>by intro s hs;cases hs
 |z::l,i=>by
  have a:=sG l (i+1);intro s hs;simp only[qC]at hs;split at hs;rcases Am.1 hs with rfl|hs
  exact Do _;have:=a s hs;omega;have:=a s hs;omega
theorem sH:∀(l:List Int) (i:Nat),((qC i l).map (·.d)).Nodup
 |[],_=>by simp[qC]
 |z::l,i=>by have a:=sH l (i+1);simp only[qC];split;rw[Aw,CU];refine⟨λh=>?_,a⟩;obtain⟨s,hs,e⟩:=Ak.1 h;have:=sG l (i+1) s hs;simp only at e;omega;exact a
def SE(n a k:Nat):(yM n a k).Nodup:=by unfold yM;refine List.Pairwise.map _ (λx y (h:x≠y)=>?_) (List.Pairwise.filter _ List.nodup_range);intro e;apply h;omega
def sI(a:Qs q)(hl:q.length<=n)(hn:n<=64):GoodV n (qC 0 q):=by refine⟨AF (dJ q 0) D9,λs hs=>?_,sH q 0⟩;have:=dK q 0 a s hs;omega
def JU(c:Cust)(p:Nat):List Visit:=(yM p 0 64).map λd=>⟨d,c.O⟩
structure CustMade (c:Cust) (n:Nat):Prop where
 ad:CustFits c
 D:∀p∈c.D,p<2^64
 npats:c.D.length<=1048576
 per:c.kind=1->(∀p∈c.D,∀d∈yM p 0 64,d<n)/\1<=c.O/\c.O<=2147483648
def iP[Enc α](h1:Enc.sz α=1)(l:List α)(k:Nat)(v:α)(h:k<l.length):yr (l.flatMap Enc.enc) k (Enc.enc v)=(l.set k v).flatMap Enc.enc:=by
 have a:(l.flatMap Enc.enc).take k=(l.take k).flatMap Enc.enc:=by have:=Js (α:=α) Enc.enc (Enc.sz α) Enc.len l k;rwa[h1,BK]at this
 have e2:(l.flatMap Enc.enc).drop (k+1)=(l.drop (k+1)).flatMap Enc.enc:=by have:=Wm (α:=α) Enc.enc (Enc.sz α) Enc.len l (k+1);rwa[h1,BK]at this
 rw[yr,Enc.len,h1,a,e2,AE,if_pos h];simp
def RowOf(S:Store)(pl:PV)(l:List Int):Prop:=pl=L l\/∃id ver,pl=.sl id ver 1 0 l.length/\S id=.cells ver 3 (l.flatMap Enc.enc)
theorem RowOf.ext{S:Store}{a:PV}{l:List Int}(h:RowOf S a l){nx:Nat}(b:yh nx S)(obs:List Ob):RowOf (ext S nx obs) a l:=by obtain h|⟨id,ver,h1,h2⟩:=h;exact .inl h;exact .inr ⟨id,ver,h1,(zL (qA b h2 EA)).trans h2⟩
def sJ{S:Store}{nx id ver:Nat}(i:yh nx S)(x:Inst)(v p f pr:PV)(b:Int)(fn:FuncId)(fs:List PV)(n:Nat)(hn:x.days=n)(l:n<=1000)(j:S id=.cells ver 255 (wU x v b p f pr))(Pk:Nat->Store->Prop)(h0:Pk 0 S)
  (a:∀k T,Pk k T->yh nx T) (c:∀k,k<n->∀T,Pk k T->Spec prog fn (fs++[I k]) T (λ_ S'=>Pk (k+1) S')) :
  SP 182 [.ptr id ver 0,.fn (.func fn) fs []] S (λ_ S'=>Pk n S'):=by
 refine ZI i func182 ntmps182 results182 ?_;have h:id<nx:=qA i j EA;have m:=λobs=>(zL (S:=S) (obs:=obs) h).trans j;refine aF [] (zq m hn) ?_;refine zn (xC (σ:=Nat × Store) (λs=>s.1<=n/\Pk s.1 s.2) (λs=>[(1,.fn (.func fn) fs []),(9,I n),(10,I s.1)]) (λs=>s.2) (λ_=>[]) (λs=>n-s.1) (zY (0,S) [] ⟨by simp,h0⟩ EA rfl EA) ?_);rintro⟨k,T⟩ ⟨o,d⟩;simp only at o d ⊢;refine EJ ?_;refine ze (zA rfl (λhc=>?_) (λhc=>?_));simp at hc;refine zk (aA (EJ ?_));refine zg ?_;refine λe=>(Spec.mono (by rw[jt (a k T d)];simpa using c k hc T d) ?_).v;rintro _ T' g;refine⟨T',[],(jt (a _ _ g)).symm,zS e ?_⟩;refine zg ?_;exact zv (k+1,T') [] ⟨hc,g⟩ D9 (by simp[zy k D9]) rfl EA;simp at hc;obtain rfl:k=n:=D9;refine zB ?_;exact⟨_,T,rfl,d,ye (a _ _ d)⟩
def Ql(x:Inst)(j:Nat):Int:=W (yT x [(j:Int)])
def xU(x:Inst)(k i:Nat):List (List Int):=(range x.y.length).map λj=>replicate (if j<i then k+1 else k) (Ql x j)
def XN(x:Inst)(k i:Nat):(xU x k i).length=x.y.length:=by simp[xU]
def sK(x:Inst)(k i j:Nat)(h:j<x.y.length):(xU x k i).getD j []=replicate (if j<i then k+1 else k) (Ql x j):=by simp_all[xU]
def SF(x:Inst)(k:Nat):xU x k x.y.length=xU x (k+1) 0:=by simp[xU]
def SH(x:Inst)(k i:Nat)(h:i<x.y.length):(xU x k i).set i (replicate (k+1) (Ql x i))=xU x k (i+1):=by apply A3;grind[xU]
variable {A:Nat}
def SI{S:Store}{id ver:Nat}{ws:Nat->Nat}{v p f:PV}(k:Nat)(hx:x.y.length<=1000)(hk:k<=1000)(hid:id<vD)(e:id≠A)(hS:S id=.cells ver 255 (wU x v b p f (.sl A vF 1 0 x.y.length)))
  (a:RowsAt S A vF 26 vD 3 1 ws (xU x k 0)) :
  SP 183 [.ptr id ver 0,I k] S (λ_ S'=>(∃a0,RowsAt S' A vF 26 vD 3 1 a0 (xU x (k+1) 0))/\∀o,o≠A->(o<vD\/vD+x.y.length<=o)->S' o=S o):=by
 refine i' func183 λnx hd=>?_;have d:id<nx:=qA hd hS EA;have g:A<nx:=qA hd a.arr EA;have h:∀i,i<x.y.length->vD+i<nx:=λi hi=>qA hd (a.ag i (by simp_all[XN])) EA;have xw:=λobs=>(zL (S:=S) (obs:=obs) d).trans hS;refine aF [] xw ?_;refine zn (xC (σ:=Nat × Store × (Nat->Nat)) (λs=>s.1<=x.y.length/\RowsAt s.2.1 A vF 26 vD 3 1 s.2.2 (xU x k s.1)/\∀o,o≠A->(o<vD\/vD+x.y.length<=o)->s.2.1 o=S o)
  (λs=>[(0,.ptr id ver 0),(10,I x.y.length),(11,I s.1)]) (λs=>s.2.1) (λ_=>[]) (λs=>x.y.length-s.1) (zY (0,S,ws) [] ⟨by simp,a,λ_ _ _=>rfl⟩ EA rfl EA) ?_)
 clear a;rintro⟨i,T,ws⟩ ⟨hi,a,r⟩;simp only at hi a r ⊢;refine EJ ?_;refine ze (zA rfl (λhc=>?_) (λhc=>?_));simp at hc;have l:T id=.cells ver 255 (wU x v b p f (.sl A vF 1 0 x.y.length)):=(r id e (.inl hid)).trans hS;have a4:=a.out;have t:=a.ag i (by simp_all[XN]);rw[sK x k i i hc,if_neg (CW i)]at t;have u:=h i hc;have xw:=λobs=>(zL (S:=T) (obs:=obs) d).trans l;have xa:=λobs=>(zL (S:=T) (obs:=obs) g).trans a.arr;have xr:=λobs=>(zL (S:=T) (obs:=obs) u).trans t;have ya:=λ(o:Ob) obs=>(zL (S:=T.set (vD+i) o) (obs:=obs) g).trans ((q10 _ _ _ _ D9).trans a.arr);have yw:=λ(o:Ob) obs=>(zL (S:=T.set (vD+i) o) (obs:=obs) d).trans ((q10 _ _ _ _ D9).trans l);have zw:=λ(o o':Ob) obs=>(zL (S:=(T.set (vD+i) o).set A o') (obs:=obs) d).trans ((q10 _ _ _ _ e).trans ((q10 _ _ _ _ D9).trans l));have g1:¬nx<=vD+i:=D9;have g2:¬nx<=A:=D9;obtain⟨tl,n⟩:=iI vD 1 ws (xU x k i) i (by simp_all[XN]);rw[sK x k i i hc,if_neg (CW i),B8]at n;have w:(uV vD 1 ws (xU x k i)).length=x.y.length:=by rw[iH,XN]
 have y:=gw (uV vD 1 ws (xU x k i)) i (.sl (vD+i) (ws i+1) 1 0 (k+1)) D9;have z:=nn x [(i:Int)] EA (λc hc=>by grind[qz]);have a1:∀m:Nat,((replicate m (Ql x i)).flatMap Enc.enc).length=m:=λm=>by simp
 refine zk (aA (EJ ?_));refine zC (some [id]) (Row.pures [0,1,2,3,4,5,6,7,8,9,10,12,13,14,15,16,17,18,19] (.alt 11 (.alt 20 (Row.pures [21] (.alt 22 (.done) .stop)) .stop) .stop)) (zN xw xa xr ya yw (zq (zN zw n g1 g2 y w) hc)) ?_;refine zK (z) (zN xw xa xr ya yw (zq (zN zw n g1 g2 y w) hc)) ?_;refine⟨by omega,by omega,?_⟩;obtain⟨T',q⟩:∃T',T'=(T.set (vD+i) (.cells (ws i+1) 3 ((replicate (k+1) (Ql x i)).flatMap Enc.enc))).set A (.cells vF 26 ((uV vD 1 ws (xU x k i)).set i (.sl (vD+i) (ws i+1) 1 0 (replicate (k+1) (Ql x i)).length))):=⟨_,rfl⟩;have j:=a.turn (i:=i) (by simp_all[XN]) (T':=T') (ws i+1) (replicate (k+1) (Ql x i)) EI (by rw[q,q10 _ _ _ _ D9,q11]) (λo o1 o2=>by simp_all[q10]);rw[SH x k i hc]at j;refine zg ?_;refine zv (i+1,T',_) [] ⟨hc,j,λo ho a2=>?_⟩ D9 (by simp[zy i D9]) ?_ EA;dsimp only;rw[q,q10 _ _ _ _ ho,q10 _ _ _ _ D9];exact r o ho a2;dsimp only;rw[q];have a5:((replicate k (Ql x i)).flatMap Enc.enc).take k=(replicate k (Ql x i)).flatMap Enc.enc:=Ad (by rw[a1];exact Ag _);simp_all[Dh,Ql];simp at hc;obtain rfl:i=x.y.length:=D9;rw[SF]at a;refine zB ?_;have a3:yh nx T:=λo ho=>by have h1:o≠A:=D9;by_cases h2:o<vD\/vD+x.y.length<=o;rw[r o h1 h2];exact hd o ho;have:=h (o-vD) D9;omega
 exact⟨_,T,rfl,⟨⟨ws,a⟩,r⟩,ye a3⟩
def Qm(k:Nat)(l:List Int):List Int:=l.set k (W (W (2*l.getD k 0)+1))
def Zu(pr:List (List Int))(k i:Nat):List (List Int):=(range pr.length).map λj=>if j<i then Qm k (pr.getD j []) else pr.getD j []
def Va(fs:List Int)(pr:List (List Int))(k:Nat):List (List Int):=if fs.getD k 0=14 then pr.map (Qm k) else pr
def Vb(fs:List Int)(pr:List (List Int)):Nat->List (List Int)
 |0=>pr
 |k+1=>Va fs (Vb fs pr k) k
def sL(k:Nat)(l:List Int):(Qm k l).length=l.length:=by simp[Qm]
def aL(pr:List (List Int))(k i:Nat):(Zu pr k i).length=pr.length:=by simp[Zu]
def iQ(pr:List (List Int))(k i j:Nat)(h:j<pr.length):(Zu pr k i).getD j []=if j<i then Qm k (pr.getD j []) else pr.getD j []:=by simp_all[Zu]
def SJ(pr:List (List Int))(k:Nat):Zu pr k 0=pr:=by apply A3;grind[Zu]
def SK(pr:List (List Int))(k:Nat):Zu pr k pr.length=pr.map (Qm k):=by apply A3;grind[Zu]
def SL(pr:List (List Int))(k i:Nat)(h:i<pr.length):(Zu pr k i).set i (Qm k (pr.getD i []))=Zu pr k (i+1):=by apply A3;grind[Zu]
def Yh(m n:Nat)(pr:List (List Int)):Prop:=pr.length=m/\∀l∈pr,l.length=n/\∀z∈l,zU z
def iR(x:Int):zU (W x):=by
 have key:∀m:Int,0<=m->m<2^64->zU (if (true&&decide (m>=2^(64-1)))=true then m-2^64 else m):=by intro m h1 h2;unfold zU;by_cases h:m>=2^(64-1);simp[h];omega;simp[h];omega
 exact key _ (Int.emod_nonneg x EG) (Int.emod_lt_of_pos x EG)
def SM{m:Nat}{pr:List (List Int)}(fs:List Int)(k:Nat)(h:Yh m n pr):Yh m n (Va fs pr k):=by unfold Va;split;refine⟨by simp[h.1],λl hl=>?_⟩;obtain⟨l',a,rfl⟩:=Ak.1 hl;rw[sL];refine⟨(h.2 l' a).1,λz b=>?_⟩;obtain b|rfl:=Bo b;exact(h.2 l' a).2 z b;exact iR _;omega
theorem aM{m:Nat}{pr:List (List Int)}(fs:List Int)(h:Yh m n pr):∀k,Yh m n (Vb fs pr k)
 |0=>h
 |k+1=>SM fs k (aM fs h k)
def sM(x:Inst)(n:Nat):Yh x.y.length n (xU x n 0):=by refine⟨XN x n 0,λl hl=>?_⟩;obtain⟨j,_,rfl⟩:=Ak.1 hl;refine⟨by simp,λz a=>?_⟩;rw[(List.mem_replicate.1 a).2];exact iR _
variable {base idF:Nat}
def SN{S:Store}{id ver:Nat}{ws:Nat->Nat}{v p:PV}{m:Nat}{pr:List (List Int)}(k:Nat)(hm:m<=1000)(hn:n<=1000)(a6:k<n)(hid:id<base)(d1:id≠A)(hF:S idF=.cells vF 49 (fs.flatMap Enc.enc))(d3:fs.length=n)
  (hS:S id=.cells ver 255 (wU x v b p (.sl idF vF 1 0 fs.length) (.sl A vD 1 0 m))) (hP:Yh m n pr) (c:RowsAt S A vD 26 base 3 1 ws pr) :
  SP 188 [.ptr id ver 0,I k] S (λ_ S'=>RowsAt S' A vD 26 base 3 1 ws (Va fs pr k)/\∀o,(o<base\/base+m<=o)->S' o=S o):=by
 obtain⟨a0,a7⟩:=hP;refine i' func188 λnx hd=>?_;have q:id<nx:=qA hd hS EA;have a1:idF<nx:=qA hd hF EA;have f:A<nx:=qA hd c.arr EA;have g:∀i,i<m->base+i<nx:=λi hi=>qA hd (c.ag i D9) EA;have xw:=λobs=>(zL (S:=S) (obs:=obs) q).trans hS;have xf:=λobs=>(zL (S:=S) (obs:=obs) a1).trans hF;obtain⟨e,d4,e1,-,-,e0⟩:=zH rfl fs k D9;have a8:k<fs.length:=D9;have d5:fs.getD k 0=e:=by rw[Aa,e1];rfl
 refine ze (aF [] (zM xw xf e0 a8) ?_);by_cases he:e=14;case neg =>
  refine zo (by simp[he]) ?_;exact zj ⟨_,S,rfl,⟨by simp_all[Va],λ_ _=>rfl⟩,ye hd⟩
 refine zp (by simp[he]) ?_;refine zk (aF [] xw ?_);have r:∀T:Store,(∀o,(o<base\/base+m<=o)->T o=S o)->yh nx T:=λT t o ho=>by by_cases h2:o<base\/base+m<=o;rw[t o h2];exact hd o ho;have:=g (o-base) D9;omega
 refine zn (xC (σ:=Nat × Store) (λs=>s.1<=m/\RowsAt s.2 A vD 26 base 3 1 ws (Zu pr k s.1)/\∀o,(o<base\/base+m<=o)->s.2 o=S o)
  (λs=>[(0,.ptr id ver 0),(1,I k),(17,I m),(18,I s.1)]) (λs=>s.2) (λ_=>[]) (λs=>m-s.1) (zY (0,S) [] ⟨by simp,by simp_all[SJ],λ_ _=>rfl⟩ EA rfl EA) ?_)
 have d2:=c.out;clear c;rintro⟨i,T⟩ ⟨hi,c,t⟩;simp only at hi c t ⊢;refine EJ ?_;refine ze (zA rfl (λhc=>?_) (λhc=>?_));simp at hc;have a:i<pr.length:=D9;have a2:T id=.cells ver 255 (wU x v b p (.sl idF vF 1 0 fs.length) (.sl A vD 1 0 m)):=(t id (.inl hid)).trans hS;have u:=c.ag i (by simp_all[aL]);rw[iQ pr k i i a,if_neg (CW i)]at u;obtain⟨tl,w⟩:=iI base 1 ws (Zu pr k i) i (by simp_all[aL]);rw[iQ pr k i i a,if_neg (CW i)]at w;have a9:(uV base 1 ws (Zu pr k i)).length=m:=by rw[iH,aL,a0]
 have y:(pr.getD i []).length=n:=by rw[Aa,Ac a];exact(a7 _ (AY a)).1
 generalize h:pr.getD i []=row at u w y;obtain⟨z,d6,z1,-,-,z0⟩:=zH rfl row k D9;have b7:row.getD k 0=z:=by rw[Aa,z1];rfl
 have a3:k<row.length:=D9;have a4:=g i hc;have xw:=λobs=>(zL (S:=T) (obs:=obs) q).trans a2;have xa:=λobs=>(zL (S:=T) (obs:=obs) f).trans c.arr;have xr:=λobs=>(zL (S:=T) (obs:=obs) a4).trans u;have yw:=λ(o:Ob) obs=>(zL (S:=T.set (base+i) o) (obs:=obs) q).trans ((q10 _ _ _ _ D9).trans a2);have ya:=λ(o:Ob) obs=>(zL (S:=T.set (base+i) o) (obs:=obs) f).trans ((q10 _ _ _ _ D9).trans c.arr);have g1:¬nx<=base+i:=D9;have b8:=iP (α:=Int) rfl row k (W (W (2*z)+1)) a3;have a5:yr (row.flatMap Enc.enc) k [I (W (W (2*z)+1))]=(row.set k (W (W (2*z)+1))).flatMap Enc.enc:=by simpa using b8
 have c6:(row.flatMap Enc.enc).length=n:=by rw[ju,y];simp[Enc.sz]
 refine zk (aA (EJ ?_));refine zC (some [id,A]) (Row.pures [0,1,2,3,4,5,6,7,8,9,10,11,12,13,15] (.alt 14 (Row.pures [16] (.alt 17 (Row.pures [18,19,20] (.alt 21 (.done) .stop)) .stop)) .stop)) (zN xw xa xr yw ya (zq (zN w g1 a9 hc z0 a3) (zM a5 c6 y a6))) ?_;refine⟨by omega,?_⟩;obtain⟨T',d⟩:∃T',T'=T.set (base+i) (.cells (ws i) 3 ((Qm k row).flatMap Enc.enc)):=⟨_,rfl⟩;have l:=c.turn (i:=i) (by rw[aL];omega) (T':=T') (ws i) (Qm k row) (by rw[d,q10 _ _ _ _ D9,c.arr];congr 1;refine(A3 λj=>?_).symm;rw[BG];split;rename_i c7;subst c7;rw[if_pos D9,so _ _ _ _ _ (by rw[aL];omega),iQ pr k i i a,if_neg (CW i),h,sL];rfl) (by rw[d];simp) (λo o1 o2=>by rw[d];exact q10 _ _ _ _ o2);have c8:(λk=>if k=i then ws i else ws k)=ws:=by funext j;split<;>simp_all
 rw[c8,<-h,SL pr k i a]at l;refine zg ?_;refine zv (i+1,T') [] ⟨hc,l,λo d0=>?_⟩ D9 (by simp[zy i D9]) ?_ EA;dsimp only;rw[d,q10 _ _ _ _ D9];exact t o d0;dsimp only;rw[d];simp only[Qm,b7];simp at hc;obtain rfl:i=m:=D9;rw[<-a0,SK]at c;refine zB ?_;exact⟨_,T,rfl,⟨by simp_all[Va],t⟩,ye (r T t)⟩
def Qn(e:Int):Bool:=decide (e≠0)&&decide (e≠14)
def SO(e:Int):PP 187 [I e] (B (Qn e)):=by unfold Qn;refine c9 func187 λS nx a=>?_;by_cases h1:e=0;refine aF [(2,5)] (zq h1 zz) ?_;exact zj (zm a rfl (by simp[zr,h1]));by_cases h2:e=14;refine aF [(2,5)] (zD h1 h2 zz) ?_;exact zj (zm a rfl (by simp[zr,h2]));refine aF [(2,5)] (zD h1 h2 zz) ?_;exact zj (zm a rfl EI)
def SQ{S:Store}(fs:List Int)(c:S idF=.cells vF 49 (fs.flatMap Enc.enc))(hl:fs.length<=1000):
  SP 230 [.sl idF vF 1 0 fs.length,.fn (.func 187) [] []] S (λq S'=>(∃z:Int,q=I z/\(fs.any Qn=decide (0<=z)))/\S'=S):=by
 refine i' func230 λnx b=>?_;have a:idF<nx:=qA b c EA;have d:=λobs=>(zL (S:=S) (obs:=obs) a).trans c;refine EJ ?_;refine ze (EJ ?_);refine zn (zF (λk:Nat=>k<=fs.length/\∀e∈fs.take k,Qn e=false) (λk=>[(0,.sl idF vF 1 0 fs.length),(1,.fn (.func 187) [] []),(7,I fs.length),(8,I k)]) (λ_=>[]) (λk=>fs.length-k) 0 [] EA EA EA ?_);rintro k ⟨g,h0⟩;refine EJ ?_;refine ze (zA rfl (λhc=>?_) (λhc=>?_))
 .simp at hc;obtain⟨e,tl,h,i,a3,f⟩:=zH rfl fs k hc;refine zk (aA (EJ ?_));refine aF [] (zD d f hc) ?_;refine zu (SO e) ?_;cases hb:Qn e with
  |true =>
  refine zo rfl (EJ ?_);exact zj ⟨_,S,rfl,⟨⟨k,by simp,by grind⟩,rfl⟩,ye b⟩
  |false =>
  refine zp rfl (zk (zg ?_));exact zv (k+1) [] ⟨hc,λy j=>by grind⟩ D9 (by simp[zy k D9]) rfl EA
 simp at hc;obtain rfl:k=fs.length:=D9;rw[Ah]at h0;refine zB (EJ ?_);exact zj ⟨_,S,rfl,⟨⟨-1,by simp,by simp_all⟩,rfl⟩,ye b⟩
variable {S:Store}
def SR(fs:List Int)(c:S idF=.cells vF 49 (fs.flatMap Enc.enc))(hl:fs.length<=1000):
  SP 186 [.sl idF vF 1 0 fs.length,.fn (.func 187) [] []] S (λq S'=>q=B (fs.any Qn)/\S'=S):=by
 refine i' func186 λnx d=>?_;have a:idF<nx:=qA d c EA;refine EJ ?_;refine EJ ?_;refine λb=>((SQ fs ((zL a).trans c) hl).mono ?_).v;rintro _ _ ⟨⟨z,rfl,e⟩,rfl⟩;refine⟨_,_,rfl,zS b ?_⟩;exact zj ⟨_,S,rfl,⟨by simp[zr,e],rfl⟩,ye d⟩
def Yi(x:Inst)(sol:Cust->List Int->List Visit × Bool)(pr:List (List Int))(k:Nat):List (List Visit × Bool):=(range k).map λi=>sol (x.y.getD i default) (pr.getD i [])
def jC(x:Inst)(sol:Cust->List Int->List Visit × Bool)(pr:List (List Int)):List (List Visit) × Int:=if (Yi x sol pr x.y.length).all (·.2)=true then ((Yi x sol pr x.y.length).map (·.1),0) else ([],15)
def SS(x:Inst)(a:Cust->List Int->List Visit × Bool)(pr:List (List Int))(k:Nat):Yi x a pr (k+1)=Yi x a pr k++[a (x.y.getD k default) (pr.getD k [])]:=by simp[Yi,AO]
def sN(x:Inst)(a:Cust->List Int->List Visit × Bool)(pr:List (List Int)){m:Nat}(h:k<m):a (x.y.getD k default) (pr.getD k [])∈Yi x a pr m:=Ak.2 ⟨k,AI.2 h,rfl⟩
def iS(x:Inst)(n:Nat)(sol:Cust->List Int->List Visit × Bool):Prop :=
 ∀c∈x.y,∀(l:List Int),l.length=n->(∀z∈l,zU z)->∀(S:Store) (pl:PV),RowOf S pl l->SP 224 [.agg (yf c),I x.days,I x.R,pl] S (λq S'=>q=.tup [L (sol c l).1,B (sol c l).2]/\S'=S)
def SU{ws:Nat->Nat}{pr:List (List Int)}{a:Cust->List Int->List Visit × Bool}(hx:x.y.length<=1000)(hP:Yh x.y.length n pr)(y:RowsAt S A vF 26 base 3 1 ws pr)(hs:iS x n a):
  SP 184 [.agg (zE x),.sl A vF 1 0 x.y.length] S (λq S'=>q=.tup [L (jC x a pr).1,I (jC x a pr).2]/\S'=S):=by
 obtain⟨a7,a0⟩:=hP;refine i' func184 λnx u=>?_;have j:A<nx:=qA u y.arr EA;have xa:=λobs=>(zL (S:=S) (obs:=obs) j).trans y.arr;refine EJ ?_;intro v0;refine EJ ?_;refine ze (qa 6 144 1 rfl λv1=>?_);refine EJ ?_;refine zn (zF (λs:Nat × List (List Visit) × Nat=>s.1<=x.y.length/\s.2.1=(Yi x a pr s.1).map (·.1)/\(Yi x a pr s.1).all (·.2)=true) (λ(i,out,w)=>[(1,.sl A vF 1 0 x.y.length),(2,.ptr nx v0 0),(4,.sc (.slice none 0 0)),(6,.sl (nx+1) w 1 0 out.length),(13,L x.y),(14,I x.y.length),(15,I i)]) (λ(i,out,w)=>[.cells v0 25 (zE x),.cells w 144 (out.flatMap Enc.enc)]) (λs=>x.y.length-s.1) (0,[],v1) [] (by simp[Yi]) EA EA ?_);rintro⟨i,out,w⟩ ⟨hi,ho,f⟩;simp only at hi ho f ⊢;have a8:out.length=i:=by rw[ho];simp[Yi]
 refine EJ ?_;refine ze (zA rfl (λhc=>?_) (λhc=>?_))
 .simp at hc;obtain⟨c,tl,a1,a2,a3,e1,e0⟩:=el 8 rfl x.y i hc;have a4:=Ab a1;have a5:x.y.getD i default=c:=by rw[Aa,a1];rfl
  have g:i<pr.length:=D9;obtain⟨a9,l⟩:=iI base 1 ws pr i g;obtain⟨m,o⟩:(pr.getD i []).length=n/\∀z∈pr.getD i [],zU z:=by rw[Aa,Ac g];exact a0 _ (AY g)
  have h:RowOf S (.sl (base+i) (ws i) 1 0 (pr.getD i []).length) (pr.getD i []):=.inr ⟨_,_,rfl,y.ag i g⟩;have b:=hs c a4 (pr.getD i []) m o;have e:=SS x a pr i;have d:=sN x a pr (k:=i) hc;rw[a5]at e d;generalize pr.getD i []=row at l m o h b e d;generalize hr:a c row=r at b e d;obtain⟨vv,ok⟩:=r;simp only at b e;refine zk (aA (aF [] (zq e0 hc) ?_));intro v2;refine EJ ?_;refine ze (EJ ?_);refine zo (by simp[hc]) ?_;refine zi [] (zD xa l hc) ?_;refine EJ ?_;refine λp=>((b _ _ (h.ext u _)).mono ?_).v;rintro _ _ ⟨rfl,rfl⟩;refine⟨_,_,rfl,zS p ?_⟩;refine ze (EJ ?_);cases ok with
  |false =>
  have a6:jC x a pr=([],15):=by unfold jC;rw[if_neg];intro q;have:=Av.1 q _ d;cases this
  rw[a6];refine zo rfl (EJ ?_);refine Zh 4 rfl ?_;exact zj ⟨_,S,rfl,⟨by simp[zr],rfl⟩,ye u⟩
  |true =>
  refine zp rfl (zk (zg ?_));refine⟨by omega,?_⟩;refine zg ?_;exact zv (i+1,out++[vv],w+1) [_] ⟨hc,by rw[e,map_append,ho];rfl,by rw[e,BN,f];rfl⟩ ED (by simp[zy i D9]) rfl EB
 simp at hc;obtain rfl:i=x.y.length:=D9;have t:jC x a pr=(out,0):=by unfold jC;rw[if_pos f,<-ho]
 rw[t];refine zB (yc 1 rfl ?_);refine EJ ?_;exact zj ⟨_,S,EB,⟨by simp[zr],rfl⟩,ye u⟩
def ZY(x:Inst)(p:zG)(i:Nat):Int :=
 match x.y[i]? with
 |none=>0
 |some c=>if c.kind=2 then uS c (qc c (yN (yJ i (told 0 p)) x.days)).1 else 0
def qe(x:Inst)(p:zG)(k:Nat):Int:=((range k).map (ZY x p)).sum
def iT(x:Inst)(p:zG)(k:Nat):qe x p (k+1)=qe x p k+ZY x p k:=by simp[qe,AO]
def iU(c:Cust)(q:List Int)(a:q.length<=1048576):(qc c q).1.length<=1048576:=by
 unfold qc;split;simp;cases h:qV c.size c.H c.Q q with
 |none=>simp
 |some l=>simp[rO h];exact a
def Vc(v:List Visit)(n:Int):(yN v n).length<=1048576:=by rw[aw];omega
def iV(x:Inst)(p:zG)(h:Serves x p)(hx:x.y.length<=1048576)(hf:∀c∈x.y,CustFits c):PP 47 [.agg (zE x),.agg [L p]] (I (W (qe x p x.y.length))):=by
 refine c9 func47 λS nx g=>?_;intro v0 v1;refine EJ ?_;refine ze (EJ ?_);refine zn (zF (λs:Nat=>s<=x.y.length) (λk=>[(2,.ptr nx v0 0),(3,.ptr (nx+1) v1 0),(5,I (W (qe x p k))),(11,L x.y),(12,I x.y.length),(13,I k)]) (λ_=>[.cells v0 25 (zE x),.cells v1 31 [L p]]) (λs=>x.y.length-s) 0 [] EA (by simp[qe]) EA ?_);rintro k l;refine EJ ?_;refine ze (zA rfl (λhc=>?_) (λhc=>?_));simp at hc;obtain⟨c,tl,b,m,a3,_,i⟩:=el 8 rfl x.y k hc;have d:=hf c (Ab b);have hs:=iT x p k;refine zk (aA (aF [] (zq hc i) ?_));intro n;refine EJ ?_;by_cases a:c.kind=2;have hb:=rX x p k h;have hn:=iu c (yN (yJ k (told 0 p)) x.days) d (Vc _ _);have f:=iv c (qc c (yN (yJ k (told 0 p)) x.days)).1 (iU _ _ (Vc _ _));have e:ZY x p k=uS c (qc c (yN (yJ k (told 0 p)) x.days)).1:=by simp only[ZY,b,if_pos a]
 rw[e]at hs;generalize uS c (qc c (yN (yJ k (told 0 p)) x.days)).1=z at *;generalize qc c (yN (yJ k (told 0 p)) x.days)=ne at *;generalize yN (yJ k (told 0 p)) x.days=q at *;obtain⟨ns,o⟩:=ne;simp only at hn f;refine zo (by simp[a]) ?_;refine aG (some [nx,nx+1,nx+2]) Rp n' ?_;refine zK (hb) n' ?_;refine zK (hn) n' ?_;refine zg ?_;refine zu f ?_;have j:W (W (qe x p k)+z)=W (qe x p (k+1)):=by rw[hs,uk]
 refine zg ?_;exact zv (k+1) [_] hc D9 (by simp[zy k D9];exact j) rfl rfl;have e:ZY x p k=0:=by simp only[ZY,b,if_neg a]
 rw[e,Dv]at hs;refine zp (by simp[a]) ?_;refine zk (zg ?_);exact zv (k+1) [_] hc D9 (by simp[zy k D9,hs]) rfl rfl;simp at hc;obtain rfl:k=x.y.length:=D9;refine zB (EJ ?_);exact EK g
def sO(x:Inst)(p:zG)(h:Serves x p)(hx:x.y.length<=1048576)(hf:∀c∈x.y,CustFits c):PP 52 [.agg (zE x),.agg [L p]] (I (W (qe x p x.y.length))):=by
 refine c9 func52 λS nx i=>?_;intro v0 v1;refine EJ ?_;refine ze (EJ ?_);refine zn (zF (λs:Nat=>s<=x.y.length) (λk=>[(2,.ptr nx v0 0),(3,.ptr (nx+1) v1 0),(5,I (W (qe x p k))),(6,I k)]) (λ_=>[.cells v0 25 (zE x),.cells v1 31 [L p]]) (λs=>x.y.length-s) 0 [] EA (by simp[qe]) EA ?_);rintro k m;refine ze (EJ ?_);refine zA rfl (λhc=>?_) (λhc=>?_);simp at hc;obtain⟨c,tl,b,n,a3,_,j⟩:=el 8 rfl x.y k hc;have d:=hf c (Ab b);have hs:=iT x p k;refine zk (aA (aF [] (zq hc j) ?_));intro o;refine EJ ?_;by_cases a:c.kind=2;have e:=rQ p k h.sz;have hb:=rP (yJ k (told 0 p)) x.days (dC h k).1;have hn:=rN c (yN (yJ k (told 0 p)) x.days) d (Vc _ _);have g:=Pm c (qc c (yN (yJ k (told 0 p)) x.days)).1 (iU _ _ (Vc _ _));have f:ZY x p k=uS c (qc c (yN (yJ k (told 0 p)) x.days)).1:=by simp only[ZY,b,if_pos a]
 rw[f]at hs;generalize uS c (qc c (yN (yJ k (told 0 p)) x.days)).1=z at *;generalize qc c (yN (yJ k (told 0 p)) x.days)=ne at *;generalize yN (yJ k (told 0 p)) x.days=q at *;generalize yJ (k:Int) (told 0 p)=v at *;obtain⟨ns,r⟩:=ne;simp only at hn g;refine zo (by simp[a]) ?_;refine aG (some [nx,nx+1,nx+2]) Rt n' ?_;refine zK (e) n' ?_;refine zK (hb) n' ?_;refine zK (hn) n' ?_;refine zg ?_;refine zu g ?_;have l:W (W (qe x p k)+z)=W (qe x p (k+1)):=by rw[hs,uk]
 refine zg ?_;exact zv (k+1) [_] hc D9 (by simp[zy k D9];exact l) rfl rfl;have f:ZY x p k=0:=by simp only[ZY,b,if_neg a]
 rw[f,Dv]at hs;refine zp (by simp[a]) ?_;refine zk (zg ?_);exact zv (k+1) [_] hc D9 (by simp[zy k D9,hs]) rfl rfl;simp at hc;obtain rfl:k=x.y.length:=D9;refine zB (EJ ?_);exact EK i
def yX(x:Inst)(p:zG):List Int:=p.map λd=>W (yl x d)
def SV(x:Inst)(p:zG)(i:p.length<=1048576)(b:∀d∈p,DayOk d)(S:Store)(nx:Nat)(e:yh nx S):
  SP 49 [.agg (zE x),.agg [L p]] S (λq S'=>∃v,q=.sl (nx+2) v 1 0 p.length/\S'=S.set (nx+2) (.cells v 3 ((yX x p).flatMap Enc.enc))):=by
 refine ZI e func49 ntmps49 results49 ?_;refine EJ ?_;intro v0 v1;refine EJ ?_;refine ze (qa 5 3 1 rfl λa=>?_);refine EJ ?_;refine zn (zF (λs:Nat × List Int × Nat=>s.1<=p.length/\s.2.1=yX x (p.take s.1)) (λ(k,out,a)=>[(2,.ptr nx v0 0),(3,.ptr (nx+1) v1 0),(5,.sl (nx+2) a 1 0 out.length),(9,L p),(10,I p.length),(11,I k)]) (λ(k,out,a)=>[.cells v0 25 (zE x),.cells v1 31 [L p],.cells a 3 (out.flatMap Enc.enc)]) (λs=>p.length-s.1) (0,[],a) [] (by simp[yX]) EA EA ?_);rintro⟨k,out,a⟩ ⟨f,ho⟩;simp only at f ho ⊢;have c:out.length=k:=by rw[ho];simp[yX];omega
 refine EJ ?_;refine ze (zA rfl (λhc=>?_) (λhc=>?_));simp at hc;obtain⟨d,tl,g,l,a3,h⟩:=zH rfl p k hc;refine zk (aA (aF [] (zq hc h) ?_));intro v3;refine zg ?_;refine zu (WD x d (b d (Ab g))) ?_;refine⟨by omega,?_⟩;refine zg ?_;exact zv (k+1,out++[W (yl x d)],a+1) [_] ⟨hc,by rw[a3,ho];simp[yX]⟩ ED (by simp[zy k D9]) rfl EB;simp at hc;obtain rfl:k=p.length:=D9;rw[Ah]at ho;refine zB (EJ ?_);refine zj ⟨_,_,rfl,⟨a,by simp[zr,c],rfl⟩,Xo (j:=2) e (by simp[ho])⟩
def iW(x:Inst)(p:zG)(b:p.length<=1048576)(a:∀d∈p,DayOk d):PP 49 [.agg (zE x),.agg [L p]] (L (yX x p)):=by
 have hl:(yX x p).length=p.length:=by simp[yX]
 have:=cx 2 (λS nx c=>SV x p b a S nx c) (by rw[jV,hl];omega);rw[<-hl]at this;exact this
def qW(x:Inst)(p:zG):Int:=W (qe x p x.y.length+(p.map (yl x)).sum)
def SX(a:Int)(l:List Int):W (a+(l.map W).sum)=W (a+l.sum):=by
 induction l generalizing a with
 |nil=>rfl
 |cons b l c =>
 simp only[Aw,BE];have d:a+(W b+(l.map W).sum)=(a+W b)+(l.map W).sum:=D9;rw[d,c,show a+W b+l.sum=(a+l.sum)+W b by omega,cw,show a+l.sum+b=a+(b+l.sum) by omega]
def SY(x:Inst)(p:zG):W (W (qe x p x.y.length)+(yX x p).sum)=qW x p:=by
 have:yX x p=(p.map (yl x)).map W:=by simp[yX]
 rw[this,uk,SX,qW]
def sP(x:Inst)(p:zG)(h:Serves x p)(hx:x.y.length<=1048576)(hf:∀c∈x.y,CustFits c)(e:∀d∈p,DayOk d):PP 46 [.agg (zE x),.agg [L p]] (I (qW x p)):=by
 have a:=SY x p;have hl:(yX x p).length=p.length:=by simp[yX]
 have f:=h.sz.n;have b:=iW x p f e;rw[<-a];generalize yX x p=ds at hl b;refine c9 func46 λS nx g=>?_;intro v0 v1;refine EJ ?_;refine zu (iV x p h hx hf) ?_;refine ze (EJ ?_);refine zu b ?_;refine zn (zF (λs:Nat=>s<=ds.length) (λk=>[(5,I (W (W (qe x p x.y.length)+(ds.take k).sum))),(13,L ds),(14,I ds.length),(15,I k)]) (λ_=>[]) (λs=>ds.length-s) 0 [_,_] EA (by simp[W_W]) rfl ?_);rintro k l;refine EJ ?_;refine ze (zA rfl (λhc=>?_) (λhc=>?_));simp at hc;obtain⟨z,tl,m,o,a3,i⟩:=zH rfl ds k hc;have j:W (W (W (qe x p x.y.length)+(ds.take k).sum)+z)=W (W (qe x p x.y.length)+(ds.take (k+1)).sum):=by rw[a3,WX,uk];congr 1;omega
 refine zk (aA (aF [] (zq hc i) ?_));refine zg ?_;refine zg ?_;exact zv (k+1) [] hc D9 (by simp[zy k D9];exact j) rfl EA;simp at hc;obtain rfl:k=ds.length:=D9;rw[Ah];refine zB (EJ ?_);exact EK g
def SZ(x:Inst)(p:zG)(h:Serves x p)(hx:x.y.length<=1048576)(hf:∀c∈x.y,CustFits c)(a:∀d∈p,DayOk d):PP 15 [.agg (zE x),.agg [L p]] (I (qW x p)):=by
 have e:=h.sz.n;refine c9 func15 λS nx f=>?_;intro v0 v1;refine EJ ?_;refine zu (sO x p h hx hf) ?_;refine ze (EJ ?_);refine zn (zF (λs:Nat=>s<=p.length) (λk=>[(2,.ptr nx v0 0),(3,.ptr (nx+1) v1 0),(5,I (W (qe x p x.y.length+((p.take k).map (yl x)).sum))),(6,I k)]) (λ_=>[.cells v0 25 (zE x),.cells v1 31 [L p]]) (λs=>p.length-s) 0 [] EA EA EA ?_);rintro k l;refine ze (EJ ?_);refine zA rfl (λhc=>?_) (λhc=>?_);simp at hc;obtain⟨d,tl,g,m,a3,i⟩:=zH rfl p k hc;have j:W (W (qe x p x.y.length+((p.take k).map (yl x)).sum)+W (yl x d))=W (qe x p x.y.length+((p.take (k+1)).map (yl x)).sum):=by rw[a3,map_append,D1,uk,cw];simp;congr 1;omega
 refine zk (aA (zC (some [nx,nx+1]) Ri (zq hc i) ?_));refine zK (nM x d (a d (Ab g))) n' ?_;refine zg ?_;exact zv (k+1) [] hc D9 (by rw[<-j];simp[zy k D9]) rfl EA;simp at hc;obtain rfl:k=p.length:=D9;have b:(p.map (yl x)).take p.length=p.map (yl x):=Ad EA;refine zB (EJ ?_);exact zj (zm f EB (by simp[b,qW,zr]))
def ZZ(p:zG):Nat:=(p.map λd=>d.flatten.length).sum
theorem iX:∀(p:zG) (i:Nat),(told i p).length=ZZ p
 |[],_=>rfl
 |d::p,i=>by have:=iX p (i+1);simp only[told,length_append,length_map,ZZ,Aw,BE]at this ⊢;omega
theorem sQ:∀(d:zt),(∀t∈d,t≠[])->d.length<=d.flatten.length
 |[],_=>by simp
 |t::d,h=>by have h1:=sQ d λu a=>h u (by simp[a]);have h2:=Bt.2 (h t EA);simp only[BB,Ae,length_append];omega
theorem dL:∀(d:zt) (t:zT),t∈d->t.length<=d.flatten.length
 |[],_,h=>by cases h
 |u::d,t,h=>by simp only[BB,length_append];obtain rfl|h:=Am.1 h;omega;have:=dL d t h;omega
def lx:Inst:=⟨1,1,9,9,[],[[0]]⟩
def ly:Inst:=⟨1,1,9,9,[⟨1,1,[1],0,0,0,0,0⟩],[[0,3],[4,0]]⟩
def lp:zG:=[[]]
def Ta:∀i:Nat,yR 1 i=1<->i=0:=by
 intro i;cases i with
 |zero=>simp[yR]
 |succ i=>simp[yR,Nat.div_eq_of_lt (show 1<2^(i+1) from Nat.one_lt_two_pow D9)]
theorem sR(p:Nat):∀k:Nat,k<=64->∀i:Nat,yR (wA p k) i=1->i<k
 |0,_,i,h=>by simp[wA,yR]at h
 |k+1,b,i,h=>by
  have a:=sR p k D9 i;unfold wA at h;split at h;rw[rY _ _ (cD p k) D9]at h;have h2:((wA p k ||| 2^k).testBit i)=true:=by rw[W0];unfold jz at h;rw[if_pos D9,AN]at h;simp[h]
  rw[Dz,CL,Dl]at h2;obtain h2|h2:=h2;rw[W0]at h2;have:=a (by simpa using h2);omega;have:k=i:=by simpa using h2
  omega;have:=a h;omega
theorem aN{p a:Nat}{d:Int}(h:d∈yM p a k):∃i:Nat,d=i/\i<k/\yR p i=1:=by simp only[yM,Ak,Bu,AI,Ar,decide_eq_true_eq]at h;obtain⟨i,⟨h1,_,h3⟩,rfl⟩:=h;exact⟨i,rfl,h1,h3⟩
def sS(c:Cust)(days:Int)(h1:1<=days)(g:days<=7):CustMade (xG c days) days.toNat:=by unfold xG;split;have a:=wP c.H 0 9 D9;have b:=wP c.size 1 30 D9;have d:=wP c.Q 0 (yS c.size 1 30) D9;exact⟨⟨by dsimp only;omega,by dsimp only;omega,by dsimp only;omega⟩,by simp,by simp,λh=>by simp at h⟩;have a:=wP c.O 1 15 D9;refine⟨⟨by simp,by simp,by simp⟩,?_,?_,λ_=>⟨?_,by dsimp only;omega,by dsimp only;omega⟩⟩;intro p e;simp only[Yv]at e;split at e;simp only[AX]at e;omega;obtain⟨q,_,rfl⟩:=Ak.1 e;exact cD q _;simp only[Yv];split;simp;simp;omega;intro p e d f;obtain⟨i,rfl,_,hb⟩:=aN f;simp only[Yv]at e;split at e;simp only[AX]at e;subst e;have:=(Ta i).1 hb;omega;obtain⟨q,_,rfl⟩:=Ak.1 e;have:=sR q days.toNat D9 i hb;omega
def aO(x:Inst):1<=(yW x).days/\(yW x).days<=7:=wP x.days 1 7 D9
def Tb(x:Inst):0<=(yW x).R/\(yW x).R<=40:=wP x.R 0 40 D9
def Tc(x:Inst):0<=(yW x).U/\(yW x).U<=5:=wP x.U 0 5 D9
def Td(x:Inst):0<=(yW x).len/\(yW x).len<=300:=wP x.len 0 300 D9
def Te(x:Inst):(yW x).y.length<=6:=by simp[yW];omega
def iY(x:Inst){c:Cust}(h:c∈(yW x).y):∃c0,c=xG c0 (yW x).days:=by simp only[yW,Ak]at h;obtain⟨c0,_,rfl⟩:=h;exact⟨c0,rfl⟩
def Tf(x:Inst)(v c l:Int):Inst:=⟨(yW x).days,v,c,l,(yW x).y,(yW x).J⟩
def Tg{t:zT}(a:t∈d){s:Stop}(hs:s∈t):s∈d.flatten:=BA.2 ⟨t,a,hs⟩
def sT{m:Nat}:∀(l:List Int),l.Nodup->(∀c∈l,0<=c/\c<m)->l.length<=m:=by
 intro l hn hl;have h1:(l.map Int.toNat).Nodup:=by refine List.Pairwise.map _ ?_ (List.Pairwise.and_mem.1 hn);rintro a b ⟨f,hb,d⟩ e;have:=hl a f;have:=hl b hb;exact d D9
 have h2:∀c∈l.map Int.toNat,c∈range m:=by intro c hc;obtain⟨z,g,rfl⟩:=Ak.1 hc;have:=hl z g;exact AI.2 D9
 have:=h1.length_le_of_subset h2;simpa using this
def iZ(p:Nat)(a:p<2^64):PP 297 [U p] (L (yM p 0 64)):=by have h:=rS p 0 a EG;refine c9 func297 λS nx b=>?_;refine EJ ?_;refine zu h ?_;exact zj (zm b rfl rfl)
def Th(c:Cust)(p:Nat)(e:p<2^64):PP 279 [.agg (yf c),U p] (L (JU c p)):=by
 have a:=iZ p e;have b:=JR p 0 64;unfold JU;generalize yM p 0 64=l at a b;refine c9 func279 λS nx f=>?_;intro v0;refine EJ ?_;refine ze (qa 5 197 2 rfl λv1=>?_);refine EJ ?_;refine zu a ?_;refine zn (zF (λs:Nat × List Visit × Nat=>s.1<=l.length/\s.2.1=(l.take s.1).map λd=>⟨d,c.O⟩) (λ(k,out,v1)=>[(2,.ptr nx v0 0),(5,.sl (nx+1) v1 2 0 out.length),(9,L l),(10,I l.length),(11,I k)]) (λ(k,out,v1)=>[.cells v0 59 (yf c),.cells v1 197 (out.flatMap Enc.enc)]) (λs=>l.length-s.1) (0,[],v1) [] EA EA EA ?_);rintro⟨k,out,v1⟩ ⟨g,ho⟩;simp only at g ho ⊢;have h:out.length=k:=by rw[ho];simp;omega
 refine EJ ?_;refine ze (zA rfl (λhc=>?_) (λhc=>?_));simp at hc;obtain⟨d,tl,j,m,a3,i⟩:=zH rfl l k hc;refine zk (aA (aF [] (zq i hc) ?_));refine zg ?_;refine⟨by omega,?_⟩;refine zg ?_;exact zv (k+1,out++[⟨d,c.O⟩],v1+1) [] ⟨hc,by rw[a3,ho];simp⟩ ED (by simp[zy k D9]) rfl EA;simp at hc;obtain rfl:k=l.length:=D9;rw[Ah]at ho;refine zB (yc 1 rfl ?_);refine EJ ?_;exact zj (zm f EB (by simp[zr,ho]))
def uY(price:List Int)(ds:List Int):Int:=ds.foldl (λ(s d:Int)=>if d<price.length then vQ s (price.getD d.toNat 0) else s) 0
def aP(price:List Int)(p:Nat):Int:=uY price (yM p 0 64)
def wK(price:List Int)(l:List Nat):Nat->Int × Int
 |0=>(-1,0)
 |k+1=>if (wK price l k).1<0\/aP price (l.getD k 0)<(wK price l k).2 then (k,aP price (l.getD k 0)) else wK price l k
theorem kf(price:List Int)(l:List Nat):∀k:Nat,(wK price l k).1<k/\-1<=(wK price l k).1/\(0<k->0<=(wK price l k).1)
 |0=>by simp[wK]
 |k+1=>by have:=kf price l k;unfold wK;split;dsimp only;omega;rename_i h;omega
def Ti(a b:Int)(c:zU a)(hb:zU b):zU (vQ a b):=by unfold zU vQ at *;split;omega;split<;>omega
def Tj(price ds:List Int)(d:Int):uY price (ds++[d])=if d<price.length then vQ (uY price ds) (price.getD d.toNat 0) else uY price ds:=by simp[uY]
def Tk(price:List Int)(a:∀z∈price,zU z)(ds:List Int):zU (uY price ds):=by
 unfold uY;have:∀(ds:List Int) (s:Int),zU s->zU (ds.foldl (λ(s d:Int)=>if d<price.length then vQ s (price.getD d.toNat 0) else s) s):=by
  intro ds;induction ds with
  |nil=>intro s h;exact h
  |cons d ds b =>
  intro s h;rw[Ba];apply b;split
  .refine Ti _ _ h ?_;rw[Aa];cases c:price[d.toNat]? with
   |none=>unfold zU;simp
   |some z=>exact a z (Ab c)
  exact h
 exact this ds 0 (by unfold zU;omega)
variable {g:PV}
def Tl(l:List Nat)(hR:RowOf S g fs)(hp:∀z∈fs,zU z)(a0:fs.length<=1000)(hl:l.length<=1000)(o:∀p∈l,p<2^64):
  SP 278 [L l,g] S (λq S'=>q=.tup [I (wK fs l l.length).1,I (wK fs l l.length).2]/\S'=S):=by
 refine i' func278 λnx n=>?_;refine EJ ?_;refine EJ ?_;refine ze (EJ ?_);refine zn (zF (λk:Nat=>k<=l.length) (λk=>[(1,g),(6,I (wK fs l k).1),(7,I (wK fs l k).2),(13,L l),(14,I l.length),(15,I k)]) (λ_=>[]) (λk=>l.length-k) 0 [] EA (by simp[wK]) EA ?_);rintro k hk;have hb:wK fs l (k+1)=if (wK fs l k).1<0\/aP fs (l.getD k 0)<(wK fs l k).2 then (↑k,aP fs (l.getD k 0)) else wK fs l k:=rfl;generalize r:wK fs l k=st at hb ⊢;obtain⟨place,a⟩:=st;simp only at hb ⊢;refine EJ ?_;refine ze (zA rfl (λhc=>?_) (λhc=>?_));simp at hc;obtain⟨p,tl,a1,a2,a3,e0⟩:=zH rfl l k hc;have f:=iZ p (o p (Ab a1));have s:l.getD k 0=p:=by rw[Aa,a1];rfl
 rw[s]at hb;have m:∀d∈yM p 0 64,∃i:Nat,d=i:=λd n=>by obtain⟨i,h,_⟩:=aN n;exact⟨i,h⟩
 have u:=JR p 0 64;rw[show aP fs p=uY fs (yM p 0 64) from rfl]at hb;generalize yM p 0 64=ds at f m u hb;refine zk (aA (aF [] (zq e0 hc) ?_));refine EJ ?_;refine ze (EJ ?_);refine zu f ?_;refine zn (zF (λj:Nat=>j<=ds.length) (λj=>[(1,g),(6,I place),(7,I a),(8,I k),(10,I (uY fs (ds.take j))),(13,L l),(14,I l.length),(15,I k),(21,L ds),(22,I ds.length),(23,I j)]) (λ_=>[]) (λj=>ds.length-j) 0 [] EA (by simp[uY]) EA ?_);rintro j hj;refine EJ ?_;refine ze (zA rfl (λb=>?_) (λb=>?_));simp at b;obtain⟨d,a4,b1,b2,b3,f0⟩:=zH rfl ds j b;obtain⟨i,rfl⟩:=m d (Ab b1);have c:=Tj fs (ds.take j) (i:Int);rw[<-b3,AN]at c;have v:=Tk fs hp (ds.take j);refine zk (aA (aF [] (zq f0 b) ?_));by_cases hi:i<fs.length;obtain⟨z,a5,c1,-,-,g0⟩:=zH rfl fs i hi;have w:fs.getD i 0=z:=by rw[Aa,c1];rfl
 rw[if_pos D9,w]at c;have e:=dr (uY fs (ds.take j)) z v (hp z (Ab c1));rw[<-c]at e;obtain rfl|⟨id,ver,rfl,x⟩:=hR;refine aF [] hi ?_;refine zo rfl (zi [] (zq g0 hi) ?_);refine zu e ?_;refine zg ?_;exact zv (j+1) [] b D9 (by simp[zy j D9]) rfl EA;have y:id<nx:=qA n x EA;have xr:=λobs=>(zL (S:=S) (obs:=obs) y).trans x;refine aF [] hi ?_;refine zo rfl (zi [] (zD xr g0 hi) ?_);refine zu e ?_;refine zg ?_;exact zv (j+1) [] b D9 (by simp[zy j D9]) rfl EA;rw[if_neg D9]at c;obtain rfl|⟨id,ver,rfl,x⟩:=hR;refine aF [] hi ?_;refine zp rfl (zk (zg ?_));exact zv (j+1) [] b D9 (by simp[zy j D9,c]) rfl EA;refine aF [] hi ?_;refine zp rfl (zk (zg ?_));exact zv (j+1) [] b D9 (by simp[zy j D9,c]) rfl EA;simp at b;obtain rfl:j=ds.length:=D9;rw[Ah];refine zB (ze (qg (nx:=nx) (σ:=Bool) (λt=>t=decide (place<0\/uY fs ds<a)) (λt=>[(1,g),(6,I place),(7,I a),(8,I k),(10,I (uY fs ds)),(13,L l),(14,I l.length),(15,I k),(44,B t)]) (λ_=>S) (λ_=>[]) ?_ ?_));by_cases h1:place<0;refine zi [(2,40)] (zq h1 zz) ?_;exact zY true [] (by simp[h1]) EA rfl EA;refine zi [(2,40)] h1 ?_;exact zY (decide (uY fs ds<a)) [] (by simp[h1]) EA rfl EA;rintro t rfl;by_cases h:place<0\/uY fs ds<a;rw[decide_eq_true h];rw[if_pos h]at hb;refine zo rfl (zg ?_);refine zg ?_;exact zv (k+1) [] hc D9 (by simp[zy k D9,hb]) rfl EA;rw[decide_eq_false h];rw[if_neg h]at hb;refine zp rfl (zk (zg ?_));exact zv (k+1) [] hc D9 (by simp[zy k D9,hb]) rfl EA;simp at hc;obtain rfl:k=l.length:=D9;refine zB (EJ ?_);exact zj ⟨_,S,rfl,⟨by simp[zr,r],rfl⟩,ye n⟩
def Z0(c:Cust)(cap:Int):List Nat:=c.D.filter λp=>decide (p=0)||decide (c.O<=cap)
def Tm(c:Cust)(cap:Int)(hl:c.D.length<=1000):PP 277 [.agg (yf c),I cap] (L (Z0 c cap)):=by
 unfold Z0;refine c9 func277 λS nx e=>?_;intro v0;refine EJ ?_;refine ze (qa 5 65 1 rfl λv1=>?_);refine EJ ?_;refine zn (zF (λs:Nat × List Nat × Nat=>s.1<=c.D.length/\s.2.1=(c.D.take s.1).filter (λp=>decide (p=0)||decide (c.O<=cap))/\s.2.1.length<=s.1) (λ(k,out,w)=>[(1,I cap),(2,.ptr nx v0 0),(5,.sl (nx+1) w 1 0 out.length),(9,L c.D),(10,I c.D.length),(11,I k)]) (λ(k,out,w)=>[.cells v0 59 (yf c),.cells w 65 (out.flatMap Enc.enc)]) (λs=>c.D.length-s.1) (0,[],v1) [] EA EA EA ?_);rintro⟨k,out,w⟩ ⟨f,ho,d⟩;simp only at f ho d ⊢;refine EJ ?_;refine ze (zA rfl (λhc=>?_) (λhc=>?_))
 .simp at hc;obtain⟨p,tl,h,i,a3,g⟩:=zH rfl c.D k hc;refine zk (aA (aF [] (zq g hc) ?_));refine ze (qg (nx:=nx) (σ:=Bool × Nat) (λs=>s.1=(decide (p=0)||decide (c.O<=cap))) (λ(t,w)=>[(1,I cap),(2,.ptr nx v0 0),(5,.sl (nx+1) w 1 0 out.length),(7,U p),(9,L c.D),(10,I c.D.length),(11,I k),(22,B t)]) (λ_=>S) (λ(t,w)=>[.cells v0 59 (yf c),.cells w 65 (out.flatMap Enc.enc)]) ?_ ?_);by_cases h1:p=0;refine zi [(2,17)] (zq h1 zz) ?_;exact zY (true,w) [] (by simp[h1]) (by simp[h1]) rfl EA;refine zi [(2,17)] h1 ?_;exact zY (decide (c.O<=cap),w) [] (by simp[h1]) EA rfl EA;rintro⟨t,w⟩ b;simp only at b ⊢;subst b;have a:(c.D.take (k+1)).filter (λp=>decide (p=0)||decide (c.O<=cap))=out++(if (decide (p=0)||decide (c.O<=cap))=true then [p] else []):=by rw[a3,Cd,ho];congr 1;simp only[Ck,List.filter_nil]
  cases b:(decide (p=0)||decide (c.O<=cap)) with
  |true =>
  rw[b,if_pos rfl]at a;refine zo rfl (zg ?_);refine⟨by omega,?_⟩;refine zg ?_;exact zv (k+1,out++[p],w+1) [] ⟨hc,a.symm,by simp;omega⟩ ED (by simp[zy k D9]) rfl EA
  |false =>
  rw[b,if_neg EG,Ay]at a;refine zp rfl (zk (zg ?_));exact zv (k+1,out,w) [] ⟨hc,a.symm,by dsimp only;omega⟩ ED (by simp[zy k D9]) rfl EA
 simp at hc;obtain rfl:k=c.D.length:=D9;rw[Ah]at ho;refine zB (yc 1 rfl ?_);refine EJ ?_;exact zj (zm e EB (by simp[zr,ho]))
def YG(c:Cust)(cap:Int)(price:List Int):List Visit × Bool :=
 if (wK price (Z0 c cap) (Z0 c cap).length).1<0 then ([],false) else (JU c ((Z0 c cap).getD (wK price (Z0 c cap) (Z0 c cap).length).1.toNat 0),true)
def Tn{e:PV}(c:Cust)(cap:Int)(f:RowOf S e fs)(g:∀z∈fs,zU z)(j:fs.length<=1000)(hl:c.D.length<=1000)(k:∀p∈c.D,p<2^64):
  SP 258 [.agg (yf c),I cap,e] S (λq S'=>q=.tup [L (YG c cap fs).1,B (YG c cap fs).2]/\S'=S):=by
 have m:=Tm c cap hl;have a:∀p∈Z0 c cap,p<2^64:=λp g=>k p (Bu.1 g).1;have n:(Z0 c cap).length<=1000:=AF (BO _ _) hl;unfold YG;generalize Z0 c cap=l at *;have hb:=λS (f:RowOf S e fs)=>Tl l f g j n a;obtain⟨b1,b2,b3⟩:=kf fs l l.length;generalize wK fs l l.length=r at *;obtain⟨place,o⟩:=r;simp only at hb b1 b2 b3 ⊢;refine i' func258 λnx s=>?_;refine EJ ?_;intro v0;refine EJ ?_;refine zu m ?_;refine EJ ?_;refine λd=>((hb _ (f.ext s _)).mono ?_).v;rintro _ _ ⟨rfl,rfl⟩;refine⟨_,_,rfl,zS d ?_⟩;refine ze (EJ ?_);by_cases h:place<0;rw[if_pos h];refine zo (by simp[h]) ?_;refine EJ ?_;refine Zh 6 rfl ?_;exact zj ⟨_,S,rfl,⟨by simp[zr],rfl⟩,ye s⟩;rw[if_neg h];obtain⟨i,rfl⟩:=Az (show 0<=place by omega);have b:i<l.length:=D9;obtain⟨p,tl,w,y,a3,x⟩:=zH rfl l i b;have t:l.getD (i:Int).toNat 0=p:=by rw[AN,Aa,w];rfl
 rw[t];have u:=Th c p (a p (Ab w));refine aC (aG (some [nx]) Rh (zq x b) ?_);refine zK (u) (zq x b) ?_;exact zj ⟨_,S,EB,⟨by simp[zr],rfl⟩,ye s⟩
def To{b:PV}(c:Cust)(n cap:Int)(h:c.kind=1)(d:RowOf S b fs)(i:∀z∈fs,zU z)(e:fs.length<=1000)(hl:c.D.length<=1000)(f:∀p∈c.D,p<2^64):
  SP 224 [.agg (yf c),I n,I cap,b] S (λq S'=>q=.tup [L (YG c cap fs).1,B (YG c cap fs).2]/\S'=S):=by
 have hs:=λS (d:RowOf S b fs)=>Tn c cap d i e hl f;generalize YG c cap fs=r at *;obtain⟨v,ok⟩:=r;simp only at hs ⊢;refine i' func224 λnx g=>?_;refine EJ ?_;intro v0;refine aA (aF [] h ?_);refine zo rfl (EJ ?_);refine λa=>((hs _ (d.ext g _)).mono ?_).v;rintro _ _ ⟨rfl,rfl⟩;refine⟨_,_,rfl,zS a ?_⟩;exact zj ⟨_,S,EB,⟨by simp[zr],rfl⟩,ye g⟩
def uZ(c:Cust)(there cap:Int):Int:=if c.size-there<1\/cap<0 then 0 else if c.size-there<=cap then c.size-there else if c.X=1 then 0 else cap
variable {cap:Int}
def sU{c:Cust}(hc:0<=c.size/\c.size<=2147483648)(a:0<=rate):0<=uZ c rate cap/\uZ c rate cap<=2147483648:=by unfold uZ;split;omega;split;omega;split<;>omega
def kh(c:Cust)(there cap:Int)(hc:0<=c.size/\c.size<=2147483648)(e:-4611686018427387904<=there/\there<=4611686018427387904):PP 281 [.agg (yf c),I there,I cap] (I (uZ c there cap)):=by have d:i64.wrap (c.size-there)=c.size-there:=wr _ D9 D9;unfold uZ;generalize hf:c.size-there=f at d ⊢;refine c9 func281 λS nx a=>?_;intro v0;refine aF [] (zq hf d) ?_;refine aA ?_;by_cases h:f<1\/cap<0;rw[if_pos h];by_cases h1:f<1;refine aF [(2,15)] (zq h1 zz) ?_;refine zo rfl (EJ ?_);exact zj (zm a rfl rfl);have h2:cap<0:=D9;refine aF [(2,15)] (zq h1 h2) ?_;refine zo rfl (EJ ?_);exact zj (zm a rfl rfl);rw[if_neg h];have h1:¬f<1:=D9;have h2:¬cap<0:=D9;refine aF [(2,15)] (zq h1 h2) ?_;refine zp rfl (EJ ?_);by_cases h3:f<=cap;rw[if_pos h3];refine zo (by simp[h3]) ?_;refine EJ ?_;exact zj (zm a rfl rfl);rw[if_neg h3];refine zp ED ?_;refine EJ ?_;by_cases b:c.X=1;rw[if_pos b];refine zo (by simp[b]) ?_;refine EJ ?_;exact zj (zm a rfl rfl);rw[if_neg b];refine zp (by simp[b]) ?_;refine zk (EJ ?_);exact zj (zm a rfl rfl)
def QZ(price:List Int)(d:Int):Int:=if d<0\/(price.length:Int)<=d then 0 else price.getD d.toNat 0
variable {j:PV}
def ki(d:Int)(l:RowOf S j fs):
  SP 226 [j,I d] S (λq S'=>q=I (QZ fs d)/\S'=S):=by
 unfold QZ;obtain rfl|⟨id,ver,rfl,k⟩:=l;refine i' func226 λnx a=>?_;refine EJ ?_;by_cases h:d<0;rw[if_pos (.inl h)];refine ze (aF [(2,7)] (zq h zz) ?_);refine zo rfl (EJ ?_);exact zj ⟨_,S,rfl,⟨by simp[zr],rfl⟩,ye a⟩;by_cases h2:(fs.length:Int)<=d;rw[if_pos (.inr h2)];refine ze (aF [(2,7)] (zq h h2) ?_);refine zo rfl (EJ ?_);exact zj ⟨_,S,rfl,⟨by simp[zr],rfl⟩,ye a⟩;rw[if_neg D9];obtain⟨i,rfl⟩:=Az (show 0<=d by omega);have hi:i<fs.length:=D9;obtain⟨z,tl,c,-,-,e⟩:=zH rfl fs i hi;have f:fs.getD (i:Int).toNat 0=z:=by rw[AN,Aa,c];rfl
 rw[f];have b:¬fs.length<=i:=D9;refine ze (aF [(2,7)] (zD h h2 b) ?_);refine zp rfl (zk (aF [] (zq e hi) ?_));exact zj ⟨_,S,rfl,⟨by simp[zr],rfl⟩,ye a⟩;refine i' func226 λnx a=>?_;have g:id<nx:=qA a k EA;have m:=λobs=>(zL (S:=S) (obs:=obs) g).trans k;refine EJ ?_;by_cases h:d<0;rw[if_pos (.inl h)];refine ze (aF [(2,7)] (zq h zz) ?_);refine zo rfl (EJ ?_);exact zj ⟨_,S,rfl,⟨by simp[zr],rfl⟩,ye a⟩;by_cases h2:(fs.length:Int)<=d;rw[if_pos (.inr h2)];refine ze (aF [(2,7)] (zq h h2) ?_);refine zo rfl (EJ ?_);exact zj ⟨_,S,rfl,⟨by simp[zr],rfl⟩,ye a⟩;rw[if_neg D9];obtain⟨i,rfl⟩:=Az (show 0<=d by omega);have hi:i<fs.length:=D9;obtain⟨z,tl,c,-,-,e⟩:=zH rfl fs i hi;have f:fs.getD (i:Int).toNat 0=z:=by rw[AN,Aa,c];rfl
 rw[f];have b:¬fs.length<=i:=D9;refine ze (aF [(2,7)] (zD h h2 b) ?_);refine zp rfl (zk (aF [] (zD m e hi) ?_));exact zj ⟨_,S,rfl,⟨by simp[zr],rfl⟩,ye a⟩
theorem sV:∀(l m:List Int) (i:Nat),qC i (l++m)=qC i l++qC (i+l.length) m
 |[],m,i=>by simp[qC]
 |z::l,m,i=>by have a:=sV l m (i+1);simp only[cons_append,qC,Ae,a,show i+1+l.length=i+(l.length+1) from by omega];split<;>simp
def sW(q:List Int)(f:q.length<=1048576):PP 284 [L q] (L (qC 0 q)):=by
 refine c9 func284 λS nx c=>?_;refine EJ ?_;refine ze (qa 3 197 2 rfl λv1=>?_);refine EJ ?_;refine zn (zF (λs:Nat × List Visit × Nat=>s.1<=q.length/\s.2.1=qC 0 (q.take s.1)) (λ(k,out,w)=>[(3,.sl nx w 2 0 out.length),(6,L q),(7,I q.length),(8,I k)]) (λ(k,out,w)=>[.cells w 197 (out.flatMap Enc.enc)]) (λs=>q.length-s.1) (0,[],v1) [] (by simp[qC]) EA EA ?_);rintro⟨k,out,w⟩ ⟨b,ho⟩;simp only at b ho ⊢;have d:out.length<=k:=by rw[ho];exact AF (dJ _ _) ED
 refine EJ ?_;refine ze (zA rfl (λhc=>?_) (λhc=>?_));simp at hc;obtain⟨z,tl,g,i,a3,e⟩:=zH rfl q k hc;have a:qC 0 (q.take (k+1))=out++(if 0<z then [⟨k,z⟩] else []):=by rw[a3,sV,<-ho,AA,Bm b];simp only[qC,AV]
 refine zk (aA (aF [] (zq e hc) ?_));refine EJ ?_;by_cases h:0<z;rw[if_pos h]at a;refine zo (by simp[h]) ?_;refine zg ?_;refine⟨by omega,?_⟩;refine zg ?_;exact zv (k+1,out++[⟨k,z⟩],w+1) [] ⟨hc,a.symm⟩ ED (by simp[zy k D9]) rfl EA;rw[if_neg h,Ay]at a;refine zp ED ?_;refine zk (zg ?_);exact zv (k+1,out,w) [] ⟨hc,a.symm⟩ ED (by simp[zy k D9]) rfl EA;simp at hc;obtain rfl:k=q.length:=D9;rw[Ah]at ho;refine zB (yc 0 rfl ?_);refine EJ ?_;exact zj (zm c EB (by simp[zr,ho]))
def qX(c:Cust)(f:Int->Int):Nat->List Int × Int
 |0=>([],c.Q)
 |k+1=>((qX c f k).1++[f (qX c f k).2],(qX c f k).2+(f (qX c f k).2-c.H))
def JV(c:Cust)(cap:Int)(t:Int):Int:=uZ c (max t 0) cap
def Q0(c:Cust)(cap:Int)(t:Int):Int:=if c.H<=t then 0 else uZ c (max t 0) cap
theorem Vd(c:Cust)(f:Int->Int):∀k,(qX c f k).1.length=k
 |0=>rfl
 |k+1=>by simp[qX,Vd c f k]
def kj{c:Cust}(hc:CustFits c)(cap t:Int):0<=JV c cap t/\JV c cap t<=2147483648:=sU hc.size D9
def km{c:Cust}(hc:CustFits c)(cap t:Int):0<=Q0 c cap t/\Q0 c cap t<=2147483648:=by unfold Q0;split;omega;exact sU hc.size D9
theorem Ve{c:Cust}(hc:CustFits c){f:Int->Int}(hf:∀t,0<=f t/\f t<=2147483648):∀k:Nat,(-4294967296*((k:Int)+1)<=(qX c f k).2/\(qX c f k).2<=4294967296*((k:Int)+1))/\Qs (qX c f k).1
 |0=>by have:=hc.Q;refine⟨by simp only[qX];omega,by intro z a;cases a⟩
 |k+1=>by obtain⟨h1,h2⟩:=Ve hc hf k;have h3:=hf (qX c f k).2;have b:=hc.H;refine⟨by simp only[qX];push_cast;omega,λz a=>?_⟩;simp only[qX]at a;obtain a|a:=AC.1 a;exact h2 z a;rw[AX.1 a];exact h3
def Tp(c:Cust)(cap t:Int)(hc:CustFits c)(d:-4611686018427387904<=t/\t<=4611686018427387904):PP 299 [I t,.ip (yf c),.ip [I cap]] (I (JV c cap t)):=by
 have hm:jU t 0=max t 0:=by unfold jU;split<;>omega
 have a:=kh c (max t 0) cap hc.size D9;unfold JV;generalize max t 0=m at hm a ⊢;generalize uZ c m cap=z at a ⊢;refine c9 func299 λS nx b=>?_;refine aF [] hm ?_;refine yK [] a hm ?_;exact zj (zm b rfl rfl)
def Tq(c:Cust)(cap t:Int)(hc:CustFits c)(d:-4611686018427387904<=t/\t<=4611686018427387904):PP 300 [I t,.ip (yf c),.ip [I cap]] (I (Q0 c cap t)):=by
 have hm:jU t 0=max t 0:=by unfold jU;split<;>omega
 have a:=kh c (max t 0) cap hc.size D9;unfold Q0;generalize max t 0=m at hm a ⊢;generalize uZ c m cap=z at a ⊢;refine c9 func300 λS nx b=>?_;refine ze (EJ ?_);by_cases h:c.H<=t;rw[if_pos h];refine zo (by simp[h]) ?_;refine EJ ?_;exact zj (zm b rfl rfl);rw[if_neg h];refine zp ED ?_;refine zk (aF [] hm ?_);refine yK [] a hm ?_;exact zj (zm b rfl rfl)
def sX(c:Cust)(n:Nat)(fn:FuncId)(b:List PV)(f:Int->Int)(hc:CustFits c)(hn:n<=1000)(hf:∀t,0<=f t/\f t<=2147483648)(h:∀t,(-4611686018427387904<=t/\t<=4611686018427387904)->Pure prog fn ([I t]++b) (I (f t))):
  PP 298 [.agg (yf c),I n,.fn (.func fn) [] b] (.tup [L (qX c f n).1,B (decide (uy c (qX c f n).1=0))]):=by
 have r:=hc.H;refine c9 func298 λS nx j=>?_;intro v0;refine EJ ?_;refine ze (qa 8 3 1 rfl λv1=>?_);refine zg ?_;refine ze (EJ ?_);refine zn (zF (λs:Nat × Nat=>s.1<=n) (λ(k,w)=>[(2,.fn (.func fn) [] b),(3,.ptr nx v0 0),(8,.sl (nx+1) w 1 0 (qX c f k).1.length),(9,I (qX c f k).2),(13,I n),(14,I k)]) (λ(k,w)=>[.cells v0 59 (yf c),.cells w 3 ((qX c f k).1.flatMap Enc.enc)]) (λs=>n-s.1) (0,v1) [] EA (by simp[qX]) (by simp[qX]) ?_);rintro⟨k,w⟩ l;simp only at l ⊢;obtain⟨g,-⟩:=Ve hc hf k;have hl:=Vd c f k;have a:qX c f (k+1)=((qX c f k).1++[f (qX c f k).2],(qX c f k).2+(f (qX c f k).2-c.H)):=rfl;generalize i:qX c f k=st at g hl a ⊢;obtain⟨q,t⟩:=st;simp only at g hl a ⊢;refine EJ ?_;refine ze (zA rfl (λd=>?_) (λd=>?_));simp at d;have m:=hf t;have e:=h t D9;have o:i64.wrap (f t-c.H)=f t-c.H:=wr _ D9 D9;have w2:i64.wrap (t+(f t-c.H))=t+(f t-c.H):=wr _ D9 D9;generalize f t=z at *;refine zk (aA (EJ ?_));refine zu e ?_;refine EJ ?_;refine⟨by omega,?_⟩;refine zi [] (zq o w2) ?_;refine zg ?_;exact zv (k+1,w+1) [] D9 ED (by simp[zy k D9,a]) rfl (by simp[a]);simp at d;obtain rfl:k=n:=D9;refine zB (yc 1 rfl ?_);have p:=rK c q hc D9;refine EJ ?_;refine zu p ?_;exact zj (zm j EB (by simp[zr,i]))
def YH(c:Cust)(n:Nat)(cap:Int):List Int × Bool:=((qX c (JV c cap) n).1,decide (uy c (qX c (JV c cap) n).1=0))
def Qo(c:Cust)(n:Nat)(cap:Int):List Int × Bool:=((qX c (Q0 c cap) n).1,decide (uy c (qX c (Q0 c cap) n).1=0))
def Tr(c:Cust)(n:Nat)(cap:Int)(hc:CustFits c)(hn:n<=1000):PP 283 [.agg (yf c),I n,I cap] (.tup [L (YH c n cap).1,B (YH c n cap).2]):=by have h:=sX c n 299 [.ip (yf c),.ip [I cap]] (JV c cap) hc hn (kj hc cap) (λt a=>Tp c cap t hc a);unfold YH;generalize qX c (JV c cap) n=r at h ⊢;refine c9 func283 λS nx b=>?_;intro v0 v1;refine vt 0 rfl ?_;refine vt 1 rfl ?_;refine EJ ?_;refine zu h ?_;exact EK b
def Ts(c:Cust)(n:Nat)(cap:Int)(hc:CustFits c)(hn:n<=1000):PP 285 [.agg (yf c),I n,I cap] (.tup [L (Qo c n cap).1,B (Qo c n cap).2]):=by have h:=sX c n 300 [.ip (yf c),.ip [I cap]] (Q0 c cap) hc hn (km hc cap) (λt a=>Tq c cap t hc a);unfold Qo;generalize qX c (Q0 c cap) n=r at h ⊢;refine c9 func285 λS nx b=>?_;intro v0 v1;refine vt 0 rfl ?_;refine vt 1 rfl ?_;refine EJ ?_;refine zu h ?_;exact EK b
def JW(price:List Int)(v:List Visit):Int:=v.foldl (λs w=>W (s+QZ price w.d)) 0
def Tt(price:List Int)(v:List Visit)(w:Visit):JW price (v++[w])=W (JW price v+QZ price w.d):=by simp[JW]
def Qp(c:Cust)(n:Int)(price:List Int)(v:List Visit):Int:=if c.kind=1 then JW price v else W (JW price v+uS c (qc c (yN v n)).1)
def ko(c:Cust)(n:Int)(v:List Visit)(l:RowOf S g fs)(hc:CustFits c)(hv:VisOk v):
  SP 225 [.agg (yf c),I n,g,L v] S (λq S'=>q=I (Qp c n fs v)/\S'=S):=by
 have m:=hv.n;have o:=λS (h:RowOf S g fs) d=>ki d h;unfold Qp;refine i' func225 λnx i=>?_;refine EJ ?_;intro v0;refine EJ ?_;refine ze (EJ ?_);refine zn (zF (λk:Nat=>k<=v.length) (λk=>[(1,I n),(3,L v),(4,.ptr nx v0 0),(9,I (JW fs (v.take k))),(2,g),(14,L v),(15,I v.length),(16,I k)]) (λ_=>[.cells v0 59 (yf c)]) (λk=>v.length-k) 0 [] EA (by simp[JW]) EA ?_);rintro k r;refine EJ ?_;refine ze (zA rfl (λa=>?_) (λa=>?_));simp at a;obtain⟨w,tl,s,t,a3,u,p⟩:=el 2 rfl v k a;have e:=Tt fs (v.take k) w;rw[<-a3]at e;refine zk (aA (aF [] (zq p a) ?_));intro x;refine zg ?_;refine λf=>((o _ (l.ext i _) _).mono ?_).v;rintro _ _ ⟨rfl,rfl⟩;refine⟨_,_,rfl,zS f ?_⟩;refine zg ?_;exact zv (k+1) [_] a D9 (by simp[zy k D9,e]) rfl EB;simp at a;obtain rfl:k=v.length:=D9;rw[Ah];refine zB ?_;refine ze (EJ ?_);by_cases b:c.kind=1;rw[if_pos b];refine zo (by simp[b]) ?_;refine EJ ?_;exact zj ⟨_,S,rfl,⟨by simp[zr],rfl⟩,ye i⟩;rw[if_neg b];have hb:=rM v n hv;have hn:=iu c (yN v n) hc (Vc _ _);have j:=iv c _ (iU c (yN v n) (Vc _ _));generalize qc c (yN v n)=ns at hn j ⊢;obtain⟨nl,ne⟩:=ns;simp only at hn j ⊢;refine zp (by simp[b]) ?_;refine zk (aG (some [nx]) Ri n' ?_);refine zK (hb) n' ?_;refine zK (hn) n' ?_;refine EJ ?_;refine zu j ?_;exact zj ⟨_,S,rfl,⟨by simp[zr],rfl⟩,ye i⟩
def XO(c:Cust)(n:Nat)(cap:Int)(price:List Int):List Visit × Bool :=
 if (Qo c n cap).2=true/\((YH c n cap).2=false\/Qp c n price (qC 0 (Qo c n cap).1)<=Qp c n price (qC 0 (YH c n cap).1)) then (qC 0 (Qo c n cap).1,true)
 else if (YH c n cap).2=true then (qC 0 (YH c n cap).1,true) else ([],false)
def sY(a:Qs q)(hl:q.length=n)(hn:n<=1000):VisOk (qC 0 q):=by refine⟨AF (dJ _ _) D9,λs hs=>?_,λs hs=>?_⟩;have:=dK q 0 a s hs;omega;have:=dK q 0 a s hs;unfold zU;omega
variable {f:PV}
def Tu(c:Cust)(n:Nat)(cap:Int)(g:RowOf S f fs)(hc:CustFits c)(hn:n<=1000):
  SP 260 [.agg (yf c),I n,I cap,f] S (λq S'=>q=.tup [L (XO c n cap fs).1,B (XO c n cap fs).2]/\S'=S):=by
 have m:=Tr c n cap hc hn;have o:=Ts c n cap hc hn;have p:(YH c n cap).1.length=n:=Vd _ _ _;have r:(Qo c n cap).1.length=n:=Vd _ _ _;have vD:VisOk (qC 0 (YH c n cap).1):=sY (Ve hc (kj hc cap) n).2 p hn;have s:VisOk (qC 0 (Qo c n cap).1):=sY (Ve hc (km hc cap) n).2 r hn;unfold XO;generalize YH c n cap=rd at *;generalize Qo c n cap=rl at *;obtain⟨i,t⟩:=rd;obtain⟨j,u⟩:=rl;simp only at m o p r vD s ⊢;have k:=sW i D9;have l:=sW j D9;have d:=λS (h:RowOf S f fs)=>ko (S:=S) c n (qC 0 i) h hc vD;have e:=λS (h:RowOf S f fs)=>ko (S:=S) c n (qC 0 j) h hc s;generalize qC 0 i=vd at *;generalize qC 0 j=vl at *;generalize Qp c n fs vd=zd at *;generalize Qp c n fs vl=zl at *;refine i' func260 λnx a=>?_;refine EJ ?_;intro v0;refine EJ ?_;refine zu m ?_;refine EJ ?_;refine zu k ?_;refine ze (EJ ?_);refine zu o ?_;refine EJ ?_;cases u with
 |true =>
  refine zo rfl (EJ ?_);refine zu l ?_;cases t with
  |false =>
  rw[if_pos ⟨rfl,.inl rfl⟩];refine aG (some [nx]) Ro zz ?_;refine zo rfl (EJ ?_);exact zj ⟨_,S,EB,⟨by simp[zr],rfl⟩,ye a⟩
  |true =>
  by_cases b:zl<=zd;rw[if_pos ⟨rfl,.inr b⟩];refine aG (some [nx]) RB zz ?_;refine(((e _ (g.ext a _)).mono ?_).v);rintro _ _ ⟨rfl,rfl⟩;refine⟨by simp[y8],xE zz ?_⟩;refine(((d _ (g.ext a _)).mono ?_).v);rintro _ _ ⟨rfl,rfl⟩;refine⟨by simp[y8],xE zz ?_⟩;refine zo (by simp[b]) ?_;refine EJ ?_;exact zj ⟨_,S,EB,⟨by simp[zr],rfl⟩,ye a⟩;rw[if_neg (by rintro⟨-,q|q⟩;cases q;exact b q),if_pos rfl];refine aG (some [nx]) RB zz ?_;refine(((e _ (g.ext a _)).mono ?_).v);rintro _ _ ⟨rfl,rfl⟩;refine⟨by simp[y8],xE zz ?_⟩;refine(((d _ (g.ext a _)).mono ?_).v);rintro _ _ ⟨rfl,rfl⟩;refine⟨by simp[y8],xE zz ?_⟩;refine zp ED ?_;refine zk ?_;refine ze (EJ ?_);refine zp rfl (zk (EJ ?_));exact zj ⟨_,S,EB,⟨by simp[zr],rfl⟩,ye a⟩
 |false =>
 rw[if_neg (by rintro⟨q,-⟩;cases q)];refine zp rfl (zk ?_);refine ze (EJ ?_);cases t with
 |false =>
 rw[if_neg EG];refine zo rfl (EJ ?_);refine Zh 8 rfl ?_;exact zj ⟨_,S,rfl,⟨by simp[zr],rfl⟩,ye a⟩
 |true =>
 rw[if_pos rfl];refine zp rfl (zk (EJ ?_));exact zj ⟨_,S,EB,⟨by simp[zr],rfl⟩,ye a⟩
def jY(c:Cust)(last d:Int):Int × Int :=
 ((if last<0 then c.Q else c.size)-c.H*((if last<0 then d else d-last).toNat:Int),
  uS c ((range (if last<0 then d else d-last).toNat).map λ(i:Nat)=>(if last<0 then c.Q else c.size)-c.H*((i:Int)+1)))
def sZ(c:Cust)(a d:Int)(hc:CustFits c)(hl:-1<=a/\a<=64)(o:0<=d/\d<=64):PP 280 [.agg (yf c),I a,I d] (.tup [I (jY c a d).1,I (jY c a d).2]):=by
 have h1:=hc.H;have h2:=hc.size;have h3:=hc.Q;have w0:i64.wrap (d-a)=d-a:=wr _ D9 D9;have key:jY c a d=(let t0:=if a<0 then c.Q else c.size;let m:=if a<0 then d else d-a;(t0-c.H*(m.toNat:Int),uS c ((range m.toNat).map λ(i:Nat)=>t0-c.H*((i:Int)+1)))):=rfl;rw[key];obtain⟨t0,b⟩:∃t0,t0=if a<0 then c.Q else c.size:=⟨_,rfl⟩;obtain⟨m,hm⟩:∃m,m=if a<0 then d else d-a:=⟨_,rfl⟩;have p:0<=t0/\t0<=2147483648:=by rw[b];split<;>omega
 have q:-64<=m/\m<=65:=by rw[hm];split<;>omega
 rw[<-b,<-hm];clear key;simp only;refine c9 func280 λS nx r=>?_;intro v0;refine aF [] w0 ?_;refine ze (qg (nx:=nx) (σ:=Unit) (λ_=>True) (λ_=>[(3,.ptr nx v0 0),(8,I t0),(9,I m)]) (λ_=>S) (λ_=>[.cells v0 59 (yf c)]) ?_ ?_);refine EJ ?_;by_cases h:a<0;rw[if_pos h]at b hm;refine zo (by simp[h]) ?_;refine zg ?_;exact zY () [] n' (by simp[b,hm]) rfl EA;rw[if_neg h]at b hm;refine zp ED ?_;exact zk (zY () [] n' (by simp[b,hm]) rfl EA);intro _ _;refine EJ ?_;refine ze (qa 10 3 1 rfl λv1=>?_);refine EJ ?_;have e:∀k:Nat,k<=65->0<=c.H*(k:Int)/\c.H*(k:Int)<=2147483648*65:=λk l=>⟨CF h1.1 D9,CG h1.2 D9 D9 D9⟩;refine zn (zF (λs:Nat × Nat=>s.1<=m.toNat) (λ(k,w)=>[(3,.ptr nx v0 0),(8,I (t0-c.H*(k:Int))),(10,.sl (nx+1) w 1 0 ((range k).map λ(i:Nat)=>t0-c.H*((i:Int)+1)).length),(21,I m),(22,I k)]) (λ(k,w)=>[.cells v0 59 (yf c),.cells w 3 (((range k).map λ(i:Nat)=>t0-c.H*((i:Int)+1)).flatMap Enc.enc)]) (λs=>m.toNat-s.1) (0,v1) [] EA EA EA ?_);rintro⟨k,w⟩ l;simp only at l ⊢;have x:=e k D9;have t:=e (k+1);have n:c.H*((k:Int)+1)=c.H*(k:Int)+c.H:=by rw[DL,Int.mul_one]
 have f:((range (k+1)).map λ(i:Nat)=>t0-c.H*((i:Int)+1))=((range k).map λ(i:Nat)=>t0-c.H*((i:Int)+1))++[t0-c.H*((k:Int)+1)]:=by simp[AO]
 have u:((range k).map λ(i:Nat)=>t0-c.H*((i:Int)+1)).length=k:=EA;generalize g:((range k).map λ(i:Nat)=>t0-c.H*((i:Int)+1))=ls at *
 by_cases j:(k:Int)<m;have v:i64.wrap (t0-c.H*(k:Int)-c.H)=t0-c.H*((k:Int)+1):=by rw[wr _ D9 D9];omega
 refine EJ ?_;refine ze (zo (by simp[j]) ?_);refine zk (aA (aF [] v ?_));refine zg ?_;refine⟨by omega,?_⟩;refine zg ?_;exact zv (k+1,w+1) [] ED ED (by simp[zy k D9,f];) rfl (by simp[f]);refine EJ ?_;refine ze (zp ED ?_);obtain rfl:k=m.toNat:=D9;refine zB (yc 1 rfl ?_);refine EJ ?_;refine zu (iv c ls D9) ?_;exact zj (zm r EB (by simp[zr,g]))
def Q1(c:Cust)(st:List Visit × Int)(d:Int):List Visit × Int:=(st.1++[⟨d,W (c.size-(jY c st.2 d).1)⟩],d)
def xV(c:Cust)(ds:List Int):List Visit × Int:=ds.foldl (Q1 c) ([],-1)
def dM(c:Cust)(ds:List Int)(d:Int):xV c (ds++[d])=Q1 c (xV c ds) d:=by simp[xV]
def tc(c:Cust):∀ds:List Int,(xV c ds).1.length=ds.length:=by
 have:∀(ds:List Int) (st:List Visit × Int),(ds.foldl (Q1 c) st).1.length=st.1.length+ds.length:=by
  intro ds;induction ds with
  |nil=>intro st;simp
  |cons d ds a=>intro st;rw[Ba,a];simp[Q1];omega
 intro ds;unfold xV;rw[this];simp
def Tv(c:Cust)(p:Nat)(u:p<2^64)(hc:CustFits c):PP 282 [.agg (yf c),U p] (L (xV c (yM p 0 64)).1):=by
 have e:=iZ p u;have m:=JR p 0 64;have g:∀d∈yM p 0 64,0<=d/\d<64:=λd n=>by obtain⟨i,h,h2,_⟩:=aN n;omega
 generalize yM p 0 64=ds at e m g ⊢;refine c9 func282 λS nx n=>?_;intro v0;refine EJ ?_;refine ze (qa 5 197 2 rfl λv1=>?_);refine zg ?_;refine ze (EJ ?_);refine zu e ?_;have j:∀k,-1<=(xV c (ds.take k)).2/\(xV c (ds.take k)).2<=64:=by
  intro k;induction k with
  |zero=>simp[xV]
  |succ k t =>
  by_cases h:k<ds.length;rw[AT h,dM];have:=g ds[k] (AY h);simp only[Q1];omega;rw[Ad D9]at t ⊢;exact t
 refine zn (zF (λs:Nat × Nat=>s.1<=ds.length) (λ(k,w)=>[(2,.ptr nx v0 0),(5,.sl (nx+1) w 2 0 (xV c (ds.take k)).1.length),(6,I (xV c (ds.take k)).2),(12,L ds),(13,I ds.length),(14,I k)]) (λ(k,w)=>[.cells v0 59 (yf c),.cells w 197 ((xV c (ds.take k)).1.flatMap Enc.enc)]) (λs=>ds.length-s.1) (0,v1) [] EA (by simp[xV]) (by simp[xV]) ?_);rintro⟨k,w⟩ v;simp only at v ⊢;have l:=j k;have o:(xV c (ds.take k)).1.length=k:=by rw[tc];simp;omega
 refine EJ ?_;refine ze (zA rfl (λa=>?_) (λa=>?_));simp at a;obtain⟨d,tl,x,a2,a3,y⟩:=zH rfl ds k a;have z:=g d (Ab x);have b:=dM c (ds.take k) d;rw[<-a3]at b;generalize xV c (ds.take k)=st at *;obtain⟨out,f⟩:=st;simp only[Q1]at l o b ⊢;have q:=sZ c f d hc l D9;generalize jY c f d=r at q b;obtain⟨th,he⟩:=r;simp only at q b;refine zk (aA (aF [] (zq y a) ?_));refine EJ ?_;refine zu q ?_;refine EJ ?_;refine⟨by omega,?_⟩;refine zg ?_;refine zg ?_;exact zv (k+1,w+1) [] a ED (by simp[zy k D9,b]) rfl (by simp[b]);simp at a;obtain rfl:k=ds.length:=D9;rw[Ah];refine zB (yc 1 rfl ?_);refine EJ ?_;exact EK n
structure Stp where
 r:Bool
 k:Int
 l:Int
 deriving DecidableEq
instance:Inhabited Stp:=⟨⟨false,0,0⟩⟩
instance:Enc Stp:=⟨λs=>[B s.r,I s.k,I s.l],3,λ_=>rfl,λ_=>rfl⟩
@[simp] theorem ZCY(s:Stp):Enc.enc s=[B s.r,I s.k,I s.l]:=rfl
@[simp high] theorem Tw(l:List Stp):(l.flatMap Enc.enc).length=l.length*3:=ju l
@[simp high] theorem ZCZ(l:List Stp):(l.flatMap Enc.enc).take (l.length*3)=l.flatMap Enc.enc:=Yt l
def zs:Stp:=⟨false,0,0⟩
def XP(c:Cust)(n:Nat)(cap:Int)(price:List Int)(tab:List Stp)(d:Nat)(last:Int):Int :=
 let k1:=if 0<=last then W ((jY c last d).2+(tab.getD last.toNat zs).k) else (jY c last d).2
 if d<n then W (k1+QZ price d) else k1
def JX(c:Cust)(n:Nat)(cap:Int)(tab:List Stp)(d:Nat)(last:Int):Prop :=
 ¬(0<=last/\tab.getD last.toNat zs=zs)/\¬((jY c last d).1<0\/(d<n/\uZ c (jY c last d).1 cap=0))
instance (c:Cust) (n:Nat) (cap:Int) (tab:List Stp) (d:Nat) (last:Int):Decidable (JX c n cap tab d last):=by unfold JX;exact inferInstance
def cnS(c:Cust)(n:Nat)(cap:Int)(price:List Int)(tab:List Stp)(d:Nat)(best:Stp)(last:Int):Stp :=
 if JX c n cap tab d last then (if best=zs\/XP c n cap price tab d last<best.k then ⟨true,XP c n cap price tab d last,last⟩ else best) else best
def w8(c:Cust)(n:Nat)(cap:Int)(price:List Int)(tab:List Stp)(d:Nat)(j:Nat):Stp:=(range j).foldl (λb (i:Nat)=>cnS c n cap price tab d b ((i:Int)-1)) zs
def te(c:Cust)(n:Nat)(cap:Int)(price:List Int)(a:List Stp)(d:Nat)(j:Nat):w8 c n cap price a d (j+1)=cnS c n cap price a d (w8 c n cap price a d j) ((j:Int)-1):=by simp[w8,AO]
def xL(c:Cust)(n:Nat)(cap:Int)(price:List Int):Nat->List Stp
 |0=>[]
 |k+1=>xL c n cap price k++[w8 c n cap price (xL c n cap price k) k (k+1)]
theorem aQ(c:Cust)(n:Nat)(cap:Int)(price:List Int):∀k,(xL c n cap price k).length=k
 |0=>rfl
 |k+1=>by simp[xL,aQ c n cap price k]
def Zv(tab:List Stp):Nat->Nat->Int->Nat
 |0,s,_=>s
 |f+1,s,d=>if d<0 then s else Zv tab f (jz s d) (tab.getD d.toNat zs).l
def Q3(c:Cust)(n:Nat)(cap:Int)(price:List Int):List Visit × Bool :=
 if (xL c n cap price (n+1)).getD n zs=zs then ([],false)
 else ((xV c (yM (Zv (xL c n cap price (n+1)) 65 0 ((xL c n cap price (n+1)).getD n zs).l) 0 64)).1,true)
def Tx(tab:List Stp):Prop:=∀(d:Nat) (e:Stp),tab[d]?=some e->e=zs\/(e.r=true/\-1<=e.l/\e.l<d/\(0<=e.l->tab.getD e.l.toNat zs≠zs))
theorem dN(c:Cust)(n:Nat)(cap:Int)(price:List Int)(a:List Stp)(d:Nat):∀j:Nat,w8 c n cap price a d j=zs\/((w8 c n cap price a d j).r=true/\-1<=(w8 c n cap price a d j).l/\(w8 c n cap price a d j).l+1<j/\JX c n cap a d (w8 c n cap price a d j).l)
 |0=>.inl rfl
 |j+1=>by have b:=dN c n cap price a d j;rw[te];unfold cnS;split;rename_i e;split;exact .inr ⟨rfl,by dsimp only;omega,by dsimp only;omega,e⟩;obtain b|⟨h1,h2,h3,f⟩:=b;exact .inl b;exact .inr ⟨h1,h2,by omega,f⟩;obtain b|⟨h1,h2,h3,f⟩:=b;exact .inl b;exact .inr ⟨h1,h2,by omega,f⟩
theorem kp(c:Cust)(n:Nat)(cap:Int)(price:List Int):∀k,Tx (xL c n cap price k)
 |0=>by intro d e h;cases h
 |k+1=>by
  have l:=kp c n cap price k;have hl:=aQ c n cap price k;have m:=dN c n cap price (xL c n cap price k) k (k+1);intro d e h;simp only[xL]at h ⊢;have a:∀(i:Nat),i<k->(xL c n cap price k++[w8 c n cap price (xL c n cap price k) k (k+1)]).getD i zs=(xL c n cap price k).getD i zs:=by intro i hi;rw[Aa,Aa,Au D9]
  by_cases p:d<k;rw[Au D9]at h;obtain q|⟨b,f,j,g⟩:=l d e h;exact .inl q;refine .inr ⟨b,f,j,λq=>?_⟩;rw[a _ D9];exact g q;rw[Ao D9,hl]at h;obtain rfl:d=k:=by obtain q|q:=Bc (d-k) 1;omega;rw[An (by simpa using q)]at h;cases h
  rw[Bk]at h;simp only[Bi,injEq]at h;subst h;obtain q|⟨b,f,j,g⟩:=m;exact .inl q;refine .inr ⟨b,f,by omega,λq=>?_⟩;rw[a _ D9];exact λo=>g.1 ⟨q,o⟩
def jo(tab:List Stp)(b:Stp):List Stp:=tab++b::replicate (64-tab.length) zs
def tg(a:List Stp)(b:Stp)(h:a.length<=64):(jo a b).length=65:=by simp[jo];omega
def dO(a:List Stp)(b:Stp)(i:Nat)(h:i<a.length):(jo a b)[i]?=some (a.getD i zs):=by unfold jo;rw[Au h,Aa,Ac h];rfl
def Ty(a:List Stp)(b:Stp):(jo a b)[a.length]?=some b:=by unfold jo;rw[Ao (Ag _)];simp
def Tz(a:List Stp)(b e:Stp):(jo a b).set a.length e=jo a e:=by unfold jo;rw[Bw _ _ (Ag _)];simp
def TA(a:List Stp)(b:Stp)(h:a.length<64):jo a b=jo (a++[b]) zs:=by unfold jo;rw[append_assoc,length_append,AZ,show 64-a.length=(64-(a.length+1))+1 from by omega,BM];rfl
@[simp] theorem ZC0:i9 326 (.agg #[.bool false,.int .i64 0,.int .i64 0,.bool false,.int .i64 0,.int .i64 0,.bool false,.int .i64 0,.int .i64 0,.bool false,.int .i64 0,.int .i64 0,.bool false,.int .i64 0,.int .i64 0,.bool false,.int .i64 0,.int .i64 0,.bool false,.int .i64 0,.int .i64 0,.bool false,.int .i64 0,.int .i64 0,.bool false,.int .i64 0,.int .i64 0,.bool false,.int .i64 0,.int .i64 0,.bool false,.int .i64 0,.int .i64 0,.bool false,.int .i64 0,.int .i64 0,.bool false,.int .i64 0,.int .i64 0,.bool false,.int .i64 0,.int .i64 0,.bool false,.int .i64 0,.int .i64 0,.bool false,.int .i64 0,.int .i64 0,.bool false,.int .i64 0,.int .i64 0,.bool false,.int .i64 0,.int .i64 0,.bool false,.int .i64 0,.int .i64 0,.bool false,.int .i64 0,.int .i64 0,.bool false,.int .i64 0,.int .i64 0,.bool false,.int .i64 0,.int .i64 0,.bool false,.int .i64 0,.int .i64 0,.bool false,.int .i64 0,.int .i64 0,.bool false,.int .i64 0,.int .i64 0,.bool false,.int .i64 0,.int .i64 0,.bool false,.int .i64 0,.int .i64 0,.bool false,.int .i64 0,.int .i64 0,.bool false,.int .i64 0,.int .i64 0,.bool false,.int .i64 0,.int .i64 0,.bool false,.int .i64 0,.int .i64 0,.bool false,.int .i64 0,.int .i64 0,.bool false,.int .i64 0,.int .i64 0,.bool false,.int .i64 0,.int .i64 0,.bool false,.int .i64 0,.int .i64 0,.bool false,.int .i64 0,.int .i64 0,.bool false,.int .i64 0,.int .i64 0,.bool false,.int .i64 0,.int .i64 0,.bool false,.int .i64 0,.int .i64 0,.bool false,.int .i64 0,.int .i64 0,.bool false,.int .i64 0,.int .i64 0,.bool false,.int .i64 0,.int .i64 0,.bool false,.int .i64 0,.int .i64 0,.bool false,.int .i64 0,.int .i64 0,.bool false,.int .i64 0,.int .i64 0,.bool false,.int .i64 0,.int .i64 0,.bool false,.int .i64 0,.int .i64 0,.bool false,.int .i64 0,.int .i64 0,.bool false,.int .i64 0,.int .i64 0,.bool false,.int .i64 0,.int .i64 0,.bool false,.int .i64 0,.int .i64 0,.bool false,.int .i64 0,.int .i64 0,.bool false,.int .i64 0,.int .i64 0,.bool false,.int .i64 0,.int .i64 0,.bool false,.int .i64 0,.int .i64 0,.bool false,.int .i64 0,.int .i64 0,.bool false,.int .i64 0,.int .i64 0,.bool false,.int .i64 0,.int .i64 0,.bool false,.int .i64 0,.int .i64 0,.bool false,.int .i64 0,.int .i64 0,.bool false,.int .i64 0,.int .i64 0,.bool false,.int .i64 0,.int .i64 0,.bool false,.int .i64 0,.int .i64 0,.bool false,.int .i64 0,.int .i64 0,.bool false,.int .i64 0,.int .i64 0]):=E3
theorem ti[Enc α]:∀(l:List α) (k:Nat),(l.flatMap Enc.enc).take (k*Enc.sz α)=(l.take k).flatMap Enc.enc
 |[],k=>by simp
 |a::l,0=>by simp
 |a::l,k+1=>by have b:=ti l k;rw[AB,CK,AB,Nat.add_mul,D5,List.take_append,Enc.len,<-b,Cc,Ad (by rw[Enc.len];omega)]
def TB[Enc α](n:Nat)(hn:Enc.sz α=n)(l:List α)(k:Nat)(v:α)(h:k<l.length):yr (l.flatMap Enc.enc) (k*n) (Enc.enc v)=(l.set k v).flatMap Enc.enc:=by
 subst hn;have h1:=fB h;have h2:(l.flatMap Enc.enc).drop (k*Enc.sz α+Enc.sz α)=(l.drop (k+1)).flatMap Enc.enc:=by rw[<-List.drop_drop,h1,Cu,AS (by rw[Enc.len];exact Ag _),Enc.len,Bk];simp
 rw[yr,Enc.len,ti,h2,AE,if_pos h];simp
theorem tj(a:List Stp):∀(f s:Nat) (d:Int),s<2^64->Zv a f s d<2^64
 |0,_,_,h=>h
 |f+1,s,d,h=>by unfold Zv;split;exact h;exact tj a f _ _ (dq _ _ h)
def TC(a:List Stp)(f s:Nat){d:Int}(h:d<0):Zv a f s d=s:=by
 cases f with
 |zero=>rfl
 |succ f=>unfold Zv;rw[if_pos h]
def TD(c:Cust)(n:Nat)(cap:Int)(hR:RowOf S pr fs)(hc:CustFits c)(hn:n<=60):
  SP 259 [.agg (yf c),I n,I cap,pr] S (λq S'=>q=.tup [L (Q3 c n cap fs).1,B (Q3 c n cap fs).2]/\S'=S):=by
 have d7:xk (n:Int) 64=n:=by unfold xk;split<;>omega
 have d8:jU (n:Int) 0=n:=by unfold jU;split<;>omega
 have d9:=λS (h:RowOf S pr fs) d=>ki d h;have c7:=λ(a d:Int) (h1:-1<=a/\a<=64) (h2:0<=d/\d<=64)=>sZ c a d hc h1 h2;have c8:=λ(th:Int) (h:-4611686018427387904<=th/\th<=4611686018427387904)=>kh c th cap hc.size h;unfold Q3;refine i' func259 λnx hd=>?_;refine EJ ?_;intro v0;refine aF [] (zq d7 d8) ?_;refine EJ ?_;intro v1;have hw:i64.wrap ((n:Int)+1)=((n+1:Nat):Int):=zy n D9;refine ze (aF [] hw ?_);refine zn (zF (λd:Nat=>d<=n+1) (λd=>[(1,I n),(2,I cap),(3,pr),(4,.ptr nx v0 0),(10,.ptr (nx+1) v1 0),(22,I (n+1:Nat)),(23,I d)]) (λd=>[.cells v0 59 (yf c),.cells v1 326 ((jo (xL c n cap fs d) zs).flatMap Enc.enc)]) (λd=>n+1-d) 0 [] EA EA (by simp[xL];rfl) ?_);rintro d g6;have e2:=aQ c n cap fs d;have a4:=kp c n cap fs d;have d0:xL c n cap fs (d+1)=xL c n cap fs d++[w8 c n cap fs (xL c n cap fs d) d (d+1)]:=rfl;by_cases f5:d<n+1;case neg =>
  obtain rfl:d=n+1:=D9;clear d0;generalize xL c n cap fs (n+1)=tab at *;have m:=tg tab zs D9;obtain⟨s,tl,a1,-,-,e1,e0⟩:=el 3 rfl (jo tab zs) n D9;have hs:tab.getD n zs=s:=by have:=dO tab zs n D9;rw[a1]at this;exact(inj this).symm
  have f6:tab[n]?=some s:=by rw[<-hs,Aa,Ac D9];rfl
  have f7:=e1 2 D9;have a5:(n:Int)<65:=D9;have z1:3<=195-n*3:=D9;have z2:1<=195-(n*3+2):=D9;rw[hs];refine EJ ?_;refine ze (aE ?_);refine zB ?_;obtain q|⟨hr,e3,f8,e4⟩:=a4 n s f6;subst q;rw[if_pos rfl];have f9:((jo tab zs).flatMap Enc.enc).drop (n*3)=[B false,I 0,I 0]++tl:=e0;refine ze (aF [] (zM f9 a5 m z1) ?_);refine zo rfl (EJ ?_);refine Zh 8 rfl ?_;exact zj ⟨_,S,rfl,⟨by simp[zr],rfl⟩,ye hd⟩;have g0:s≠zs:=λe=>by rw[e]at hr;cases hr
  rw[if_neg g0];obtain⟨sr,sk,sl⟩:=s;simp only at hr e3 f8 e4 ⊢;subst hr;refine ze (aF [] (zM e0 a5 m z1) ?_);refine zp rfl (zk (EJ ?_));refine ze (aF [] (zM f7 a5 m z2) ?_);generalize b7:Zv tab 65 0 sl=res;have e5:res<2^64:=b7 ▸ tj tab 65 0 sl EG;have b8:=Tv c res e5 hc;generalize (xV c (yM res 0 64)).1=vv at b8 ⊢;refine zn (zF (λst:Nat × Nat × Int=>Zv tab st.1 st.2.1 st.2.2=res/\-1<=st.2.2/\st.2.2<st.1/\st.2.2<n/\st.2.1<2^64/\(0<=st.2.2->tab.getD st.2.2.toNat zs≠zs)) (λ(f,s,l)=>[(4,.ptr nx v0 0),(10,.ptr (nx+1) v1 0),(16,U s),(17,I l)]) (λ_=>[.cells v0 59 (yf c),.cells v1 326 ((jo tab zs).flatMap Enc.enc)]) (λst=>st.1) (65,0,sl) [] ⟨b7,e3,by dsimp only;omega,by dsimp only;omega,by show (0:Nat)<2^64;decide,e4⟩ EA EA ?_);rintro⟨f,s,l⟩ ⟨p1,p2,p3,p4,p5,p6⟩;simp only at p1 p2 p3 p4 p5 p6 ⊢;by_cases hl:l<0;have a6:¬0<=l:=D9;rw[TC tab f s hl]at p1;subst p1;refine ze (aF [] a6 ?_);refine zp rfl (zB (EJ ?_));refine zu b8 ?_;exact zj ⟨_,S,EB,⟨by simp[zr],rfl⟩,ye hd⟩;have a6:0<=l:=D9;obtain⟨i,rfl⟩:=Az a6;obtain⟨f,rfl⟩:∃g,f=g+1:=⟨f-1,by omega⟩;have p6:=p6 a6;rw[AN]at p6;have hi:i<tab.length:=D9;obtain⟨e,a7,b1,-,-,f1,f0⟩:=el 3 rfl (jo tab zs) i D9;have he:tab.getD i zs=e:=by have:=dO tab zs i hi;rw[b1]at this;exact(inj this).symm
  have d1:tab[i]?=some e:=by rw[<-he,Aa,Ac hi];rfl
  have g1:=f1 2 D9;have u:(i:Int)<65:=D9;have y2:1<=195-(i*3+2):=D9;rw[he]at p6;obtain q|⟨er,e6,g5,e7⟩:=a4 i e d1;exact absurd q p6;have g2:Zv tab f (jz s i) e.l=res:=by rw[<-p1];unfold Zv;rw[if_neg D9,AN,he];cases f<;>rfl
  refine ze (aF [] a6 ?_);refine zo rfl (zk (aA (zg ?_)));refine zu (rG s i p5) ?_;refine zi [] (zM g1 u m y2) ?_;exact zv (f,jz s i,e.l) [] ⟨g2,e6,by dsimp only;omega,by dsimp only;omega,dq _ _ p5,e7⟩ EA EA rfl EA
 generalize xL c n cap fs d=tab at *;refine EJ ?_;refine ze (zo ED ?_);refine zk (aA (EJ ?_));refine EJ ?_;refine zn (zF (λj:Nat=>j<=d+1) (λj=>[(1,I n),(2,I cap),(3,pr),(4,.ptr nx v0 0),(10,.ptr (nx+1) v1 0),(11,I d),(12,I ((j:Int)-1)),(22,I (n+1:Nat)),(23,I d)]) (λj=>[.cells v0 59 (yf c),.cells v1 326 ((jo tab (w8 c n cap fs tab d j)).flatMap Enc.enc)]) (λj=>d+1-j) 0 [] EA EA (by simp[w8]) ?_);rintro j hj;have p:=te c n cap fs tab d j;have e8:=dN c n cap fs tab d j;have g3:w8 c n cap fs tab d (d+1)=w8 c n cap fs tab d (d+1):=rfl;by_cases g7:j<d+1;case neg =>
  obtain rfl:j=d+1:=D9;refine ze (EJ ?_);refine aE ?_;refine zB (zg ?_);exact zv (d+1) [] f5 D9 (by simp[zy d D9]) rfl (by rw[d0,<-TA tab _ D9];simp)
 clear g3 d0;generalize w8 c n cap fs tab d j=b at *;obtain⟨a,d2⟩:∃a:Int,a=(j:Int)-1:=⟨_,rfl⟩;rw[<-d2]at p ⊢;have a3:i64.wrap (a+1)=((j+1:Nat):Int)-1:=by rw[wr _ D9 D9];omega
 have m:=tg tab b D9;have y:(d:Int)<65:=D9;have d3:3<=195-d*3:=D9;have e9:1<=195-(d*3+1):=D9;have hr:=c7 a d D9 D9;have f2:-4611686018427387904<=(jY c a d).1/\(jY c a d).1<=4611686018427387904:=by
  have h1:=hc.H;have h2:=hc.size;have h3:=hc.Q;unfold jY;simp only;have hp:0<=c.H*((if a<0 then (d:Int) else d-a).toNat:Int)/\c.H*((if a<0 then (d:Int) else d-a).toNat:Int)<=2147483648*65 :=
   ⟨CF h1.1 D9,CG h1.2 (by split<;>omega) D9 D9⟩
  generalize c.H*((if a<0 then (d:Int) else d-a).toNat:Int)=pp at hp ⊢;split<;>omega
 have hm:=c8 _ f2;have r:∀(k1:Int),k1=(if 0<=a then W ((jY c a d).2+(tab.getD a.toNat zs).k) else (jY c a d).2)->XP c n cap fs tab d a=if d<n then W (k1+QZ fs d) else k1:=λk1 h=>by unfold XP;rw[h]
 have z:JX c n cap tab d a=(¬(0<=a/\tab.getD a.toNat zs=zs)/\¬((jY c a d).1<0\/(d<n/\uZ c (jY c a d).1 cap=0))):=rfl;have o:¬JX c n cap tab d a->w8 c n cap fs tab d (j+1)=b:=λh=>by rw[p];unfold cnS;rw[if_neg h]
 have t:JX c n cap tab d a->w8 c n cap fs tab d (j+1)=if b=zs\/XP c n cap fs tab d a<b.k then ⟨true,XP c n cap fs tab d a,a⟩ else b:=λh=>by rw[p];unfold cnS;rw[if_pos h]
 clear p;generalize jY c a d=rr at hr hm r z;obtain⟨th,he⟩:=rr;simp only at hr hm r z;generalize uZ c th cap=mo at hm z;generalize JX c n cap tab d a=OK at z o t;generalize XP c n cap fs tab d a=kk at r t;generalize w:w8 c n cap fs tab d (j+1)=b' at o t;subst z;refine ze (EJ ?_);refine zo ED ?_;refine zk (aA (ze (qg (nx:=nx) (σ:=Unit) (λ_=>¬(0<=a/\tab.getD a.toNat zs=zs)) (λ_=>[(1,I n),(2,I cap),(3,pr),(4,.ptr nx v0 0),(10,.ptr (nx+1) v1 0),(11,I d),(12,I a),(22,I (n+1:Nat)),(23,I d)]) (λ_=>S) (λ_=>[.cells v0 59 (yf c),.cells v1 326 ((jo tab b).flatMap Enc.enc)]) ?_ ?_)));by_cases hl:0<=a;obtain⟨i,hi⟩:=Az hl;have hit:i<tab.length:=D9;obtain⟨e,a7,b1,-,-,-,f0⟩:=el 3 rfl (jo tab b) i D9;have a0:tab.getD i zs=e:=by have:=dO tab b i hit;rw[b1]at this;exact(inj this).symm
 have d1:tab[i]?=some e:=by rw[<-a0,Aa,Ac hit];rfl
 have u:(i:Int)<65:=D9;have y3:3<=195-i*3:=D9;have x:a.toNat=i:=D9;obtain q|⟨er,-,-,-⟩:=a4 i e d1;subst q;have d4:((jo tab b).flatMap Enc.enc).drop (i*3)=[B false,I 0,I 0]++a7:=f0;have a8:=o λh=>h.1 ⟨hl,by rw[x];exact a0⟩;subst a8;subst hi;refine aF [(2,33)] (yp hl d4 u m y3) ?_;refine zo rfl (zB (zi [] a3 ?_));exact zv (j+1) [] D9 D9 EA rfl (by simp[w]);obtain⟨r1,r2,r3⟩:=e;simp only at er;subst er;subst hi;refine aF [(2,33)] (yp hl f0 u m y3) ?_;exact zp rfl (zk (zY () [] (by rw[x,a0];rintro⟨-,q⟩;cases q) EA rfl EA));refine aF [(2,33)] (zq hl zz) ?_;exact zp rfl (zk (zY () [] (λq=>hl q.1) EA rfl EA));intro _ hA;refine EJ ?_;refine zu hr ?_;refine ze (qg (nx:=nx) (σ:=Unit) (λ_=>¬(th<0\/(d<n/\mo=0))) (λ_=>[(1,I n),(2,I cap),(3,pr),(4,.ptr nx v0 0),(10,.ptr (nx+1) v1 0),(11,I d),(12,I a),(14,I he),(22,I (n+1:Nat)),(23,I d)]) (λ_=>S) (λ_=>[.cells v0 59 (yf c),.cells v1 326 ((jo tab b).flatMap Enc.enc)]) ?_ ?_);by_cases h1:th<0;have a8:=o λh=>h.2 (.inl h1);subst a8;refine aF [(2,49),(6,53)] (zq h1 zz) ?_;refine zo rfl (zB (zi [] a3 ?_));exact zv (j+1) [] D9 D9 EA rfl (by simp[w]);by_cases h2:d<n;by_cases h3:mo=0;have a8:=o λh=>h.2 (.inr ⟨h2,h3⟩);subst a8;refine aF [(2,49),(6,53)] (zD h1 h2 h3) ?_;refine yK [(2,49),(6,53)] hm (zD h1 h2 h3) ?_;refine zo rfl (zB (zi [] a3 ?_));exact zv (j+1) [] D9 D9 EA rfl (by simp[w]);refine aF [(2,49),(6,53)] (zD h1 h2 h3) ?_;refine yK [(2,49),(6,53)] hm (zD h1 h2 h3) ?_;exact zp rfl (zk (zY () [] D9 EA rfl EA));refine aF [(2,49),(6,53)] (zD h1 h2 zz) ?_;exact zp rfl (zk (zY () [] D9 EA rfl EA));intro _ hB;have t:=t ⟨hA,hB⟩;clear o hm hr;refine EJ ?_;intro v2;obtain⟨k1,a2⟩:∃k1,k1=(if 0<=a then W (he+(tab.getD a.toNat zs).k) else he):=⟨_,rfl⟩;have r:=r k1 a2;refine ze (qg (nx:=nx) (σ:=Unit) (λ_=>True) (λ_=>[(1,I n),(2,I cap),(3,pr),(4,.ptr nx v0 0),(10,.ptr (nx+1) v1 0),(11,I d),(12,I a),(15,.ptr (nx+2) v2 0),(22,I (n+1:Nat)),(23,I d)]) (λ_=>S) (λ_=>[.cells v0 59 (yf c),.cells v1 326 ((jo tab b).flatMap Enc.enc),.cells v2 325 [B true,I k1,I a]]) ?_ ?_);refine EJ ?_;by_cases hl:0<=a;rw[if_pos hl]at a2;obtain⟨i,hi⟩:=Az hl;have hit:i<tab.length:=D9;obtain⟨e,a7,b1,-,-,f1,f0⟩:=el 3 rfl (jo tab b) i D9;have a0:tab.getD i zs=e:=by have:=dO tab b i hit;rw[b1]at this;exact(inj this).symm
 have a9:=f1 1 D9;have u:(i:Int)<65:=D9;have y1:1<=195-(i*3+1):=D9;have x:a.toNat=i:=D9;rw[x,a0]at a2;subst hi;refine aD ?_;refine zC (some [nx+1]) (Row.pures [0,2,3,4,5] (.alt 1 (Row.pures [6,7] (.alt 8 (.done) .stop)) .stop)) (zM a9 u m y1) ?_;exact zY () [] n' EA rfl (by simp[a2]);rw[if_neg hl]at a2;refine zp ED ?_;exact zk (zY () [] n' EA rfl (by simp[a2]));intro _ _;clear a2;refine ze (qg (nx:=nx) (σ:=Unit) (λ_=>True) (λ_=>[(1,I n),(2,I cap),(3,pr),(4,.ptr nx v0 0),(10,.ptr (nx+1) v1 0),(11,I d),(12,I a),(15,.ptr (nx+2) v2 0),(22,I (n+1:Nat)),(23,I d)]) (λ_=>S) (λ_=>[.cells v0 59 (yf c),.cells v1 326 ((jo tab b).flatMap Enc.enc),.cells v2 325 [B true,I kk,I a]]) ?_ ?_);refine EJ ?_;by_cases h2:d<n;rw[if_pos h2]at r;refine zo (by simp[h2]) ?_;refine zC (some [nx+1]) (Row.pures [0,2,3] (.alt 1 (.alt 4 U0 .stop) (.alt 4 (.alt 1 U0 .stop) .stop))) n' ?_;refine⟨?_,?_⟩;refine(((d9 _ (hR.ext hd _) _).mono ?_).v);rintro _ _ ⟨rfl,rfl⟩;refine⟨by simp[y8],xE n' ?_⟩;exact zY () [] n' EA rfl (by simp[r]);refine(((d9 _ (hR.ext hd _) _).mono ?_).v);rintro _ _ ⟨rfl,rfl⟩;refine⟨by simp[y8],xE n' ?_⟩;exact zY () [] n' EA rfl (by simp[r]);rw[if_neg h2]at r;refine zp ED ?_;exact zk (zY () [] n' EA rfl (by simp[r]));intro _ _;clear r;obtain⟨e,a7,b1,-,-,f1,f0⟩:=el 3 rfl (jo tab b) d D9;have a0:b=e:=by have:=Ty tab b;rw[e2,b1]at this;exact(inj this).symm
 subst a0;have a9:=f1 1 D9;have d5:=TB 3 rfl (jo tab b) d ⟨true,kk,a⟩ D9;have d6:=Tz tab b ⟨true,kk,a⟩;rw[e2]at d6;rw[d6]at d5;have c6:yr ((jo tab b).flatMap Enc.enc) (d*3) [B true,I kk,I a]=(jo tab ⟨true,kk,a⟩).flatMap Enc.enc:=d5;clear d5 d6;have f3:((jo tab b).flatMap Enc.enc:List PV).length=195:=by rw[Tw,m]
 obtain q|⟨f4,-,-,-⟩:=e8;subst q;rw[if_pos (.inl rfl)]at t;subst t;have d4:((jo tab zs).flatMap Enc.enc).drop (d*3)=[B false,I 0,I 0]++a7:=f0;refine aG none Rj (yp d4 y m d3 zz) ?_;refine zo rfl (zi [] (zM y f3 c6 m) ?_);refine⟨by omega,?_⟩;refine zi [] a3 ?_;exact zv (j+1) [_] D9 D9 EA rfl (by simp[w];rfl);obtain⟨r1,r2,r3⟩:=b;simp only at f4;subst f4;have g4:¬((⟨true,r2,r3⟩:Stp)=zs):=λe=>by cases e
 by_cases x:kk<r2;rw[if_pos (.inr x)]at t;subst t;refine aG none Rj (zN f0 a9 y m d3 (zq e9 x)) ?_;refine zo rfl (zi [] (zM y f3 c6 m) ?_);refine⟨by omega,?_⟩;refine zi [] a3 ?_;exact zv (j+1) [_] D9 D9 EA rfl (by simp[w];rfl);rw[if_neg (by rintro(q|q);exact g4 q;exact x q)]at t;subst t;refine aG none Rj (zN f0 a9 y m d3 (zq e9 x)) ?_;refine zp rfl (zk (zi [] a3 ?_));exact zv (j+1) [_] D9 D9 EA rfl (by simp[w];rfl)
section
variable {P:Program} {r:Rd} {n N:Nat} {Q:Exit->(Nat->PV)->Store->Prop} {F:Nat->PV} {c:Code}
def TE{nx:Nat}{obs:List Ob}(j:Nat){ver e:Nat}{cs:List PV}(d:obs[j]?=some (.cells ver e cs)){id v:Nat}{ds:List PV}(f:id<nx)(hs:S id=.cells v k ds)
  (h:PW P r n N c Q F (ext (S.set id (.cells v k (ds.map (qk (nx+j) ver cs)))) nx (obs.set j .dead))):PW P r n N c Q F (ext S nx obs):=by
 have a:j<obs.length:=(Af.1 d).1;refine Si (id:=nx+j) (ver:=ver) (e:=e) (cs:=cs) (G:=F) (by rw[zZ,Aa,d];rfl) (by rw[zZ,Aa,A4 a];rfl) (λo=>?_) (λ_=>.inl rfl) h;by_cases ho:o<nx;rw[zL ho,zL ho];by_cases b:o=id;subst b;rw[q11,hs];exact .inr (.inr rfl);rw[q10 _ _ _ _ b];exact .inr (.inl rfl);simp only[ext];rw[if_neg ho,if_neg ho,Aa,Aa,BG];split;simp[a];exact .inr (.inl rfl)
def dP{T:Store}{nx a:Nat}{obs:List Ob}(b:yh nx S)(c:nx<=a)(h:∀o,o<nx->T o=S o)(o:Nat):S o=ext T a obs o\/S o=.dead:=by by_cases ho:o<nx;rw[zL D9,h o ho];exact .inl rfl;exact .inr (b o D9)
end
def YI(x:Inst)(sol:Cust->List Int->List Visit × Bool)(b:Int)(n:Nat):Nat->List (List Int)->zG × Int
 |0,_=>([],15)
 |k+1,pr =>
  if (jC x sol pr).2≠0 then ([],15)
  else if jA (xv x (jC x sol pr).1 b n)=0 then (vA x (jC x sol pr).1 b n,0)
  else if (xv x (jC x sol pr).1 b n).any Qn=true then ([],15)
  else YI x sol b n k (Vb (xv x (jC x sol pr).1 b n) pr n)
def aR(x:Inst)(sol:Cust->List Int->List Visit × Bool)(b:Int)(n:Nat):zG × Int:=YI x sol b n 8 (xU x n 0)
def tk(x:Inst)(n:Nat)(sol:Cust->List Int->List Visit × Bool):Prop:=∀pr,Yh x.y.length n pr->(jC x sol pr).2=0->VsOk x.y.length n (jC x sol pr).1
def TF{m:Cust->List Int->List Visit × Bool}(hx:InstH x)(hn:x.days=n)(a5:n<=1000)(hs:iS x n m)(hv:tk x n m)(hb:b<=9223372036854775807):
  PP 147 [.agg (zE x),I b] (.tup [.agg [L (aR x m b n).1],I (aR x m b n).2]):=by
 have hm:=hx.y;unfold aR;have b7:=sM x n;refine c9 func147 λS nx hd=>?_;intro v0 v1;refine aG (some [nx]) (Row.pures [0,1,2,3,4] (.alt 5 (Row.pures [6] (.alt 7 Ub .stop)) .stop)) n' ?_;refine⟨by omega,?_⟩;intro z v3;rw[Sq];refine Sk (α:=Int) (nx+2) z 26 (nx+4) 3 1 x.y.length EA (xP (obs:=[_,_,_,_])) λT ws hR hT g=>?_;have hT0:T nx=.cells v0 25 (zE x):=by rw[hT nx D9 D9];simp
 have hT1:T (nx+1)=.cells v1 31 [.sc (.slice none 0 0)]:=by rw[hT (nx+1) D9 D9];simp
 have hT3:T (nx+3)=.cells v3 255 (wU x (.sc (.slice none 0 0)) b (.sc (.slice none 0 0)) (.sc (.slice none 0 0)) (.sl (nx+2) z 1 0 x.y.length)):=by rw[hT (nx+3) D9 D9];simp
 have q:∀o,o<nx->T o=S o:=λo ho=>by rw[hT o D9 D9,zL ho]
 clear hT;obtain⟨d,d0⟩:∃d,d=nx+4+x.y.length:=⟨_,rfl⟩;rw[<-d0]at g;rw[show replicate x.y.length ([]:List Int)=xU x 0 0 from (A3 λj=>by by_cases h:j<x.y.length;simp[xU,h];rw[An ED,An (by rw[XN];omega)])]at hR;rw[<-jt g];refine ze (x8 [] EF EF λK Gc Gh u c f X a p=>?_);simp -implicitDefEqProofs [a,p];try clear a p X
 refine c _ _ _ _ _ _ _ λr=>(Spec.mono (sJ (nx:=d) (by rw[jt g];exact g) x _ _ _ _ _ _ _ n hn a5 (by rw[jt g];exact hT3)
  (λk T'=>(∃w,RowsAt T' (nx+2) z 26 (nx+4) 3 1 w (xU x k 0))/\(∀o,o≠nx+2->(o<nx+4\/nx+4+x.y.length<=o)->T' o=T o)) ⟨⟨ws,by rw[jt g];exact hR⟩,λo _ _=>by rw[jt g]⟩
  (λk T' h o ho=>by rw[h.2 o D9 (.inr D9)];exact g o ho) (λk hk T' h=>?_)) ?_).v
 obtain⟨⟨w,h1⟩,h2⟩:=h;refine(SI k hm D9 D9 D9 ((h2 (nx+3) D9 (.inl D9)).trans hT3) h1).mono ?_;rintro _ T2 ⟨g1,g2⟩;exact⟨g1,λo o1 o2=>(g2 o o1 o2).trans (h2 o o1 o2)⟩;rintro _ T' ⟨⟨w,b8⟩,y⟩;have a0:yh d T':=λo ho=>by rw[y o D9 (.inr D9)];exact g o ho
 refine⟨T',[],(jt a0).symm,?_⟩;clear c f;clear Gc Gh;refine vr r (D:=[]) EF λGc Gh c f X a p=>?_;simp -implicitDefEqProofs [a,p];clear a p X;refine u _ _ _ ?_;clear u c f;clear K Gc Gh;replace hT0:=(y nx D9 (.inl D9)).trans hT0;replace hT1:=(y (nx+1) D9 (.inl D9)).trans hT1;replace hT3:=(y (nx+3) D9 (.inl D9)).trans hT3;replace q:∀o,o<nx->T' o=S o:=λo ho=>(y o D9 (.inl D9)).trans (q o ho);clear y hR g;generalize xU x n 0=pr0 at *
 refine ze (EJ ?_);refine zn (xC (σ:=Nat × Store × List (List Int)) (λs=>s.1<=8/\Yh x.y.length n s.2.2/\YI x m b n 8 pr0=YI x m b n (8-s.1) s.2.2/\(∃w,RowsAt s.2.1 (nx+2) z 26 (nx+4) 3 1 w s.2.2)/\s.2.1 nx=.cells v0 25 (zE x)/\s.2.1 (nx+1)=.cells v1 31 [.sc (.slice none 0 0)] /\
  (∃vP pP fP,s.2.1 (nx+3)=.cells v3 255 (wU x vP b pP fP (.sl (nx+2) z 1 0 x.y.length)))/\(∀o,o<nx->s.2.1 o=S o)/\yh d s.2.1)
  (λs=>[(2,.ptr nx v0 0),(4,.ptr (nx+1) v1 0),(6,.ptr (nx+3) v3 0),(21,I s.1)]) (λs=>s.2.1) (λ_=>[]) (λs=>8-s.1) (zY (0,T',pr0) [] ⟨by simp,b7,rfl,⟨w,b8⟩,hT0,hT1,⟨_,_,_,hT3⟩,q,a0⟩ EA rfl EA) ?_)
 clear b8 hT0 hT1 hT3 q a0 b7 T';rintro⟨k,T,pr⟩ ⟨hk,hP,l,⟨ws,hR⟩,hT0,hT1,⟨vP,pP,fP,hT3⟩,q,g⟩;simp only at hk hP l hR hT0 hT1 hT3 q g ⊢;have x0:=λobs=>(zL (S:=T) (nx:=d) (obs:=obs) (i:=nx) D9).trans hT0;have x3:=λobs=>(zL (S:=T) (nx:=d) (obs:=obs) (i:=nx+3) D9).trans hT3;have g1:¬d<=nx+1:=D9;have x1:=λobs=>(zL (S:=T) (nx:=d) (obs:=obs) (i:=nx+1) D9).trans hT1;refine EJ ?_;refine ze (zA rfl (λhc=>?_) (λhc=>?_))
 .simp at hc;rw[show 8-k=(7-k)+1 from by omega]at l;have a1:=hv pr hP;have a7:=SU (S:=T) hm hP hR hs;rw[show YI x m b n (7-k+1) pr=(if (jC x m pr).2≠0 then ([],15) else if jA (xv x (jC x m pr).1 b n)=0 then (vA x (jC x m pr).1 b n,0) else if (xv x (jC x m pr).1 b n).any Qn=true then ([],15) else YI x m b n (7-k) (Vb (xv x (jC x m pr).1 b n) pr n)) from rfl]at l;generalize jC x m pr=cz at l a1 a7;obtain⟨v,e⟩:=cz;simp only at l a1 a7;refine zk (aA (ze (HA none (Row.pures [0,1,2,3,4] (.alt 5 (Row.pures [6,7,8,9,10] .done) .stop)) mixed EF EF EF λK Gp Gc Gh u a8 c f X a a2 a3 p=>?_)));simp -implicitDefEqProofs [a,a2,a3,p,x0,x3];try clear a a2 a3 p X
  refine c _ _ _ _ _ _ _ (Spec.mono (by rw[jt g];exact a7) ?_).v;rintro _ S2 ⟨rfl,c6⟩;have d1:S2=ext T d []:=c6.trans (jt g).symm;subst d1;clear c6;refine⟨by simp[y8],?_⟩;clear a8 c f;clear Gp Gc Gh;refine mH λGp Gc Gh a8 c f X a a2 a3 p=>?_;simp -implicitDefEqProofs [a,a2,a3,p];try clear a a2 a3 p X
  refine u _ _ _ ?_;clear u a8 c f;clear K Gp Gc Gh;refine ze (EJ ?_);by_cases he:e=0;case neg =>
   rw[if_pos he]at l;rw[l];refine zo (by simp[he]) ?_;refine aF [] (zD x0 x1 g1) ?_;show PW _ _ _ _ _ _ _ (ext _ _ _);refine cP (o:=nx+1) 0 (by rw[zL D9];first|exact q11 _ _ _|exact hT1) rfl ?_;rw[qI _ D9];try rw[Store.set_set]
   refine zj ⟨_,S,(by simp[zL (show nx+1<d from by omega),q11];rfl),⟨by simp[zr],rfl⟩,?_⟩;exact dP hd D9 λo ho=>by rw[q10 _ _ _ _ D9];exact q o ho
  rw[if_neg (by simpa using he)]at l;have a1:=a1 he;refine zp (by simp[he]) ?_;refine zk ?_;refine ze (ze (x8 [] EF EF λK Gc Gh u c f X a p=>?_));simp -implicitDefEqProofs [a,p];try clear a p X
  refine c _ _ _ _ _ _ _ λr=>(Spec.mono (Sp (nx:=d) (n:=n) (by rw[jt g];exact g) (by rw[jt g];exact hT3) hx hn a5 a1 hb) ?_).v;rintro _ _ ⟨rfl,vD,vF,rfl⟩;rw[jt g];refine⟨_,_,rfl,?_⟩;clear c f;clear Gc Gh;refine vr r (D:=[]) EF λGc Gh c f X a p=>?_;simp -implicitDefEqProofs [a,p];clear a p X;refine u _ _ _ ?_;clear u c f;clear K Gc Gh;have d2:=sn x v b n;have d5:=iG x v b n;generalize xv x v b n=fs at *;generalize vA x v b n=pl at *
  by_cases hf:jA fs=0;rw[if_pos hf]at l;rw[l];refine zo (by simp[hf]) ?_;show PW _ _ _ _ _ _ _ (ext _ _ _);refine TE 0 (id:=nx+3) rfl D9 (q11 _ _ _) ?_;rw[Store.set_set];have d3:([I x.days,I x.U,I x.R,I x.len,L x.y,L x.J,L v,I b,.sl d vD 1 0 pl.length,.sl (d+1) vF 1 0 fs.length,.sl (nx+2) z 1 0 x.y.length]:List PV).map (qk (d+0) vD (pl.flatMap Enc.enc))=wU x (L v) b (L pl) (.sl (d+1) vF 1 0 fs.length) (.sl (nx+2) z 1 0 x.y.length):=by simp[qk];omega
  rw[d3];have y3:=λ(o:Ob) obs=>(zL (S:=T.set (nx+3) o) (nx:=d) (obs:=obs) (i:=nx+3) D9).trans (q11 _ _ _);have y1:=λ(o:Ob) obs=>(zL (S:=T.set (nx+3) o) (nx:=d) (obs:=obs) (i:=nx+1) D9).trans ((q10 _ _ _ _ D9).trans hT1);refine aF [] (zD y3 y1 g1) ?_;refine zj ⟨_,S,(by simp[zL (show nx+1<d from by omega),q11];rfl),⟨by simp[zr],rfl⟩,?_⟩;exact dP hd D9 λo ho=>by rw[q10 _ _ _ _ D9,q10 _ _ _ _ D9];exact q o ho
  rw[if_neg hf]at l;refine zp (by simp[hf]) ?_;refine zk ?_;have y3:=λ(o:Ob) obs=>(zL (S:=T.set (nx+3) o) (nx:=d) (obs:=obs) (i:=nx+3) D9).trans (q11 _ _ _);have y1:=λ(o:Ob) obs=>(zL (S:=T.set (nx+3) o) (nx:=d) (obs:=obs) (i:=nx+1) D9).trans ((q10 _ _ _ _ D9).trans hT1);refine ze (ze (x8 [] EF EF λK Gc Gh u c f X a p=>?_));simp -implicitDefEqProofs [a,p,y3];try clear a p X
  refine c _ _ _ _ _ _ _ λr=>((SR (idF:=d+1) (vF:=vF) fs (by rw[zZ];rfl) D9).mono ?_).v;rintro _ _ ⟨rfl,rfl⟩;refine⟨_,_,rfl,?_⟩;clear c f;clear Gc Gh;refine vr r (D:=[]) EF λGc Gh c f X a p=>?_;simp -implicitDefEqProofs [a,p];clear a p X;refine u _ _ _ ?_;clear u c f;clear K Gc Gh;cases a6:fs.any Qn with
  |true =>
  rw[if_pos a6]at l;rw[l];refine zo rfl (aF [] (zq y1 g1) ?_);show PW _ _ _ _ _ _ _ (ext _ _ _);refine cP (o:=nx+1) 0 (by rw[zL D9];first|exact q11 _ _ _|exact(q10 _ _ _ _ D9).trans hT1) rfl ?_;rw[qI _ D9];try rw[Store.set_set]
  refine zj ⟨_,S,(by simp[zL (show nx+1<d from by omega),q11];rfl),⟨by simp[zr],rfl⟩,?_⟩;exact dP hd D9 λo ho=>by rw[q10 _ _ _ _ D9,q10 _ _ _ _ D9];exact q o ho
  |false =>
  rw[if_neg (by rw[a6];decide)]at l;refine zp rfl (zk ?_);generalize a4:ext (T.set (nx+3) (.cells v3 255 (wU x (L v) b (.sl d vD 1 0 pl.length) (.sl (d+1) vF 1 0 fs.length) (.sl (nx+2) z 1 0 x.y.length)))) d [.cells vD 96 (pl.flatMap Enc.enc),.cells vF 49 (fs.flatMap Enc.enc)]=T2;have q3:T2 (nx+3)=.cells v3 255 (wU x (L v) b (.sl d vD 1 0 pl.length) (.sl (d+1) vF 1 0 fs.length) (.sl (nx+2) z 1 0 x.y.length)):=by rw[<-a4,zL D9,q11]
  have qF:T2 (d+1)=.cells vF 49 (fs.flatMap Enc.enc):=by rw[<-a4,zZ];rfl
  have qo:∀o,o<d->o≠nx+3->T2 o=T o:=λo h1 h2=>by rw[<-a4,zL h1,q10 _ _ _ _ h2]
  have qd:yh (d+2) T2:=by rw[<-a4];exact xP (obs:=[_,_])
  have qR:RowsAt T2 (nx+2) z 26 (nx+4) 3 1 ws pr:=hR.other λo ho=>by rw[hP.1]at ho;exact qo o D9 D9
  clear a4;rw[<-jt qd];refine x8 [] EF EF λK Gc Gh u c f X a p=>?_;simp -implicitDefEqProofs [a,p];try clear a p X
  refine c _ _ _ _ _ _ _ λr=>(Spec.mono (sJ (nx:=d+2) (by rw[jt qd];exact qd) x _ _ _ _ _ _ _ n hn a5 (by rw[jt qd];exact q3)
   (λk T'=>RowsAt T' (nx+2) z 26 (nx+4) 3 1 ws (Vb fs pr k)/\(∀o,(o<nx+4\/nx+4+x.y.length<=o)->T' o=T2 o)) ⟨by rw[jt qd];exact qR,λo _=>by rw[jt qd]⟩
   (λk T' h o ho=>by rw[h.2 o (.inr D9)];exact qd o ho) (λj hj T' h=>?_)) ?_).v
  obtain⟨h1,h2⟩:=h;refine(SN (n:=n) j hm a5 hj D9 D9 ((h2 (d+1) (.inr D9)).trans qF) d2 ((h2 (nx+3) (.inl D9)).trans q3) (aM fs hP j) h1).mono ?_;rintro _ T3 ⟨r1,r2⟩;exact⟨r1,λo o1=>(r2 o o1).trans (h2 o o1)⟩;rintro _ T3 ⟨d4,t⟩;have c7:yh (d+2) T3:=λo ho=>by rw[t o (.inr D9)];exact qd o ho
  refine⟨T3,[],(jt c7).symm,?_⟩;clear c f;clear Gc Gh;refine vr r (D:=[]) EF λGc Gh c f X a p=>?_;simp -implicitDefEqProofs [a,p];clear a p X;refine u _ _ _ ?_;clear u c f;clear K Gc Gh;rw[jt c7];refine Wu (T':=λo=>if o<d then T3 o else .dead) (λo=>by by_cases ho:o<d<;>simp[ho]) ?_;generalize a9:(λo=>if o<d then T3 o else Ob.dead)=T4;have q4:∀o,o<d->T4 o=T3 o:=λo ho=>by rw[<-a9];simp[ho]
  have c8:yh d T4:=λo ho=>by rw[<-a9];simp;omega
  clear a9;rw[<-jt c8];refine zg ?_;refine zv (k+1,T4,Vb fs pr n) [] ⟨by dsimp only;omega,aM fs hP n,by rw[l,show 8-(k+1)=7-k from by omega],⟨ws,d4.other λo ho=>q4 o (by rw[(aM fs hP n).1]at ho;omega)⟩,?_,?_,⟨L v,.sl d vD 1 0 pl.length,.sl (d+1) vF 1 0 fs.length,?_⟩,λo ho=>?_,c8⟩ ED (by simp[zy k D9]) rfl EA;dsimp only;rw[q4 _ D9,t _ (.inl D9),qo _ D9 D9];exact hT0;dsimp only;rw[q4 _ D9,t _ (.inl D9),qo _ D9 D9];exact hT1;dsimp only;rw[q4 _ D9,t _ (.inl D9)];exact q3;dsimp only;rw[q4 _ D9,t _ (.inl D9),qo _ D9 D9];exact q o ho
 simp at hc;obtain rfl:k=8:=D9;rw[l];refine zB (aF [] (zq x1 g1) ?_);show PW _ _ _ _ _ _ _ (ext _ _ _);refine cP (o:=nx+1) 0 (by rw[zL D9];first|exact q11 _ _ _|exact hT1) rfl ?_;rw[qI _ D9];try rw[Store.set_set]
 refine zj ⟨_,S,(by simp[zL (show nx+1<d from by omega),q11];rfl),⟨by simp[zr,YI],rfl⟩,?_⟩;exact dP hd D9 λo ho=>by rw[q10 _ _ _ _ D9];exact q o ho
def JY:List Int->Int
 |[]=>-1
 |d::ds=>(d::ds).getLast EA
theorem kq(ds:List Int)(d:Int):JY (ds++[d])=d:=by
 cases ds with
 |nil=>rfl
 |cons a ds=>show (a::(ds++[d])).getLast _=d;grind
def tm(c:Cust)(cap:Int)(last d:Int):Prop:=0<=(jY c last d).1/\uZ c (jY c last d).1 cap≠0
inductive FilS (c:Cust) (cap:Int) (n:Nat):List Int->Prop where
 |nil:FilS c cap n []
 |snoc {ds:List Int} {d:Int} (h:FilS c cap n ds) (h1:JY ds<d) (h2:d<n) (h3:tm c cap (JY ds) d):FilS c cap n (ds++[d])
theorem FilS.lo{c:Cust}{ds:List Int}(h:FilS c cap n ds):-1<=JY ds/\(∀d∈ds,0<=d/\d<n/\d<=JY ds):=by
 induction h with
 |nil=>exact⟨by decide,by simp⟩
 |snoc h h1 h2 h3 a =>
 grind[kq]
theorem FilS.inc{c:Cust}{ds:List Int}(h:FilS c cap n ds):ds.Pairwise (· < ·):=by
 induction h with
 |nil=>simp
 |snoc h h1 h2 h3 d =>
 rw[List.pairwise_append];refine⟨d,by simp,λa e b hb=>?_⟩;rw[AX.1 hb];have:=h.lo.2 a e;omega
def TG(c:Cust)(ds:List Int):(xV c ds).2=JY ds:=by obtain rfl|⟨l,d,rfl⟩:=List.eq_nil_or_concat ds;rfl;rw[List.concat_eq_append,dM,kq];rfl
def TH(c:Cust):∀ds:List Int,(xV c ds).1.map (·.d)=ds:=by
 have:∀(ds:List Int) (st:List Visit × Int),(ds.foldl (Q1 c) st).1.map (·.d)=st.1.map (·.d)++ds:=by
  intro ds;induction ds with
  |nil=>intro st;simp
  |cons d ds a=>intro st;rw[Ba,a];simp[Q1]
 simp_all[xV]
def TI{c:Cust}(hc:CustFits c){d:Int}(h:tm c cap a d):W (c.size-(jY c a d).1)=c.size-(jY c a d).1/\1<=c.size-(jY c a d).1/\c.size-(jY c a d).1<=2147483648/\(c.X=1->c.size-(jY c a d).1<=cap):=by obtain⟨h1,h2⟩:=h;have hs:=hc.size;grind[uZ,wr]
def TJ{c:Cust}(hc:CustFits c)(hn:n<=60){ds:List Int}(h:FilS c cap n ds):GoodV n (xV c ds).1:=by
 have a:ds.length<=64:=by have h1:=sT (m:=n) ds (h.inc.imp λh=>D2 h) (λd b=>by have:=h.lo.2 d b;omega);omega
 refine⟨by simp_all[tc],?_,by rw[TH];exact h.inc.imp λh=>D2 h⟩;induction h with
 |nil=>intro s hs;cases hs
 |@snoc ds d h h1 h2 h3 e =>
 intro s hs;rw[dM]at hs;simp only[Q1]at hs;obtain hs|hs:=AC.1 hs;grind;rw[AX.1 hs];rw[TG];obtain⟨f,g,i,-⟩:=TI hc h3;have:=h.lo.1;grind
def JZ(tab:List Stp):Nat->Int->List Int
 |0,_=>[]
 |f+1,d=>if d<0 then [] else d::JZ tab f (tab.getD d.toNat zs).l
def dQ(c:Cust)(n:Nat)(cap:Int)(tab:List Stp):Prop:=∀(d:Nat) (e:Stp),tab[d]?=some e->e≠zs->-1<=e.l/\e.l<d/\(0<=e.l->tab.getD e.l.toNat zs≠zs)/\0<=(jY c e.l d).1/\(d<n->uZ c (jY c e.l d).1 cap≠0)
theorem tq(c:Cust)(n:Nat)(cap:Int)(price:List Int):∀k,dQ c n cap (xL c n cap price k)
 |0=>by intro d e h;cases h
 |k+1=>by have f:=tq c n cap price k;have hl:=aQ c n cap price k;have g:=dN c n cap price (xL c n cap price k) k (k+1);have a:=kp c n cap price (k+1);intro d e h b;have a:=a d e h;simp only[xL]at h a ⊢;obtain q|⟨-,i,j,l⟩:=a;simp_all;refine⟨i,j,l,?_⟩;by_cases o:d<k;rw[Au D9]at h;exact(f d e h b).2.2.2;rw[Ao D9,hl]at h;obtain rfl:d=k:=EH;rw[Bk]at h;simp only[Bi,injEq]at h;subst h;obtain q|⟨-,-,-,m⟩:=g;simp_all;have:=m.2;omega
theorem kr{c:Cust}{a:List Stp}(h:dQ c n cap a):∀(f:Nat) (d:Int),-1<=d->d<f->d<n->(0<=d->a.getD d.toNat zs≠zs)->FilS c cap n (JZ a f d).reverse/\JY (JZ a f d).reverse=d
 |0,d,h1,h2,_,_=>by obtain rfl:d=-1:=D9;exact⟨.nil,rfl⟩
 |f+1,d,h1,h2,h3,b=>by
  unfold JZ;by_cases k:d<0;rw[if_pos k];obtain rfl:d=-1:=D9;exact⟨.nil,rfl⟩;rw[if_neg k,CB];have b:=b D9;obtain⟨i,rfl⟩:=Az (show 0<=d by omega);rw[AN]at b ⊢;have m:∃e,a[i]?=some e/\a.getD i zs=e:=by
   cases r:a[i]? with
   |none=>simp_all
   |some e=>simp_all
  obtain⟨e,g,j⟩:=m;rw[j]at b ⊢;obtain⟨g1,s,g3,g4,o⟩:=h i e g b;obtain⟨p,q⟩:=kr h f e.l g1 D9 D9 g3;exact⟨.snoc p D9 h3 (by rw[q];exact⟨g4,o D9⟩),kq _ _⟩
def TK(s:Nat)(d i:Nat)(a:d<64):yR (jz s d) i=1<->yR s i=1\/i=d:=by
 have h:((jz s d).testBit i)=(s.testBit i||decide (d=i)):=by unfold jz;rw[if_pos D9,AN,Dz,CL]
 grind[yR]
theorem tu{c:Cust}{a:List Stp}(h:dQ c n cap a)(hn:n<=60):∀(f s:Nat) (d:Int),-1<=d->d<n->(0<=d->a.getD d.toNat zs≠zs)->∀i:Nat,yR (Zv a f s d) i=1<->yR s i=1\/(i:Int)∈JZ a f d
 |0,s,d,_,_,_=>λi=>by simp[Zv,JZ]
 |f+1,s,d,h1,h3,b=>λi=>by
  unfold Zv JZ;by_cases m:d<0;simp_all;rw[if_neg m,if_neg m];have b:=b D9;obtain⟨k,rfl⟩:=Az (show 0<=d by omega);rw[AN]at b ⊢;have o:∃e,a[k]?=some e/\a.getD k zs=e:=by
   cases p:a[k]? with
   |none=>simp_all
   |some e=>simp_all
  obtain⟨e,g,j⟩:=o;rw[j]at b ⊢;obtain⟨g1,q,g3,-⟩:=h k e g b;rw[tu h hn f _ e.l g1 D9 g3 i,TK s k i D9,Am,Int.natCast_inj,or_assoc]
def TL:∀{a b:List Int},a.Pairwise (· < ·)->b.Pairwise (· < ·)->(∀z,z∈a<->z∈b)->a=b:=by intro a b c hb h;have d:a.Perm b:=(Du (c.imp λh=>D2 h) (hb.imp λh=>D2 h)).2 h;exact pq d (c.imp λh=>Int.le_of_lt h) (hb.imp λh=>Int.le_of_lt h)
def TM(s a k:Nat):(yM s a k).Pairwise (· < ·):=by unfold yM;rw[C5];have h:(range k).Pairwise (· < ·):=List.pairwise_lt_range;exact(h.sublist List.filter_sublist).imp λh=>by omega
theorem TN{c:Cust}{a:List Stp}(h:dQ c n cap a)(hn:n<=60){d:Int}(h1:-1<=d)(h3:d<n)(b:0<=d->a.getD d.toNat zs≠zs):yM (Zv a 65 0 d) 0 64=(JZ a 65 d).reverse:=by
 obtain⟨hf,-⟩:=kr h 65 d h1 D9 h3 b;refine TL (TM _ _ _) hf.inc λz=>?_;have hb:=tu h hn 65 0 d h1 h3 b;have h0:∀i,¬yR 0 i=1:=by intro i;simp[yR]
 rw[List.mem_reverse];constructor;grind[aN];intro e;have f:=hf.lo.2 z (List.mem_reverse.2 e);grind[Int.eq_ofNat_of_zero_le,yM]
def TO{c:Cust}(hn:n<=60)(h:(Q3 c n cap q).2=true):∃ds,FilS c cap n ds/\0<=(jY c (JY ds) n).1/\(Q3 c n cap q).1=(xV c ds).1:=by have b:=tq c n cap q (n+1);have hl:=aQ c n cap q (n+1);unfold Q3 at h ⊢;generalize xL c n cap q (n+1)=tab at *;split at h;cases h;rename_i a;rw[if_neg a];have g:∃e,tab[n]?=some e/\tab.getD n zs=e:=⟨_,Ac D9,by rw[Aa,Ac D9];rfl⟩;obtain⟨e,d,f⟩:=g;rw[f]at a ⊢;obtain⟨g1,i,g3,g4,-⟩:=b n e d a;grind[kr,TN]
def jp(n:Nat)(cap:Int)(c:Cust)(price:List Int):List Visit × Bool :=
 if c.kind=1 then YG c cap price else if c.X=1 then Q3 c n cap price else XO c n cap price
def ks(c:Cust)(n:Nat)(cap:Int)(b:RowOf S f fs)(j:∀z∈fs,zU z)(h:fs.length<=1000)(hm:CustMade c n)(i:c.D.length<=1000)(hn:n<=60):
  SP 224 [.agg (yf c),I n,I cap,f] S (λq S'=>q=.tup [L (jp n cap c fs).1,B (jp n cap c fs).2]/\S'=S):=by
 unfold jp;by_cases d:c.kind=1;rw[if_pos d];exact To c n cap d b j h i hm.D;rw[if_neg d];by_cases g:c.X=1;rw[if_pos g];have hs:=λS (b:RowOf S f fs)=>TD c n cap b hm.ad hn;generalize Q3 c n cap fs=r at *;obtain⟨v,ok⟩:=r;simp only at hs ⊢;refine i' func224 λnx e=>?_;refine EJ ?_;intro v0;refine aA (aF [] d ?_);refine aE ?_;refine aF [] g ?_;refine aD ?_;refine EJ ?_;refine λa=>((hs _ (b.ext e _)).mono ?_).v;rintro _ _ ⟨rfl,rfl⟩;refine⟨_,_,rfl,zS a ?_⟩;exact zj ⟨_,S,EB,⟨by simp,rfl⟩,ye e⟩;rw[if_neg g];have hs:=λS (b:RowOf S f fs)=>Tu c n cap b hm.ad D9;generalize XO c n cap fs=r at *;obtain⟨v,ok⟩:=r;simp only at hs ⊢;refine i' func224 λnx e=>?_;refine EJ ?_;intro v0;refine aA (aF [] d ?_);refine aE ?_;refine aF [] g ?_;refine aC (EJ ?_);refine λa=>((hs _ (b.ext e _)).mono ?_).v;rintro _ _ ⟨rfl,rfl⟩;refine⟨_,_,rfl,zS a ?_⟩;exact zj ⟨_,S,EB,⟨by simp,rfl⟩,ye e⟩
theorem TP{c:Cust}(hm:CustMade c n)(a:c.kind=1){p:Nat}(b:p∈c.D):GoodV n (JU c p):=by obtain⟨h1,h2⟩:=hm.per a;refine⟨by simp only[JU,length_map];exact JR _ _ _,λs hs=>?_,by simp only[JU,B3];exact(by simpa[Function.comp_def] using SE p 0 64)⟩;grind[JU,yM]
theorem TQ{c:Cust}(h:(YG c cap q).2=true):∃p∈c.D,(p=0\/c.O<=cap)/\(YG c cap q).1=JU c p:=by unfold YG at h ⊢;split at h;cases h;rename_i hn;rw[if_neg hn];have hb:=kf q (Z0 c cap) (Z0 c cap).length;grind[Z0,List.getElem_mem]
def dR{c:Cust}(hm:CustMade c n)(hn:n<=60)(cap:Int)(price:List Int)(h:(jp n cap c price).2=true):GoodV n (jp n cap c price).1:=by unfold jp at h ⊢;by_cases b:c.kind=1;grind[TQ,TP];rw[if_neg b]at h ⊢;by_cases a:c.X=1;rw[if_pos a]at h ⊢;obtain⟨ds,h1,-,e⟩:=TO hn h;rw[e];exact TJ hm.ad hn h1;rw[if_neg a]at h ⊢;have d:GoodV n (qC 0 (YH c n cap).1):=sI (Ve hm.ad (kj hm.ad cap) n).2 (Cx (Vd _ _ _)) D9;have f:GoodV n (qC 0 (Qo c n cap).1):=sI (Ve hm.ad (km hm.ad cap) n).2 (Cx (Vd _ _ _)) D9;grind[XO]
structure InstA (x:Inst) (n:Nat):Prop where
 h:InstH x
 days:x.days=n
 ae:n<=60
 aa:∀c∈x.y,CustMade c n
 D:∀c∈x.y,c.D.length<=1000
def TR(h:InstA x n):iS x n (jp n x.R):=by intro c hc l hl hi S b a;rw[h.days];have:=h.ae;exact ks c n x.R a hi D9 (h.aa c hc) (h.D c hc) h.ae
def tx{a:Cust->List Int->List Visit × Bool}{pr:List (List Int)}(h:(jC x a pr).2=0):(jC x a pr).1.length=x.y.length/\∀i c,x.y[i]?=some c->(jC x a pr).1[i]?=some (a c (pr.getD i [])).1/\(a c (pr.getD i [])).2=true:=by
 unfold jC at h ⊢;split at h;rename_i b;rw[if_pos b];refine⟨by simp[Yi],λi c hc=>?_⟩;have hi:=(Af.1 hc).1;have d:x.y.getD i default=c:=by rw[Aa,hc];rfl
 refine⟨by simp only[Yi,B3,Ai,Bg hi,AU,Function.comp_apply,d],?_⟩;have:=Av.1 b _ (sN x a pr hi);rw[d]at this;exact this;omega
def tB(h:InstA x n):tk x n (jp n x.R):=by
 intro pr d h0;obtain⟨h1,h2⟩:=tx h0;have key:∀l∈(jC x (jp n x.R) pr).1,GoodV n l:=by intro l hl;obtain⟨i,hi,rfl⟩:=List.getElem_of_mem hl;have a:i<x.y.length:=D9;obtain⟨b,e2⟩:=h2 i _ (Ac a);rw[Ac hi]at b;rw[inj b];exact dR (h.aa _ (AY a)) h.ae _ _ e2
 exact⟨h1,λl hl w c=>(key l hl).ok w c,λl hl=>(key l hl).nd,λl hl=>by have:=(key l hl).len;omega⟩
def xW(x:Inst)(b:Int):zG × Int:=aR x (jp x.days.toNat x.R) b x.days.toNat
def TS(h:InstA x n)(hb:b<=9223372036854775807):PP 147 [.agg (zE x),I b] (.tup [.agg [L (xW x b).1],I (xW x b).2]):=by
 have a:x.days.toNat=n:=by rw[h.days];rfl
 unfold xW;rw[a];exact TF h.h h.days (by have:=h.ae;omega) (TR h) (tB h) hb
def TT(x:Inst)(c l:Int):InstA (Tf x 6 c l) (yW x).days.toNat:=by have a:=aO x;refine⟨⟨AF (gC x) EG,rv x,rj x,by show (0:Int)<=6;decide⟩,?_,by omega,λc hc=>?_,λc hc=>?_⟩;show (yW x).days=_;omega;obtain⟨c0,rfl⟩:=iY x hc;simp_all[sS];obtain⟨c0,rfl⟩:=iY x hc;grind[xG,Yv]
def TU(x:Inst):InstA (yW x) (yW x).days.toNat:=by have a:=aO x;have h:=TT x (yW x).R (yW x).len;exact⟨⟨AF (gC x) EG,rv x,rj x,OA x⟩,by omega,h.ae,h.aa,h.D⟩
def XT(c:Int)(p:zG):zG:=p.map (wF c)
def TV(p:zG)(c:Int)(x:p.length<=1000)(e:∀d∈p,d.length<=1048576)(m:∀d∈p,∀t∈d,t.length<=1048576):PP 289 [.agg [L p],I c] (.agg [L (XT c p)]):=by
 unfold XT;refine c9 func289 λS nx n=>?_;intro v0 v1;refine EJ ?_;intro j;refine qj 2 0 96 1 rfl rfl λv3=>?_;refine ze (EJ ?_);refine zn (zF (λs:Nat × zG × Nat=>s.1<=p.length/\s.2.1=(p.take s.1).map (wF c)) (λ(k,q,w)=>[(1,I c),(4,.ptr (nx+1) v1 0),(5,.ptr (nx+2) j 0),(11,L p),(12,I p.length),(13,I k)]) (λ(k,q,w)=>[.cells v0 31 [L p],.cells v1 31 [yI],.cells j 31 [.sl (nx+3) w 1 0 q.length],.cells w 96 (q.flatMap Enc.enc)]) (λs=>p.length-s.1) (0,[],v3) [] EA EA EA ?_);rintro⟨k,q,w⟩ ⟨o,a⟩;simp only at o a ⊢;have r:q.length=k:=by rw[a];simp;omega
 refine EJ ?_;refine ze (zA rfl (λhc=>?_) (λhc=>?_));simp at hc;obtain⟨d,tl,u,y,a3,v⟩:=zH rfl p k hc;have b:=Ab u;have l:=Nu d c (e d b) (m d b);generalize f:wF c d=rd at l;have g:1<=p.length-k:=D9;have h:(q.flatMap Enc.enc:List PV).length=q.length:=qJ q;have i:(q.flatMap Enc.enc:List PV).take q.length=q.flatMap Enc.enc:=Ad D9;refine zk (aA (aF [] (zD hc v g) ?_));intro v4;refine EJ ?_;refine zu l ?_;intro v5;refine zi [] (zq h i) ?_;refine⟨by omega,?_⟩;refine zg ?_;exact zv (k+1,q++[rd],w+1) [_,_] ⟨hc,by rw[a3,map_append,a,<-f];rfl⟩ ED (by simp[zy k D9]) rfl (by simp;exact⟨rfl,rfl⟩);simp at hc;obtain rfl:k=p.length:=D9;rw[Ah]at a;refine zB (yc 3 rfl ?_);refine EJ ?_;exact zj (zm n EB (by simp[zr,a]))
def u6(x:Inst)(c:Nat):Stop:=⟨c,if (x.y.getD c default).kind=1 then (x.y.getD c default).O else 1⟩
def uA(x:Inst)(s:Stop)(d:zt):Int:=if (qm x d s).2=true then max 0 (W (W (yl x (qm x d s).1)-W (yl x d))) else 4294967296
def tC(x:Inst)(c:Int):PP 288 [.agg (zE x),I c] (B (decide (0<=c)&&decide (c<x.y.length))):=by refine c9 func288 λS nx a=>?_;intro v0;by_cases h:0<=c;by_cases h2:c<x.y.length;refine aF [(2,7)] (zq h h2) ?_;exact zj (zm a rfl (by simp[zr,h,h2]));refine aF [(2,7)] (zq h h2) ?_;exact zj (zm a rfl (by simp[zr,h,h2]));refine aF [(2,7)] (zq h zz) ?_;exact zj (zm a rfl (by simp[zr,h]))
def aS(h:xJ x p=0):yV x=true/\(p.length:Int)=x.days/\(∀d∈p,yx x d=0)/\∀i,i<x.y.length->vz x p i=0:=by unfold xJ at h;split at h;cases h;split at h;cases h;rename_i h1 h2;split at h;rename_i h3;exact absurd h h3;rename_i h3;refine⟨by simpa using h1,Classical.not_not.1 h2,λd a=>(iE _).1 (Classical.not_not.1 h3) _ (Ak.2 ⟨d,a,rfl⟩),λi hi=>(iE _).1 h _ (Ak.2 ⟨i,AI.2 hi,rfl⟩)⟩
def Qq(hx:x.y.length<=900)(h:yx x d=0):d.flatten.length<=x.y.length/\d.length<=x.y.length/\RgOk x d [⟨0,0⟩]:=by obtain⟨h1,h2,h3⟩:=(uO x d).1 h;have b:=W4 h;have hl:=sT (m:=x.y.length) _ h2 (λc hc=>by obtain⟨s,hs,rfl⟩:=Ak.1 hc;have:=b s hs;simp[jx]at this;omega);rw[length_map]at hl;have hn:=pj h;have e:=sQ d hn;refine⟨hl,by omega,⟨by omega,λt a=>?_,λt a s hs=>?_⟩,h,by rw[AZ];omega⟩;have:=dL d t a;omega;have:=b s (Tg a hs);simp[jx]at this;unfold qz;omega
def tD(hx:x.y.length<=900)(b:jk x)(hv:0<=x.U)(h:yx x d=0):SOk x d.flatten/\SG x d.flatten d:=by obtain⟨h1,h2,h3⟩:=(uO x d).1 h;obtain⟨g1,e,g3⟩:=Qq hx h;refine⟨⟨by omega,b,hv,by omega,λs hs=>?_,h2⟩,⟨h1,.refl _⟩⟩;obtain⟨t,c,a⟩:=BA.1 hs;exact g3.ok.s t c s a
theorem TW(c:Int)(d:zt):(wF c d).flatten=d.flatten.filter λs=>decide (s.c≠c):=by
 unfold wF;have:∀l:zt,(l.filter λt=>!t.isEmpty).flatten=l.flatten:=by
  intro l;induction l with
  |nil=>rfl
  |cons t l a=>cases t<;>simp[Ck,a]
 rw[this];induction d with
 |nil=>rfl
 |cons t d a=>simp only[Aw,BB,Cd,a];rfl
theorem tE(b:0<=rate):∀(q:List Int) (there:Int) (l:List Int),qV size rate there q=some l->l.length=q.length/\∀z∈l,0<=z/\z<=size
 |[],_,l,h=>by simp[qV]at h;subst h;simp
 |q::c,there,l,h=>by unfold qV at h;split at h;cases h;rename_i hc;obtain⟨m,hm,rfl⟩:=Al.1 h;obtain⟨h1,h2⟩:=tE b c _ m hm;refine⟨by simp[h1],λz a=>?_⟩;obtain rfl|a:=Am.1 a;omega;exact h2 z a
theorem tF{M:Int}:∀l:List Int,(∀z∈l,0<=z/\z<=M)->0<=l.sum/\l.sum<=M*l.length
 |[],_=>by simp
 |a::l,h=>by
  have h1:=h a EA;have h2:=tF l λz b=>h z (by simp[b]);simp only[BE,Ae];have e:M*((l.length:Int)+1)=M*l.length+M:=by rw[DL];omega
  push_cast;omega
structure CustSm (c:Cust):Prop where
 H:0<=c.H
 size:0<=c.size/\c.size<=2147483648
 Y:0<=c.Y/\c.Y<=1024
def TX{c:Cust}(h:CustSm c)(q:List Int)(f:q.length<=64):0<=uS c (qc c q).1/\uS c (qc c q).1<=140737488355328:=by
 have key:∀l:List Int,l.length<=64->(∀z∈l,0<=z/\z<=c.size)->0<=uS c l/\uS c l<=140737488355328:=by
  intro l hl b;have h1:=tF (M:=2147483648) l λz a=>by have:=b z a;have:=h.size;omega
  have h2:(2147483648:Int)*l.length<=137438953472:=D9;have d:W l.sum=l.sum:=wr _ D9 D9;unfold uS;rw[d];have h3:=h.Y;have g:0<=c.Y*l.sum:=CF h3.1 h1.1;have i:c.Y*l.sum<=1024*137438953472:=CG h3.2 D9 h1.1 D9;have w2:W (c.Y*l.sum)=c.Y*l.sum:=wr _ D9 D9;rw[w2];omega
 unfold qc;split;exact key [] EA EA;cases e:qV c.size c.H c.Q q with
 |none=>exact key [] EA EA
 |some l =>
 obtain⟨h1,h2⟩:=tE h.H q _ l e;exact key l D9 h2
theorem dS(h:∀c∈x.y,CustSm c)(p:zG):∀k:Nat,0<=qe x p k/\qe x p k<=140737488355328*(k:Int)
 |0=>by simp[qe]
 |k+1=>by
  have h1:=dS h p k;rw[iT];have h2:0<=ZY x p k/\ZY x p k<=140737488355328:=by unfold ZY;split;omega;rename_i c hc;split;exact TX (h c (Ab hc)) _ (by rw[aw];omega);omega
  push_cast;omega
theorem dT(a:jk x):∀p:zG,(∀d∈p,d.flatten.length<=1000/\d.length<=1000)->0<=(p.map (yl x)).sum/\(p.map (yl x)).sum<=4294967296000*(p.length:Int)
 |[],_=>by simp
 |d::p,h=>by have h1:=h d EA;have h2:=dT a p λe b=>h e (by simp[b]);have h3:=cY a d;simp only[Aw,BE,Ae];push_cast;omega
def tG(a:jk x)(hc:∀c∈x.y,CustSm c)(hx:x.y.length<=900)(hl:p.length<=1000)(h:∀d∈p,yx x d=0):qW x p=qe x p x.y.length+(p.map (yl x)).sum:=by
 have h1:=dS hc p x.y.length;have h2:=dT a p λd b=>by have:=Qq hx (h d b);omega
 exact wr _ D9 D9
theorem tH{a:Cust->List Int->List Visit × Bool}:∀(k:Nat) (pr:List (List Int)),Yh x.y.length n pr->(YI x a b n k pr).2=0->∃c,Yh x.y.length n c/\(jC x a c).2=0/\jA (xv x (jC x a c).1 b n)=0/\(YI x a b n k pr).1=vA x (jC x a c).1 b n
 |0,_,_,h=>by simp[YI]at h
 |k+1,pr,d,h=>by unfold YI at h ⊢;by_cases h1:(jC x a pr).2≠0;rw[if_pos h1]at h;cases h;rw[if_neg h1]at h ⊢;by_cases h2:jA (xv x (jC x a pr).1 b n)=0;rw[if_pos h2]at h ⊢;exact⟨pr,d,by simpa using h1,h2,rfl⟩;rw[if_neg h2]at h ⊢;by_cases h3:(xv x (jC x a pr).1 b n).any Qn=true;rw[if_pos h3]at h;cases h;rw[if_neg h3]at h ⊢;exact tH k _ (aM _ d n) h
def TY(h:InstA x n)(h0:(xW x b).2=0):∃v pr,VsOk x.y.length n v/\Yh x.y.length n pr/\(xW x b).1=vA x v b n/\(∀d:Nat,d<n->(ZT x b (wI v d x.y.length)).2=0)/\∀i c,x.y[i]?=some c->v[i]?=some (jp n x.R c (pr.getD i [])).1/\(jp n x.R c (pr.getD i [])).2=true:=by
 have g:x.days.toNat=n:=by rw[h.days];rfl
 unfold xW aR at h0 ⊢;rw[g]at h0 ⊢;obtain⟨pr,e,f,e2,j⟩:=tH 8 _ (sM x n) h0;have hv:=tB h pr e f;obtain⟨c1,c2⟩:=tx f;refine⟨_,pr,hv,e,j,λd a=>?_,c2⟩;refine(iE _).1 e2 _ (Ak.2 ⟨_,Ak.2 ⟨d,AI.2 a,rfl⟩,rfl⟩)
def TZ(c:Cust)(d:Int)(h1:1<=d)(i:d<=7):xI (xG c d) d=true:=by
 have hm:=sS c d h1 i;by_cases g:c.kind.tmod 2=0;have e:xG c d=⟨2,0,[],yS c.H 0 9,yS c.size 1 30,yS c.Q 0 (yS c.size 1 30),yS c.X 1 2,yS c.Y 0 4⟩:=by unfold xG;rw[if_pos g]
 have a:=wP c.H 0 9 D9;have b:=wP c.size 1 30 D9;have s:=wP c.Q 0 (yS c.size 1 30) D9;have r:=wP c.X 1 2 D9;have h:=wP c.Y 0 4 D9;rw[e];simp[xI,yb,uU,Zt];omega;have e:xG c d=⟨1,yS c.O 1 15,Yv c.D d,0,0,0,0,0⟩:=by unfold xG;rw[if_neg g]
 have a:=wP c.O 1 15 D9;rw[e]at hm ⊢;obtain⟨j,-⟩:=hm.per rfl;have hl:1<=(Yv c.D d).length/\(Yv c.D d).length<=64:=by unfold Yv;split;simp;rename_i hn;have:0<c.D.length:=Bt.2 hn;simp only[length_map,AA];omega
 simp only[xI,if_true,Ar,yb,decide_eq_true_eq,wT,uT,Av];refine⟨⟨by omega,λp f=>?_,by omega⟩,by simp⟩;unfold vS;have:yM p d.toNat 64=[]:=by rw[iA,CZ];intro z k;have:=j p f z k;simp;omega
 rw[this];decide
theorem tI(n:Nat)(row:Nat->List Int)(h:∀a,a<n->(row a).length=n/\(row a).getD a 0=0/\∀z∈row a,0<=z/\z<=2147483648):∀k a:Nat,a+k<=n->vT n a ((List.range' a k).map row)=true
 |0,_,_=>rfl
 |k+1,a,b=>by obtain⟨h1,h2,h3⟩:=h a D9;rw[List.range'_succ,Aw];simp only[vT,tI n row h k (a+1) D9,CO,h1,h2,decide_true,BP,Av,yb,decide_eq_true_eq];exact h3
def Ud(x:Inst):yV (yW x)=true:=by
 have h1:=aO x;have h2:=Tb x;have h3:=Tc x;have g:=Td x;have h:=Te x;unfold yV;simp only[Ar,Av,decide_eq_true_eq,yb];refine⟨⟨⟨⟨⟨⟨by omega,by omega⟩,by omega⟩,by omega⟩,by omega⟩,λc hc=>?_⟩,?_⟩;obtain⟨c0,rfl⟩:=iY x hc;exact TZ c0 _ h1.1 h1.2;have e:(yW x).y.length=(x.y.take 6).length:=by simp[yW]
 rw[e];unfold ZW;have e2:(yW x).J=(List.range' 0 ((x.y.take 6).length+1)).map λa=>Zj x (x.y.take 6).length a:=by rw[<-List.range_eq_range'];rfl
 rw[e2,tI _ _ (λa f=>?_) _ _ D9];simp;refine⟨by simp[Zj],?_,λz d=>?_⟩;unfold Zj;rw[Aa,Ai,Bg f];simp;unfold Zj at d;obtain⟨b,-,rfl⟩:=Ak.1 d;split;have:=wP (arc x a b) 0 60 D9;omega;omega
def Ue(s:Nat)(d:Int)(i:Nat)(h:0<=d/\d<64):(jz s d).testBit i=(s.testBit i||decide (d=(i:Int))):=by obtain⟨k,rfl⟩:=Az h.1;unfold jz;rw[if_pos D9,AN,Dz,CL];congr 1;rw[decide_eq_decide];omega
def Uf(c:Cust):Prop:=(c.kind=1/\c.X=0)\/(c.kind=2/\(c.X=1\/c.X=2))
abbrev Wd:=List UInt8
abbrev Ln:=List Wd
abbrev j7:Wd:=[116,114,97,110,116,101,114]
abbrev qY:Wd:=[100,97,121,115]
abbrev qZ:Wd:=[118,101,104,105,99,108,101,115]
abbrev q8:Wd:=[99,97,112,97,99,105,116,121]
abbrev q9:Wd:=[108,101,110,103,116,104]
abbrev jd:Wd:=[99,117,115,116,111,109,101,114,115]
abbrev qQ:Wd:=[118,105,115,105,116]
abbrev xx:Wd:=[116,97,110,107]
abbrev vf:Wd:=[102,105,108,108]
abbrev uB:Wd:=[97,110,121]
abbrev je:Wd:=[100,105,115,116,97,110,99,101,115]
def zO(w:Wd):Int:=((yt w).getD 0:Nat)
def yD(l:Ln):Option (List Int):=if l.all (λw=>(yt w).isSome)=true then some (l.map zO) else none
def ku{l:Ln}{w:Wd}(h:l[k]?=some w)(a:yt w=none):yD l=none:=by grind[yD]
def Vf{l:Ln}(h:∀w∈l,(yt w).isSome=true):yD l=some (l.map zO):=by simp_all[yD]
def aT{l:Ln}{z:List Int}(h:yD l=some z):z.length=l.length:=by grind[yD]
def wh(l:Ln)(n:Nat):Ln:=(range n).map λi=>l.getD (2*i+1) []
def vU(l names:Ln):Bool:=decide (l.length=2*names.length)&&(range names.length).all λi=>decide (l.getD (2*i) []=names.getD i [])
def qD(l names:Ln):Option (List Int):=if vU l names=true then yD (wh l names.length) else none
def xy(w:Wd):Nat->Nat
 |0=>0
 |k+1=>if w.getD k 0=49 then jz (xy w k) k else xy w k
def jS(w:Wd):Bool:=decide (w≠[])&&w.all λc=>decide (c.toNat=48\/c.toNat=49)
def qM(w:Wd):Nat:=if 64<w.length then 0 else xy w w.length
def Z1(d:Wd)(ps:Ln):Cust:=⟨1,zO d,ps.map qM,0,0,0,0,0⟩
def YJ(n:Int)(l:Ln):Option (Cust × Bool):=match l with
 |[]=>none
 |d::ps=>if (yt d).isSome=true/\ps.all jS=true then some (Z1 d ps,ps.all λw=>decide ((w.length:Int)=n)) else none
theorem aU(n:Int)(d:Wd)(ps:Ln):YJ n (d::ps)=if (yt d).isSome=true/\ps.all jS=true then some (Z1 d ps,ps.all λw=>decide ((w.length:Int)=n)) else none:=rfl
def Qr(w:Wd):Int:=if w=vf then 1 else 2
def Zw(l:Ln):Option Cust:=match l with
 |[a,b,c,r,h]=>if (yD [a,b,c,h]).isSome=true/\(r=vf\/r=uB) then some ⟨2,0,[],zO a,zO b,zO c,Qr r,zO h⟩ else none
 |_=>none
theorem dU(a b c r h:Wd):Zw [a,b,c,r,h]=if (yD [a,b,c,h]).isSome=true/\(r=vf\/r=uB) then some ⟨2,0,[],zO a,zO b,zO c,Qr r,zO h⟩ else none:=rfl
def qE(n:Int)(l:Ln):Option (Cust × Bool):=match l with
 |[]=>none
 |w::l=>if w=qQ then YJ n l else if w=xx then (Zw l).map (·,true) else none
instance:Inhabited (Cust × Bool):=⟨(default,false)⟩
def xM(n:Int)(l:Ln):Cust × Bool:=(qE n l).getD default
def xz(m:Nat)(l:Ln):Bool:=(yD l).isSome&&decide (l.length=m)
def zR(ls:List Ln)(k:Nat):Ln:=ls.getD k []
def yF(ls:List Ln)(k n:Nat):List Ln:=(range n).map λi=>zR ls (k+i)
def vV(ls:List Ln):Option (Inst × Bool) :=
 if zR ls 0=[j7,[49]] then
  match qD (zR ls 1) [qY,qZ,q8,q9] with
  |some [d,v,c,l] =>
   match qD (zR ls 2) [jd] with
   |some [m] =>
   if (yF ls 3 m.toNat).all (λl=>(qE d l).isSome)=true/\zR ls (3+m.toNat)=[je]/\(yF ls (4+m.toNat) (m.toNat+1)).all (xz (m.toNat+1))=true/\ls.length=5+2*m.toNat then
    some (⟨d,v,c,l,(yF ls 3 m.toNat).map λl=>(xM d l).1,(yF ls (4+m.toNat) (m.toNat+1)).map λl=>l.map zO⟩,(yF ls 3 m.toNat).all λl=>(xM d l).2)
   else none
   |_=>none
  |_=>none
 else none
def zI:Inst:=⟨0,0,0,0,[],[]⟩
def yn(t:List UInt8):Inst × Int:=match yO t with
 |none=>(zI,2)
 |some ls=>match vV ls with
  |none=>(zI,2)
  |some (x,ok)=>if ok=true/\yV x=true then (x,0) else (zI,3)
def zJ(z:Int):Wd:=zQ z.toNat
def YK{z:Int}(h0:0<=z)(h1:z<100000000000000000):(yt (zJ z)).isSome=true/\zO (zJ z)=z:=by grind[sF,zO,zJ]
def jq(n:Nat)(p:Nat):Wd:=(range n).map λi=>UInt8.ofNat (48+yR p i)
def jf(n:Nat)(c:Cust):Ln:=if c.kind=1 then qQ::zJ c.O::c.D.map (jq n) else [xx,zJ c.H,zJ c.size,zJ c.Q,if c.X=2 then uB else vf,zJ c.Y]
def j8(x:Inst):List Ln :=
 [j7,[49]]::[qY,zJ x.days,qZ,zJ x.U,q8,zJ x.R,q9,zJ x.len]::[jd,zQ x.y.length]::(x.y.map (jf x.days.toNat)++[je]::x.J.map (λr:List Int=>r.map zJ))
def YL(z:Int):Prop:=0<=z/\z<100000000000000000
structure CustT (n:Nat) (c:Cust):Prop where
 kind:(c.kind=1/\YL c.O/\(∀p∈c.D,p<2^n)/\c.H=0/\c.size=0/\c.Q=0/\c.X=0/\c.Y=0)\/(c.kind=2/\c.O=0/\c.D=[]/\YL c.H/\YL c.size/\YL c.Q/\(c.X=1\/c.X=2)/\YL c.Y)
structure InstT (x:Inst) (n:Nat):Prop where
 days:x.days=n
 n1:1<=n
 n64:n<=64
 nums:YL x.U/\YL x.R/\YL x.len
 ah:x.y.length<100000000000000000
 y:∀c∈x.y,CustT n c
 rows:x.J.length=x.y.length+1
 ag:∀r∈x.J,r.length=x.y.length+1/\∀z∈r,YL z
theorem aV(w:Wd)(i:Nat):∀k,(xy w k).testBit i=(decide (i<k/\i<64)&&decide (w.getD i 0=49))
 |0=>by simp[xy]
 |k+1=>by
  unfold xy;split;rename_i h;by_cases a:k<64;rw[Ue _ _ _ ⟨by omega,by omega⟩,aV w i k];grind;have:jz (xy w k) k=xy w k:=by unfold jz;rw[if_neg D9]
  have e2:decide (i<k+1/\i<64)=decide (i<k/\i<64):=by rw[decide_eq_decide];omega
  rw[this,aV w i k,e2];rename_i h;rw[aV w i k];grind
theorem aW(w:Wd):∀k,xy w k<2^64
 |0=>by show 0<2^64;decide
 |k+1=>by unfold xy;split;exact dq _ _ (aW w k);exact aW w k
theorem aX(n p:Nat):(jq n p).length=n:=by simp[jq]
def Ug(n p i:Nat)(h:i<n):(jq n p).getD i 0=UInt8.ofNat (48+yR p i):=by simp_all[jq]
def tJ(n p:Nat)(h:1<=n):jS (jq n p)=true:=by grind[jS,jq,aX,Wy,Qj]
def Uh(n p:Nat)(h1:1<=n)(hn:n<=64)(c:p<2^n):qM (jq n p)=p:=by
 unfold qM;rw[aX,if_neg D9];apply Dg;intro i;rw[aV];by_cases hi:i<n;rw[Ug n p i hi];have hb:=Wy p i;have e:(UInt8.ofNat (48+yR p i)=49)<->yR p i=1:=by constructor;intro e;have:=congrArg UInt8.toNat e;rw[Qj D9]at this;have a:(49:UInt8).toNat=49:=rfl;omega;intro e;rw[e];rfl
 have b:decide (i<n/\i<64)=true:=ED;rw[b,BP,CX];unfold yR at e ⊢;simp only[e];grind[Nat.testBit_lt_two_pow,Nat.lt_of_lt_of_le,Nat.pow_le_pow_right]
def Ui{c:Cust}(h1:1<=n)(hn:n<=64)(h:CustT n c):qE n (jf n c)=some (c,true):=by
 obtain⟨k,v,ps,j,l,st,t,ho⟩:=c;obtain⟨k1,b,i,d,e,f,a,g⟩|⟨k1,b,i,d,e,f,a,g⟩:=h.kind;simp only at k1 b i d e f a g;subst k1 d e f a g;obtain⟨x,m⟩:=YK b.1 b.2;have o:(ps.map (jq n)).all jS=true:=by rw[Av];intro w q;obtain⟨p,r,rfl⟩:=Ak.1 q;exact tJ n p h1
 have e2:((ps.map (jq n)).all λw=>decide ((w.length:Int)=n))=true:=by rw[Av];intro w q;obtain⟨p,r,rfl⟩:=Ak.1 q;simp[aX]
 have y:(ps.map (jq n)).map qM=ps:=by rw[B3];refine(AQ λp r=>?_).trans (Dr _);exact Uh n p h1 hn (i p r)
 unfold jf;rw[if_pos rfl];show YJ n (zJ v::ps.map (jq n))=_;simp_all[aU,Z1];simp only at k1 b i d e f a g;subst k1 b i;obtain⟨z,u⟩:=YK d.1 d.2;obtain⟨b1,b2⟩:=YK e.1 e.2;obtain⟨c1,c2⟩:=YK f.1 f.2;obtain⟨x,m⟩:=YK g.1 g.2;have o:(yD [zJ j,zJ l,zJ st,zJ ho]).isSome=true:=by rw[Vf EI];rfl
 have s:qE n (jf n ⟨2,0,[],j,l,st,t,ho⟩)=(Zw [zJ j,zJ l,zJ st,if t=2 then uB else vf,zJ ho]).map (·,true):=rfl;rw[s,dU];obtain a|a:=a;subst a;rw[if_pos ⟨o,.inl (if_neg EG)⟩,show (if (1:Int)=2 then uB else vf)=vf from rfl];simp only[AU,u,b2,c2,m];rfl;subst a;rw[if_pos ⟨o,.inr (if_pos rfl)⟩,show (if (2:Int)=2 then uB else vf)=uB from rfl];simp only[AU,u,b2,c2,m];rfl
def Vg(a b:List α)(d:α)(k:Nat)(h:a.length=k)(i:Nat):(a++b).getD (k+i) d=b.getD i d:=EH
def tK(l m:List α)(d:α):(range l.length).map (λi=>(l++m).getD i d)=l:=by apply A8<;>grind
theorem Uj(h:InstT x n):vV (j8 x)=some (x,true):=by
 obtain⟨dy,j,k,le,cu,a⟩:=x;obtain⟨h1,h2,h3,⟨s,t,u⟩,v,y,h9,m⟩:=h;simp only at h1 s t u v y h9 m;subst h1;obtain⟨d1,d2⟩:=YK (z:=(n:Int)) D9 D9;obtain⟨v1,v2⟩:=YK s.1 s.2;obtain⟨c1,c2⟩:=YK t.1 t.2;obtain⟨l1,l2⟩:=YK u.1 u.2;have m1:=sF cu.length v;have hW:j8 ⟨n,j,k,le,cu,a⟩=[j7,[49]]::[qY,zJ n,qZ,zJ j,q8,zJ k,q9,zJ le]::[jd,zQ cu.length]::(cu.map (jf n)++[je]::a.map (λr:List Int=>r.map zJ)):=rfl;rw[hW];generalize f:[j7,[49]]::[qY,zJ n,qZ,zJ j,q8,zJ k,q9,zJ le]::[jd,zQ cu.length]::(cu.map (jf n)++[je]::a.map (λr:List Int=>r.map zJ))=ls;have b:ls=[[j7,[49]],[qY,zJ n,qZ,zJ j,q8,zJ k,q9,zJ le],[jd,zQ cu.length]]++(cu.map (jf n)++[je]::a.map (λr:List Int=>r.map zJ)):=by rw[<-f];rfl
 have q0:zR ls 0=[j7,[49]]:=by rw[<-f];rfl
 have q1:zR ls 1=[qY,zJ n,qZ,zJ j,q8,zJ k,q9,zJ le]:=by rw[<-f];rfl
 have q2:zR ls 2=[jd,zQ cu.length]:=by rw[<-f];rfl
 have q3:yF ls 3 cu.length=cu.map (jf n):=by
  unfold yF zR;rw[b];have:(range cu.length).map (λi=>([[j7,[49]],[qY,zJ n,qZ,zJ j,q8,zJ k,q9,zJ le],[jd,zQ cu.length]]++(cu.map (jf n)++[je]::a.map (λr:List Int=>r.map zJ))).getD (3+i) [])=(range (cu.map (jf n)).length).map λi=>(cu.map (jf n)++[je]::a.map (λr:List Int=>r.map zJ)).getD i []:=by rw[length_map];refine AQ λi _=>?_;exact Vg _ _ _ 3 rfl i
  rw[this,tK]
 have q4:zR ls (3+cu.length)=[je]:=by unfold zR;rw[b,Vg _ _ _ 3 rfl];have:=Vg (cu.map (jf n)) ([je]::a.map (λr:List Int=>r.map zJ)) [] cu.length EA 0;rw[BJ]at this;rw[this];rfl
 have q5:yF ls (4+cu.length) (cu.length+1)=a.map (λr:List Int=>r.map zJ):=by
  unfold yF zR;have:(range (cu.length+1)).map (λi=>ls.getD (4+cu.length+i) [])=(range (a.map (λr:List Int=>r.map zJ)).length).map λi=>(a.map (λr:List Int=>r.map zJ)++[]).getD i []:=by rw[length_map,h9];refine AQ λi _=>?_;rw[b,show 4+cu.length+i=3+(cu.length+(1+i)) by omega,Vg _ _ _ 3 rfl,Vg _ _ _ cu.length EA,Ay];have:=Vg [[je]] (a.map (λr:List Int=>r.map zJ)) [] 1 rfl i;exact this
  rw[this,tK]
 have q6:ls.length=5+2*cu.length:=by rw[b];simp;omega
 have n1:qD (zR ls 1) [qY,qZ,q8,q9]=some [(n:Int),j,k,le]:=by rw[q1];unfold qD;rw[if_pos (by simp[vU,AO]),Vf (by intro w o;simp[wh,AO]at o;grind)];simp[wh,AO,d2,v2,c2,l2]
 have n2:qD (zR ls 2) [jd]=some [(cu.length:Int)]:=by rw[q2];unfold qD;rw[if_pos (by simp[vU]),Vf (by intro w o;simp[wh,AO]at o;rw[o,m1];rfl)];simp[wh,AO,zO,m1]
 have hc:∀c∈cu,qE n (jf n c)=some (c,true):=λc hc=>Ui h2 h3 (y c hc);have r1:(cu.map (jf n)).all (λl=>(qE n l).isSome)=true:=by rw[Av];intro l hl;obtain⟨c,d,rfl⟩:=Ak.1 hl;rw[hc c d];rfl
 have g:∀r∈a,(yD (r.map zJ)).isSome=true/\(r.map zJ).map zO=r:=by intro r p;have q:=(m r p).2;refine⟨?_,?_⟩;rw[Vf];rfl;intro w o;obtain⟨z,e,rfl⟩:=Ak.1 o;exact(YK (q z e).1 (q z e).2).1;rw[B3];refine(AQ λz e=>?_).trans (Dr _);exact(YK (q z e).1 (q z e).2).2
 have r2:(a.map (λr:List Int=>r.map zJ)).all (xz (cu.length+1))=true:=by rw[Av];intro l hl;obtain⟨r,p,rfl⟩:=Ak.1 hl;simp[xz,(g r p).1,(m r p).1]
 have tn:((cu.length:Nat):Int).toNat=cu.length:=EA;unfold vV;rw[if_pos q0,n1];simp only;rw[n2];simp only[tn,q3,q5,q4];rw[if_pos ⟨r1,trivial,r2,q6⟩];have e1:(cu.map (jf n)).map (λl=>(xM n l).1)=cu:=by rw[B3];refine(AQ λc d=>?_).trans (Dr _);simp only[Function.comp_apply,xM,hc c d];rfl
 have e2:(a.map (λr:List Int=>r.map zJ)).map (λl=>l.map zO)=a:=by rw[B3];refine(AQ λr p=>?_).trans (Dr _);exact(g r p).2
 have e3:((cu.map (jf n)).all λl=>(xM n l).2)=true:=by rw[Av];intro l hl;obtain⟨c,d,rfl⟩:=Ak.1 hl;simp only[xM,hc c d];rfl
 rw[e1,e2,e3]
def Uk:∀w∈[j7,qY,qZ,q8,q9,jd,qQ,xx,vf,uB,je,[49]],jR w:=by intro w a;rw[<-uz];revert w;decide
def Ul(n p:Nat)(h:1<=n):jR (jq n p):=by have:=tJ n p h;simp only[jS,Ar,decide_eq_true_eq,Av]at this;exact⟨this.1,λc hc=>by grind⟩
theorem Um(h:InstT x n):(∀l∈j8 x,l≠[])/\∀l∈j8 x,∀w∈l,jR w:=by
 have A:∀w,w∈[j7,qY,qZ,q8,q9,jd,qQ,xx,vf,uB,je,[49]]->jR w:=Uk;have d:=h.n1;have f:x.days.toNat=n:=by have:=h.days;omega
 constructor;intro l hl;simp only[j8,Am,AC,Ak]at hl;obtain rfl|rfl|rfl|⟨c,hc,rfl⟩|rfl|⟨r,b,rfl⟩:=hl;simp;simp;simp;grind[jf];simp;intro e;have:=(h.ag r b).1;simp_all;intro l hl w a;simp only[j8,Am,AC,Ak]at hl;obtain rfl|rfl|rfl|⟨c,hc,rfl⟩|rfl|⟨r,b,rfl⟩:=hl;grind
 .simp only[Am,A9,or_false]at a;obtain rfl|rfl|rfl|rfl|rfl|rfl|rfl|rfl:=a;all_goals first|exact YF _|simp_all
 grind[YF];unfold jf at a;split at a;simp only[Am,Ak]at a;obtain rfl|rfl|⟨p,g,rfl⟩:=a;exact A _ EA;exact YF _;simp_all[Ul];simp only[Am,A9,or_false]at a;obtain rfl|rfl|rfl|rfl|rfl|rfl:=a;simp_all;exact YF _;exact YF _;exact YF _;split<;>simp_all;exact YF _;simp_all;obtain⟨z,_,rfl⟩:=Ak.1 a;exact YF _
def tL(h:InstT x n)(hm:yV x=true):yn (zV (j8 x))=(x,0):=by grind[Um,yn,aJ,Uj]
abbrev U8(b:UInt8):PV:=.sc (.int .u8 (b.toNat:Int))
def Un(l:List UInt8):strOfNums (l.map λb=>(b.toNat:Int))=bs l:=by simp[strOfNums,AQ]
def Qt(a b:List UInt8)(h:a.length+b.length<=9223372036854775807):yq .add (bs a) (bs b)=some (.string (bs (a++b))):=by simp_all[yq,xK,Sr]
def tM{P:Program}{e b off cap:Nat}{l:List UInt8}(hs:P.underlying k=some (.slice e))(f:P.underlying e=some (.int .u8))(g:P.underlying n=some .string)(c:l.length=vF)
  (a:∀(i:Nat) (u:UInt8),l[i]?=some u->w.cell? ⟨b,off+i,none⟩=some (.int .u8 (u.toNat:Int))):(convert k n (.slice (some ⟨b,off,none⟩) vF cap)).run P w=.ok (.string (bs l)) w:=by
 have:=run_convert_bytes_arg (P:=P) w k e hs f b off vF cap (l.map λb=>(b.toNat:Int)) (by simpa using c) (λi hi=>by have d:i<l.length:=D9;rw[a i l[i] (Ac d)];simp[Aa,Ac d]) n g;simp_all[Un]
variable {P:Program}{o:Oper}{dst:TypeId}
def tN{x:Operand}{a:Act}{v:Value}(ho:o.op=.convert t dst x)(h:(convert t dst (a.eval x)).run P w=.ok v w):(execOp a.eval o).run P w=.ok (.value v) w:=by simp_all[execOp]
variable {F:Nat->PV}{K:PV->Store->Prop}
def Uo{src e:TypeId}{x:Operand}{l:List UInt8}(ho:o.op=.convert src dst x)(hs:P.underlying src=some (.slice e))(p:P.underlying e=some (.int .u8))(r:P.underlying dst=some .string)
  (hx:ev F x=.lst l.length (l.map U8)) (hK:K (T (bs l)) S):PO P jM n o F S K:=by
 intro G hG C w a N st next Q' d;have f:=st.ev x;rw[(hG x (by simp[ho,Op.operands])).trans hx]at f;have s:∀c,o.op≠.defer c:=by intro c hc;rw[ho]at hc;cases hc
 have g:(convert src dst (a.eval x)).run P w=.ok (.string (bs l)) w:=by
  generalize a.eval x=v at f;generalize hm:l.length=m at f;generalize j:l.map U8=cs at f;cases f with
  |lst0 =>
   rename_i cap t;obtain rfl:l=[]:=As hm;cases t with
   |none=>exact run_convert_bytes_nil w src e hs p 0 cap dst r
   |some t =>
   have:=run_bytesToString (P:=P) w t 0 cap [] (by simp[loadCells,loadCellsFrom]);rw[run_convert_bytes_string w src dst e _ 0 cap hs p r,this];rfl
  |lst1 hn a1 hb hM y h1 hr =>
  rename_i cap b off c et fz;refine tM hs p r hm λi u z=>?_;have hi:i<l.length:=(Af.1 z).1;have hp:cs[i]?=some (U8 u):=by rw[<-j,Ai,z];rfl
  have k:cs.length=l.length:=by rw[<-j,length_map]
  have a0:=y (by intro h;rw[h]at k;simp at k;omega);have hv:=hr i _ _ hp (A5 D9);generalize hq:c[off+i]' D9=q at hv;cases hv;grind[World.cell?]
 exact qx s (tN ho g) (d _ _ _ _ _ hK (.sc _) st.sim (Step.refl _ _ _))
def dV{src e:TypeId}{x:Operand}{l:List UInt8}{id ver j off:Nat}{cs:List PV}(ho:o.op=.convert src dst x)(hs:P.underlying src=some (.slice e))(r:P.underlying e=some (.int .u8))(s:P.underlying dst=some .string)
  (hx:ev F x=.sl id ver 1 off l.length) (hid:S id=.cells ver j cs) (hl:∀(i:Nat) (u:UInt8),l[i]?=some u->cs[off+i]?=some (U8 u)) (h0:0<l.length) (t:K (T (bs l)) S):PO P jM n o F S K:=by
 intro G y C w a N st next Q' d;have g:=st.ev x;rw[(y x (by simp[ho,Op.operands])).trans hx]at g;have h:∀c,o.op≠.defer c:=by intro c hc;rw[ho]at hc;cases hc
 have f:(convert src dst (a.eval x)).run P w=.ok (.string (bs l)) w:=by
  generalize a.eval x=v at g;generalize hm:l.length=m at g;cases g with
  |sl h1 h2 h3 =>
  rcases (h3 ver (by rw[hid];rfl)).2 rfl with ⟨_,z2,_,_⟩|⟨b,k,ad,cap,z1,z2,z3,z4⟩
  omega;obtain rfl:=z4 D9;subst z2;obtain⟨hn,_⟩|⟨b2,k2,c,g1,g2,g3,g4,g5,z⟩:=st.sim.cells id ver j cs hid;rw[hn]at z1;cases z1;rw[g1]at z1;cases z1;refine tM hs r s hm λi u hu=>?_;have p:=hl i u hu;have hi:off+i<cs.length:=(Af.1 p).1;have hv:=z (off+i) _ _ p (A5 D9);generalize hq:c[off+i]' D9=q at hv;cases hv;grind[World.cell?]
 exact qx h (tN ho f) (d _ _ _ _ _ t (.sc _) st.sim (Step.refl _ _ _))
def Up{t e m id ver r:Nat}{x lo:Operand}{cs:List PV}(ho:o.op=.slice t x (some lo) none none)(s:P.underlying t=some (.array m e))(hc:P.cellsOf e=1)(hx:ev F x=.ptr id ver 0)(g:ev F lo=I (k:Int))(h0:0<k)(y:k<m)(hid:S id=.cells ver r cs)(hm:m<=1048576)(z:K (.sl id ver 1 k (m-k)) S):PO P jM n o F S K:=by
 intro G p C w a N st next Q' d;have i:=st.ev x;rw[(p x (by simp[ho,Op.operands])).trans hx]at i;have e2:=st.ev lo;rw[(p lo (by simp[ho,Op.operands])).trans g]at e2;have j:∀c,o.op≠.defer c:=by intro c hc;rw[ho]at hc;cases hc
 generalize hv:a.eval x=v at i;generalize hu:a.eval lo=u at e2;cases e2;cases i with
 |ptr h1 h2 h3 =>
 obtain⟨b,q,hl,rfl⟩:=(h3 ver (by rw[hid];rfl)).2 rfl;have f:(execOp a.eval o).run P w=.ok (.value (.slice (some ⟨b,k,none⟩) (m-k) (m-k))) w:=by unfold execOp;simp[ho,hv,hu,Instr.sliceAt,run_underlying s,Instr.sureAddr,Instr.sliceBounds,Instr.sliceBound,asIntOf,ue (show P.cellsOf e≠0 by omega),hc];rw[if_pos (D0 y),if_neg D9,Addr.add_plain];simp
 refine qx j f (d _ _ _ _ _ z (.sl ⟨_,_,rfl,Ag _,by unfold xO;omega,by unfold maxLen;omega,λ_=>⟨_,_,rfl⟩⟩ h2 λv0 l=>?_) st.sim (Step.refl _ _ _));obtain⟨a1,a2⟩:=h3 v0 l;refine⟨a1,λa0=>?_⟩;exact .inr ⟨b,q,_,_,hl,rfl,λh=>absurd h D9,λ_=>rfl⟩
open Go.RowKit Go.Shelf
variable {C:Ctx}
def Uq{b:UInt8}{v:Value}(h:Rel C S w (U8 b) v):v=.int .u8 (b.toNat:Int):=by cases h;rfl
def Ur(k:Nat)(a:2<=k):liesAt prog prog.depth 79 (k/prog.cellsOf 79) 0 79 1=true:=by have hc:prog.cellsOf 79=2:=EC;have hl:sameLayout prog prog.depth 79 79=true:=EC;obtain⟨d,b⟩:∃d,prog.depth=d+1:=⟨prog.depth-1,by kernel_rfl⟩;have h1:1<=k/2:=D9;simp_all[liesAt,rowAt]
def Us(b k:Nat)(w:World)(h0:w.cell? ⟨b,0,none⟩=some (.pointer none))(a:w.shape? b=some (79,k))(f:2<=k)(g:w.frozen? ⟨b,0,none⟩=false):
  Calls prog 65 #[.pointer (some ⟨b,0,none⟩)] w λe w'=>e=.returned (.tuple #[])/\w'=w.setCell ⟨b,0,none⟩ (.pointer (some ⟨b,0,none⟩)):=by
 obtain⟨j,d,c⟩:∃j,prog.info? 79=some j/\j.size=2:=by have:(prog.info? 79).map (·.size)=some 2:=EC;exact Al.1 this
 go_enter func65,ntmps65
 go_wp2
 rw[Lib.run_to_unsafe w ⟨b,0,none⟩ underlying76 underlying164 d (by rw[c];decide) a (by show 0<k;omega)];simp only[Result.andThen];rw[Oper.upon_value]
 go_wp2
 rw[run_callFunc_extern func106 EC EC EC (e:=Extern.AbiNoEscape.same) EC];rw[Lib.run_noEscape];simp only[Result.andThen];rw[Oper.upon_value]
 go_wp2
 rw[Lib.run_from_unsafe w ⟨b,0,none⟩ underlying164 underlying76 d a (Ur k f)];simp only[Result.andThen];rw[Oper.upon_value]
 go_wp2
 go_end0
 simp
def Qu(S:Store)(o:Nat)(x:Ob)(h:S o=x):S.set o x=S:=by grind[Store.set]
def dW{vs:Array Value}(h:1=vs.size):∃v,vs=#[v]:=by
 match vs,h with
 |⟨[v]⟩,_=>simp
def tO{vs:Array Value}(h:2=vs.size):∃u v,vs=#[u,v]:=by
 match vs,h with
 |⟨[u,v]⟩,_=>simp
def dX(a:Sim C S w){id v e:Nat}{p s:PV}(h:S id=.cells v e [p,s]):∃(b k:Nat) (c:Array Value) (c0 c1:Value),C.loc id=some (b,k)/\w.heap[b]?=some (.cells c e (0,0))/\c.size=k/\2<=k/\c[0]?=some c0/\c[1]?=some c1/\Rel C S w p c0/\Rel C S w s c1 /\
  (∀(i:Nat) (u:Value),i<2->c[i]?=some u->u.oneCell'=true):=by
 obtain⟨_,hn⟩|⟨b,k,c,g1,d,g3,g4,f,g⟩:=a.cells id v e _ h;cases hn;simp only[Ae,Aj]at g4;have j:c[0]?=some (c[0]' D9):=A5 D9;grind
def tP{id v:Nat}{p s:PV}(f:S id=.cells v 79 [p,s])(r:p=.sc (.pointer none)\/p=.ptr id v 0):
  SP 65 [.ptr id v 0] S (λ_ S'=>S'=S.set id (.cells v 79 [.ptr id v 0,s])):=by
 refine⟨qN func65 EF rfl,?_⟩;intro C w vs h hl t;obtain⟨u,rfl⟩:=dW hl;have g:=t 0 _ u rfl rfl;cases g with
 |ptr h1 h2 h3 =>
 obtain⟨b,k,a,rfl⟩:=(h3 v (by rw[f];rfl)).2 rfl;obtain⟨b',k',c,c0,c1,g1,o,g3,g4,x,e1,r0,r1,g5⟩:=dX h f;rw[a]at g1;cases g1;have d:w.cell? ⟨b,0,none⟩=some c0:=by simp[World.cell?,o,x]
 have m:Rel C S w (.ptr id v 0) (.pointer (some ⟨b,0,none⟩)):=.ptr h1 h2 h3;obtain rfl|rfl:=r;cases r0;refine(Us b k w d (by simp_all[World.shape?]) g4 (by simp_all[World.frozen?])).mono ?_;rintro e w' ⟨rfl,rfl⟩;have y:(w.setCell ⟨b,0,none⟩ (.pointer (some ⟨b,0,none⟩))).heap[b]?=some (.cells (c.setIfInBounds 0 (.pointer (some ⟨b,0,none⟩))) 79 (0,0)):=by simp[World.setCell,BL,o]
 obtain⟨z,t2⟩:=h.turn (l:=C.loc id) (ver':=v) (cs':=[.ptr id v 0,s]) f (Ag _) (λ_=>rfl) (w':=w.setCell ⟨b,0,none⟩ (.pointer (some ⟨b,0,none⟩)))
  (by rw[a];exact⟨⟨rfl,rfl,rfl,by simp,λj _ hj=>by grind[World.setCell]⟩,Ag _⟩)
  (.inr ⟨b,k,_,a,.inr (by rw[a];rfl),y,by simp[g3],g4,λi u hi g=>by
    match i,hi with
    |0,_=>rw[B9 D9]at g;cases g;rfl
    |1,_=>grind,
   λi q u hq g=>by grind⟩)
 exact⟨.junk,_,_,_,rfl,rfl,.junk _,z,t2⟩;have n:c0=.pointer (some ⟨b,0,none⟩):=by
  cases r0 with
  |ptr i1 i2 i3 =>
  obtain⟨b2,k2,a0,rfl⟩:=(i3 v (by rw[f];rfl)).2 rfl;simp_all
 subst n;refine(Any.Builder_copyCheck_used { lays156 with } Builder_Extra_156.toX72 b w d).mono ?_;rintro e w' ⟨rfl,rfl⟩;exact⟨.junk,_,_,_,rfl,(Qu S id _ f).symm,.junk _,h,.refl _ _ _⟩
theorem Sim.lose{w':World}{id:Nat}(h:Sim C S w)(g:S id≠.dead)(a:w.grownBy w' ((C.loc id).map (·.1))/\w.drawn<=w'.drawn):Sim C (S.set id .dead) w'/\Step C S w C (S.set id .dead) w':=by
 have hold:∀o,(S.set id .dead) o≠.dead->o≠id/\(S.set id .dead) o=S o:=by intro o ho;by_cases e:o=id;simp_all;simp_all[q10]
 have d:∀i b k,i≠id->S i≠.dead->C.loc i=some (b,k)->some b≠(C.loc id).map (·.1):=by
  intro i b k hi r hb j;cases ho:C.loc id with
  |none=>simp_all
  |some x =>
  obtain⟨b2,q⟩:=x;rw[ho]at j;cases j;exact hi (h.J i id _ _ _ r g hb ho)
 have st:Step C S w C (S.set id .dead) w':=by
  refine⟨a.1.os,⟨a.1.tape,a.2⟩,a.1.output,a.1.size,Ag _,Ag _,λb n hM=>⟨a.1.block b n λe=>?_,?_⟩,λo v1 hv=>?_⟩
  .cases ho:C.loc id with
   |none=>simp_all
   |some x =>
   obtain⟨b2,q⟩:=x;rw[ho]at e;cases e;exact hM ⟨id,q,g,ho⟩
  rintro⟨o,k,ho,hl⟩;obtain⟨f,e2⟩:=hold o ho;rw[e2]at ho;exact hM ⟨o,k,ho,hl⟩;obtain⟨f,e2⟩:=hold o (by intro e;rw[e]at hv;cases hv);simp_all
 refine⟨⟨λo ho=>?_,λo v hv=>?_,λo o' b k k' h1 h2 h3 s=>?_,λo v e cs ho=>?_,λo v es ho=>?_⟩,st⟩;obtain⟨f,e2⟩:=hold o ho;rw[e2]at ho;exact h.lt o ho;obtain⟨f,e2⟩:=hold o (by intro e;rw[e]at hv;cases hv);rw[e2]at hv;exact h.clk o v hv;obtain⟨f,e2⟩:=hold o h1;obtain⟨e3,t⟩:=hold o' h2;rw[e2]at h1;rw[t]at h2;exact h.J o o' b k k' h1 h2 h3 s;obtain⟨f,e2⟩:=hold o (by rw[ho];simp);rw[e2]at ho;obtain hn|⟨b,k,c,g1,l,g3,g4,y,z⟩:=h.cells o v e cs ho;exact .inl hn;exact .inr ⟨b,k,c,g1,(a.1.block b (jh l) (d o b k f (by rw[ho];simp) g1)).trans l,g3,g4,y,λi p u hp hu=>(z i p u hp hu).mono st⟩;obtain⟨f,e2⟩:=hold o (by rw[ho];simp);rw[e2]at ho;obtain⟨b,k,ms,cl,g1,l,g3,g4⟩:=h.maps o v es ho;exact⟨b,k,ms,cl,g1,(a.1.block b (jh l) (d o b k f (by rw[ho];simp) g1)).trans l,g3,λi x m j hm=>⟨(g4 i x m j hm).1,(g4 i x m j hm).2.mono st⟩⟩
def Ut(b g cap:Nat)(c cur:Array Value)(l:List UInt8)(w:World)(f:w.heap[b]?=some (.cells c 79 (0,0)))(h1:c[1]?=some (.slice (some ⟨g,0,none⟩) l.length cap))(h0:l≠[])(i:l.length<=140737488355328)
  (m:w.heap[g]?=some (.cells cur 5 (0,0))) (d:l.length<=cur.size) (k:l.length<=cap) (a:∀(j:Nat) (x:UInt8),l[j]?=some x->cur[j]?=some (.int .u8 (x.toNat:Int))) :
  Calls prog 42 #[.pointer (some ⟨b,0,none⟩)] w λe w'=>e=.returned (.string (bs l))/\w'=w.drew.freeze ⟨g,0,none⟩ l.length:=by
 have n:l.length≠0:=by simpa using h0
 have c1:w.drew.cell? ⟨b,1,none⟩=some (.slice (some ⟨g,0,none⟩) l.length cap):=by have:w.drew.heap[b]?=some (.cells c 79 (0,0)):=f;rw[Lib.cell_of_heap this];exact h1
 have h:w.drew.heap[g]?=some (.cells cur 5 (0,0)):=m;have o:(Builtin.unsafeSliceData_ #[77] 126 #[.slice (some ⟨g,0,none⟩) l.length cap]).run prog w.drew=.ok (.pointer (some ⟨g,0,none⟩)) w.drew :=
  Lib.run_unsafeSliceData_row _ _ _ _ _ _ D9
 have p:(Builtin.unsafeString_ #[126,3] 9 #[.pointer (some ⟨g,0,none⟩),.int .i64 l.length]).run prog w.drew=.ok (.string (bs l)) (w.drew.freeze ⟨g,0,none⟩ l.length):=by refine Lib.run_unsafeString_row w.drew 126 3 9 5 underlying126 EA g cur.size (by simp_all[World.shape?]) l h0 d D9 ?_;intro j x hx;rw[Addr.add_plain,AV];simp[World.cell?,h,a j x hx]
 go_enter func42,ntmps42
 go_wp2
 go_region
 all_goals (go_wp2;go_ret;simp)
def aY{id v ib w0:Nat}{p:PV}(l:List UInt8)(o:S id=.cells v 79 [p,.sl ib w0 1 0 l.length])(h:S ib=.cells w0 5 (l.map U8))(h0:l≠[])(d:l.length<=140737488355328):
  SP 42 [.ptr id v 0] S (λq S'=>q=T (bs l)/\S'=S.set ib .dead):=by
 refine⟨qN func42 EF rfl,?_⟩;intro C w vs m hl t;obtain⟨u,rfl⟩:=dW hl;have y:=t 0 _ u rfl rfl;have n:l.length≠0:=by simpa using h0
 cases y with
 |ptr h1 h2 h3 =>
 obtain⟨b,k,f,rfl⟩:=(h3 v (by rw[o];rfl)).2 rfl;obtain⟨b',k',c,c0,c1,g1,z,g3,g4,e0,e1,r0,r1,g5⟩:=dX m o;rw[f]at g1;cases g1;cases r1 with
 |sl i1 i2 i3 =>
 rcases (i3 w0 (by rw[h];rfl)).2 rfl with ⟨_,q,_⟩|⟨g,kg,ad,cap,hlg,rfl,hq0,hq1⟩
 omega;obtain⟨rfl,hq⟩:=hq0 rfl;obtain⟨a1,cp,e2,c3,_⟩:=i1;cases e2;obtain⟨hn,_⟩|⟨b2,k2,cur,r,f2,f3,f4,f5,f6⟩:=m.cells ib w0 _ _ h;simp_all;rw[hlg]at r;cases r;rw[length_map]at f4;have a:∀(j:Nat) (x:UInt8),l[j]?=some x->cur[j]?=some (.int .u8 (x.toNat:Int)):=by intro j x hx;have s:=(Af.1 hx).1;have hc:=A5 (xs:=cur) (i:=j) D9;rw[hc,Uq (f6 j (U8 x) _ EH hc)]
 refine(Ut b g cap c cur l w z e1 h0 d f2 D9 c3 a).mono ?_;rintro e w' ⟨rfl,rfl⟩;obtain⟨t1,t2⟩:=m.lose (id:=ib) (w':=w.drew.freeze ⟨g,0,none⟩ l.length) (by rw[h];simp) (by rw[hlg];unfold World.freeze;rw[if_neg n];exact⟨⟨rfl,rfl,rfl,by simp,λj _ s=>by rw[BL,if_neg (λe=>s (by rw[<-e];rfl))];rfl⟩,C4 _⟩);exact⟨_,_,_,_,rfl,⟨rfl,rfl⟩,.sc _,t1,t2⟩
def kv(k:Nat)(h:k<256):IntKind.u8.wrap (k:Int)=k:=by
 have e:IntKind.u8.wrap (k:Int)=(k:Int)%256:=by simp[IntKind.wrap,IntKind.bits,IntKind.signed]
 rw[e];omega
def dY(n:Nat)(hn:n<=9223372036854775807):PP 29 [I n] (T (bs (zQ n))):=by
 induction n using Nat.strongRecOn with
 |_ n p =>
 have q:((n:Int)).tmod 10=((n%10:Nat):Int):=by rw[Be D9];omega
 have s:((n:Int)).tdiv 10=((n/10:Nat):Int):=by rw[BQ D9];omega
 have c:n<10->zQ n=[UInt8.ofNat (48+n%10)]:=λh=>by rw[Qi h,Dd h]
 have d:¬n<10->zQ n=zQ (n/10)++[UInt8.ofNat (48+n%10)]:=JS;have t:=Qj (k:=n%10) D9;have v:n%10<10:=D9;have f:n/10<=n/\(¬n<10->n/10<n):=D9;generalize UInt8.ofNat (48+n%10)=u at *;generalize n%10=r at *;generalize n/10=m at *;have w:W (m:Int)=m:=by simp only[W,AD];omega
 have g:W (48+(r:Int))=(u.toNat:Int):=by rw[t];simp only[W,AD];omega
 have i:=kv u.toNat D9;have h0:¬(n:Int)<0:=D9;refine c9 func29 λS nx o=>?_;refine ze (aF [] h0 ?_);refine aC (aF [] (zD q g i) ?_);refine λa=>Uo (e:=5) (l:=[u]) rfl EA EA EA EA ?_;refine⟨_,_,rfl,zS a ?_⟩;refine ze (EJ ?_);refine zA rfl (λh=>?_) (λh=>?_);simp at h;have b:=p m (f.2 D9) D9;have j:=Qt (zQ m) [u] (by have:=aI m 18 D9;simp;omega);refine aF [] (zq s w) ?_;refine yK [] b j ?_;exact zj (zm o EB (by rw[d D9];rfl));simp at h;refine zk (EJ ?_);exact zj (zm o EB (by rw[c D9];rfl))
def Zx(l:List Nat):List ByteArray:=l.map λn=>bs (zQ n)
def kx(l:List Nat)(hl:l.length<=1048576)(hn:∀n∈l,n<=9223372036854775807):PP 28 [L (l.map λn:Nat=>(n:Int))] (L (Zx l)):=by
 obtain⟨zs,a⟩:∃zs:List Int,zs=l.map λn:Nat=>(n:Int):=⟨_,rfl⟩;have d:zs.length=l.length:=by rw[a,length_map]
 have f:∀(k n:Nat),l[k]?=some n->zs[k]?=some (n:Int):=λk n e=>by rw[a,Ai,e];rfl
 rw[<-a];refine c9 func28 λS nx i=>?_;refine EJ ?_;refine qa 3 9 1 rfl λv3=>?_;refine ze (EJ ?_);refine zn (zF (λs:Nat × Nat=>s.1<=zs.length) (λ(k,w)=>[(0,L zs),(3,.sl nx w 1 0 k),(4,I k)]) (λ(k,w)=>[.cells w 9 ((Zx (l.take k)).flatMap Enc.enc)]) (λs=>zs.length-s.1) (0,v3) [] EA EA (by simp[Zx]) ?_);rintro⟨k,w⟩ j;simp only at j ⊢;refine ze (EJ ?_);refine zA rfl (λhc=>?_) (λhc=>?_);simp at hc;obtain⟨n,b⟩:∃n,l[k]?=some n:=⟨_,Ac D9⟩;obtain⟨z,tl,b1,b2,b3,m⟩:=zH rfl zs k hc;obtain rfl:z=(n:Int):=by have:=f k n b;rw[b1]at this;exact inj this
 have c:=dY n (hn n (Ab b));have g:Zx (l.take (k+1))=Zx (l.take k)++[bs (zQ n)]:=by rw[Ax,b];simp[Zx]
 have hf:(Zx (l.take k)).length=k:=by simp[Zx];omega
 have h:((Zx (l.take k)).flatMap Enc.enc:List PV).take k=(Zx (l.take k)).flatMap Enc.enc:=Ad (by rw[W6];omega);generalize Zx (l.take k)=ws at *;refine zk (aA (zi [] (zq m hc) ?_));refine yK [] c (zq hf h) ?_;refine⟨by omega,?_⟩;refine zg ?_;exact zv (k+1,w+1) [] hc ED (by simp[zy k D9]) rfl (by simp[g]);simp at hc;obtain rfl:k=zs.length:=D9;refine zB (yc 0 rfl ?_);refine EJ ?_;exact zj (zm i EB (by rw[d,Ah];simp[zr,Zx]))
def Uu(ws:List (List UInt8))(w:List UInt8):zW (ws++[w])=(if ws=[] then [] else zW ws++[32])++w:=by
 cases ws with
 |nil=>rfl
 |cons v vs=>rw[sA,if_neg EA];simp
def ky(ws:List (List UInt8))(hl:ws.length<=1048576)(n:(zW ws).length<=1099511627776)(d:∀k,(zW (ws.take k)).length<=1099511627776):PP 22 [L (ws.map bs)] (T (bs (zW ws++[10]))):=by
 refine c9 func22 λS nx i=>?_;refine EJ ?_;refine ze (EJ ?_);refine zn (zF (λk:Nat=>k<=ws.length) (λk=>[(0,L (ws.map bs)),(3,T (bs (zW (ws.take k)))),(4,I k)]) (λ_=>[]) (λk=>ws.length-k) 0 [] EA (by simp[zW]) EA ?_);rintro k o;refine ze (EJ ?_);refine zA rfl (λhc=>?_) (λhc=>?_);simp at hc;obtain⟨w,tl,b1,b2,b3,f⟩:=zH rfl (ws.map bs) k (by simpa using hc);obtain⟨u,j,rfl⟩:∃u,ws[k]?=some u/\bs u=w:=by rw[Ai]at b1;simpa using b1
 have a:zW (ws.take (k+1))=(if ws.take k=[] then [] else zW (ws.take k)++[32])++u:=by rw[Ax,j];exact Uu _ _
 have l:=d k;have g:=d (k+1);have m:u.length<=(zW (ws.take (k+1))).length:=by rw[a,length_append];omega
 have b:k<ws.length:=by simpa using hc
 refine zk (aA ?_);by_cases h0:0<k;have e:¬ws.take k=[]:=by intro h;have:=congrArg List.length h;rw[AA,Aj]at this;omega
 rw[if_neg e]at a;have c:=congrArg List.length a;simp only[length_append,AZ]at c;have s1:=Qt (zW (ws.take k)) [32] (by simp only[AZ];omega);have s2:=Qt (zW (ws.take k)++[32]) u (by simp only[length_append,AZ];omega);generalize zW (ws.take k)=J0 at *
 refine ze (aF [] h0 ?_);refine zo (by simp[h0]) ?_;refine zi [] s1 ?_;refine zi [] (zD f b s2) ?_;refine zg ?_;exact zv (k+1) [] b D9 (by simp[zy k D9,a]) rfl EA;have e:ws.take k=[]:=by rw[show k=0 by omega];rfl
 rw[if_pos e]at a;rw[e,show zW ([]:List (List UInt8))=[] from rfl];have s2:=Qt [] u (by simp only[Aj];omega);rw[AK]at a s2;refine ze (aF [] h0 ?_);refine zp (by simp[h0]) ?_;refine zk (zi [] (zD f b s2) ?_);refine zg ?_;exact zv (k+1) [] b D9 (by simp[zy k D9,a]) rfl EA;simp at hc;obtain rfl:k=ws.length:=D9;have hs:=Qt (zW ws) [10] (by simp only[AZ];omega);refine zB (Wu (λ_=>.inl rfl) ?_);rw[Ah];refine aF [] hs ?_;exact EK i
end Go.Proofs.YtdjbbndbalhekaaGreatDoor.Pv
