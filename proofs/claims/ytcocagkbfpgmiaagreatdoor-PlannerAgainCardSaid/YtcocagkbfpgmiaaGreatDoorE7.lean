/- Part of a proof, packed. -/
import Derived.Test.YtcocagkbfpgmiaaGreatDoorE6
open Go.Proofs.Tryz
set_option maxRecDepth 100000
set_option maxHeartbeats 3200000
namespace Go.Proofs.YtcocagkbfpgmiaaGreatDoor.Pv
open Go Go.Proofs Hp
structure MayP (x:Inst):Prop where
 days:1<=x.days/\x.days<=64
 cust:x.cust.length<=2000
 veh:0<=x.veh/\x.veh<=2147483648
 cap:0<=x.cap/\x.cap<=2147483648
 len:0<=x.len/\x.len<=2147483648
 custs:∀c∈x.cust,xJ c x.days=true
 dist:Zx x.dist (x.cust.length+1)=true
theorem JO{x:Inst}(h:jo x=true):MayP x:=by
 unfold jo at h;simp only[Aw,Ay,decide_eq_true_eq,yu]at h;obtain⟨⟨⟨⟨⟨⟨h1,h2⟩,h3⟩,h4⟩,h5⟩,h6⟩,h7⟩:=h;exact⟨h1,h2,h3,h4,h5,h6,h7⟩
def Zui(c:Cust)(d:Int):Prop:=c.kind=1/\(1<=c.demand/\c.demand<=2147483648)/\(∀p∈c.pats,Z8 p d<0)/\(1<=c.pats.length/\c.pats.length<=64)/\c.rate=0/\c.size=0/\c.start=0/\c.rule=0/\c.hold=0
def Zuj(c:Cust):Prop:=c.kind=2/\(0<=c.rate/\c.rate<=2147483648)/\(1<=c.size/\c.size<=2147483648)/\(0<=c.start/\c.start<=c.size)/\(c.rule=1\/c.rule=2)/\(0<=c.hold/\c.hold<=1024)/\c.pats=[]/\c.demand=0
theorem Za2{c:Cust}{d:Int}(h:xJ c d=true):Zui c d\/Zuj c:=by
 unfold xJ at h;split at h
 ·rename_i hk;simp only[Aw,yu,decide_eq_true_eq,u7,Zv,Ay]at h;obtain⟨⟨h1,h2,h3⟩,h4⟩:=h;exact .inl ⟨hk,h1,h2,by omega,h4⟩
 ·split at h
  ·rename_i hk;simp only[Aw,yu,decide_eq_true_eq,QD,YL]at h;obtain⟨⟨⟨⟨⟨h1,h2⟩,h3⟩,h4⟩,h5⟩,h6,h7⟩:=h;exact .inr ⟨hk,h1,h2,h3,h4,h5,Au h6,h7⟩
  ·cases h
theorem Zjk{p n:Nat}(h:Z8 p n<0):∀d∈yA p 0 64,d<n:=by
 have h0:yA p (n:Int).toNat 64=[]:=by
  unfold Z8 at h;cases e:yA p (n:Int).toNat 64 with
  | nil=>rfl
  | cons a l =>
   rw[e]at h;obtain⟨k,rfl,-⟩:=WK (p:=p) (a:=(n:Int).toNat) (k:=64) (d:=a) (by rw[e];simp);simp only[List.headD_cons]at h;omega
 grind[Zhc,List.filter_eq_nil_iff]
theorem Zuk{p n:Nat}(hp:p<2 ^ 64)(h:∀d∈yA p 0 64,d<(n:Int)):p<2 ^ n:=by
 apply Nat.lt_pow_two_of_testBit;intro i hi
 by_cases h64:i<64
 ·rw[Zas,decide_eq_false_iff_not];intro hb;have:(i:Int)∈yA p 0 64:=by
   simp only[yA,Al,Bl,AP,Aw,decide_eq_true_eq];exact⟨i,⟨h64,by omega,hb⟩,rfl⟩
  grind
 ·exact CE (Bc hp (Cg DN DH))
theorem Zjl(n:Nat):∀(l:List (List Int)) (a:Nat),Zw n a l=true->∀r∈l,r.length=n/\∀z∈r,0<=z/\z<=2147483648
 | [],_,_=>by simp
 | row :: l,a,h=>by
  simp only[Zw,Aw,decide_eq_true_eq,Ay,yu]at h;obtain⟨⟨⟨h1,h2⟩,h3⟩,h4⟩:=h;intro r hr;rcases As.1 hr with rfl | hr
  ·simp_all
  ·exact Zjl n l (a+1) h4 r hr
theorem W5{x:Inst}(h:Zx x.dist (x.cust.length+1)=true):x.dist.length=x.cust.length+1/\(∀r∈x.dist,r.length=x.cust.length+1/\∀z∈r,0<=z/\z<=2147483648)/\qt x/\arc x 0 0=0:=by
 unfold Zx at h;simp only[Aw,decide_eq_true_eq]at h;have hr:=Zjl _ _ _ h.2;refine⟨h.1,hr,λa b=>?_,?_⟩
 ·unfold arc;split
  ·omega
  ·rw[Aa,Aa];cases e:x.dist[a.toNat]? with
   | none=>simp
   | some r =>
    rw[Option.getD_some];cases e2:r[b.toNat]? with
    | none=>simp
    | some z=>exact(hr r (Ab e)).2 z (Ab e2)
 ·obtain⟨h1,h2⟩:=h;cases e:x.dist<;>simp_all[Zw,arc]
structure InstQ (x:Inst) (n:Nat):Prop where
 k:InstK x n
 m:jo x=true
 t:InstT x n
 six:x.cust.length<=6
 n7:n<=7
theorem Zul{x:Inst}{n:Nat}(h:jo x=true)(hp:∀c∈x.cust,∀p∈c.pats,p<2 ^ 64)(hn:x.days=n)(h7:n<=7)(h6:x.cust.length<=6):InstQ x n:=by
 have hm:=JO h;obtain⟨d1,d2,d3,d4⟩:=W5 hm.dist;have hc:=λc hc=>Za2 (hm.custs c hc)
 rw[hn]at hc;have hmade:∀c∈x.cust,CustMade c n:=λc hcm=>by
  rcases hc c hcm with ⟨k,a,b,l,r1,r2,r3,r4,r5⟩ | ⟨k,r,s,t,ru,ho,e,dm⟩
  ·exact⟨⟨by omega,by omega,by omega⟩,hp c hcm,by omega,λ_=>⟨λp hpm=>Zjk (b p hpm),by omega,by omega⟩⟩
  ·exact⟨⟨by omega,by omega,by omega⟩,hp c hcm,by rw[e];simp,λh=>by omega⟩
 have nm:∀z:Int,0<=z->z<=2147483648->ZE z:=λz a b=>⟨a,by omega⟩
 refine⟨⟨⟨⟨by omega,d4,d3,hm.veh.1⟩,hn,by omega,hmade,λc hcm=>?_⟩,λc hcm=>?_,λc hcm=>?_⟩,h,⟨hn,by have:=hm.days;omega,by omega,⟨nm _ hm.veh.1 hm.veh.2,nm _ hm.cap.1 hm.cap.2,nm _ hm.len.1 hm.len.2⟩,by omega,λc hcm=>?_,d1,λr hr=>⟨(d2 r hr).1,λz hz=>nm z ((d2 r hr).2 z hz).1 ((d2 r hr).2 z hz).2⟩⟩,h6,h7⟩
 ·rcases hc c hcm with ⟨k,a,b,l,r1,r2,r3,r4,r5⟩ | ⟨k,r,s,t,ru,ho,e,dm⟩<;>grind
 ·rcases hc c hcm with ⟨k,a,b,l,r1,r2,r3,r4,r5⟩ | ⟨k,r,s,t,ru,ho,e,dm⟩
  ·exact .inl ⟨k,r4⟩
  ·exact .inr ⟨k,ru⟩
 ·rcases hc c hcm with ⟨k,a,b,l,r1,r2,r3,r4,r5⟩ | ⟨k,r,s,t,ru,ho,e,dm⟩<;>omega
 ·rcases hc c hcm with ⟨k,a,b,l,r1,r2,r3,r4,r5⟩ | ⟨k,r,s,t,ru,ho,e,dm⟩
  ·exact⟨.inl ⟨k,nm _ DH DH,λp hpm=>Zuk (hp c hcm p hpm) (Zjk (b p hpm)),r1,r2,r3,r4,r5⟩⟩
  ·exact⟨.inr ⟨k,dm,e,nm _ DH DH,nm _ DH DH,nm _ DH DH,ru,nm _ DH DH⟩⟩
theorem Zum(x:Inst):∀c∈(yF x).cust,∀p∈c.pats,p<2 ^ 64:=λc hc=>((ZrY x).made c hc).pats
theorem Zun(x:Inst){n:Nat}(hn:(yF x).days=n):InstQ (yF x) n:=Zul (Zr5 x) (Zum x) hn (by have:=WL x;omega) (Zcd x)
open Go Go.Proofs
theorem Y7(a:Int):zP (W a):=by
 show -9223372036854775808<=IntKind.i64.wrap a/\IntKind.i64.wrap a<=9223372036854775807
 rw[AC];omega
def QW(x:Inst):Int:=wh (λk=>W ((xD x).getD k 0*vS (x.cust.getD k default) x.days x.cap)) x.cust.length
theorem Zuo(x:Inst)(hn:x.cust.length<=1048576)(hp:∀c∈x.cust,c.pats.length<=1048576):Pure prog 127 [.agg (zy x)] (I (QW x)):=by
 have hch:=Zt8 x hn;have hAl:(xD x).length=x.cust.length:=by simp[xD]
 obtain⟨f,hf⟩:∃f:Nat->Int,f=λk=>W ((xD x).getD k 0*vS (x.cust.getD k default) x.days x.cap):=⟨_,rfl⟩
 have hbz:QW x=wh f x.cust.length:=by rw[hf];rfl
 have hf64:∀k,zP (f k):=λk=>by rw[hf];exact Y7 _
 rw[hbz];refine zt func127 ntmps127 results127 λS nx hd=>?_
 refine DQ ?_;intro v0;refine DQ ?_;intro v1;refine DQ ?_;refine zr hch ?_;have hsum:=ZdH (S:=ext S nx [.cells v0 25 (zy x),.cells v1 182 (Zc x yq yq (L (xD x)))]) x 172 [.ptr (nx+1) v1 0] f hn hf64 (λk hk T hT=>by
  have hc:x.cust[k]?=some (x.cust.getD k default):=by rw[Aa,Ae hk];rfl
  have ha:(xD x)[k]?=some ((xD x).getD k 0):=by rw[Aa,Ae DH];rfl
  have:=Zt2 (S:=T) (id:=nx+1) (ver:=v1) x yq yq (xD x) k (by rw[hT _ (by rw[zQ];simp),zQ];rfl) hn hc (hp _ (Ab hc)) ha;rw[hf];exact this)
 refine DQ ?_;refine λhsuf=>(hsum.mono ?_).v
 rintro _ _ ⟨rfl,rfl⟩;refine⟨_,_,rfl,zG hsuf ?_⟩;exact DR hd
def Y8(x:Inst):Nat->Int
 | 0=>0
 | k+1=>qP (Y8 x k) (vS (x.cust.getD k default) x.days x.cap)
def Za3(x:Inst):Int:=wh (λk=>ZL (x.cust.getD k default) x.days x.cap) x.cust.length
def Y9(x:Inst):Int:=if 0<x.cap then qP (Y8 x x.cust.length) (Y3 (Za3 x) x.cap) else Y8 x x.cust.length
theorem Zup(x:Inst)(hn:x.cust.length<=1048576)(hp:∀c∈x.cust,c.pats.length<=1048576)(h64:∀k,zP (ZL (x.cust.getD k default) x.days x.cap)):Pure prog 122 [.agg (zy x)] (I (Y9 x)):=by
 have hat:∀k,k<x.cust.length->x.cust[k]?=some (x.cust.getD k default):=λk hk=>by rw[Aa,Ae hk];rfl
 refine zt func122 ntmps122 results122 λS nx hd=>?_
 refine DQ ?_;intro v0;refine DQ ?_;intro v1;refine DQ ?_
 repeat apply za
 refine zb ?_;refine zj (zD (λs:Nat × Nat × Nat=>s.1<=x.cust.length) (λ(k,v,w)=>[(1,.ptr nx v 0),(3,.ptr (nx+1) w 0),(4,I (Y8 x k)),(13,I x.cust.length),(14,I k)]) (λ(k,v,w)=>[.cells v 25 (zy x),.cells w 182 (Zc x yq yq yq)]) (λs=>x.cust.length-s.1) (0,v0,v1) [] DI (by simp[Y8]) DI ?_);rintro⟨k,v,w⟩ hk;simp only at hk ⊢;refine DQ ?_;refine za (zv rfl (λhc=>?_) (λhc=>?_))
 ·simp at hc;refine zh (za (zj (DQ ?_)));refine zb ?_;refine λhsuf=>((ZdI x yq yq yq k (by rw[zQ];rfl) hn (hat k hc) (hp _ (Ab (hat k hc)))).mono ?_).v
  rintro _ _ ⟨rfl,rfl⟩;refine⟨_,_,rfl,zG hsuf ?_⟩;refine zb ?_;exact zq (k+1,v,w) [] hc DL (by simp[zu k (by omega),Y8]) rfl DI
 ·simp at hc;obtain rfl:k=x.cust.length:=DH
  refine zx ?_
  repeat apply za
  refine zb ?_;have hsum:=λv w=>ZdH (S:=ext S nx [.cells v 25 (zy x),.cells w 182 (Zc x yq yq yq)]) x 166 [.ptr (nx+1) w 0] (λk=>ZL (x.cust.getD k default) x.days x.cap) hn h64 (λk hk T hT =>
   Zt3 (S:=T) (id:=nx+1) (ver:=w) x yq yq yq k (by rw[hT _ (by rw[zQ];simp),zQ];rfl) hn (hat k hk) (hp _ (Ab (hat k hk))))
  have hsv:=hsum v w;rw[show wh (λk=>ZL (x.cust.getD k default) x.days x.cap) x.cust.length=Za3 x from rfl]at hsv;have hres:Y9 x=if 0<x.cap then qP (Y8 x x.cust.length) (Y3 (Za3 x) x.cap) else Y8 x x.cust.length:=rfl
  generalize Y9 x=res at *;generalize Y8 x x.cust.length=mo at *;generalize Za3 x=ne at *
  by_cases hcap:0<x.cap
  ·rw[if_pos hcap]at hres;have hceil:=Zja ne x.cap hcap;refine zn (by simp[hcap]) ?_;refine za (zz (some [nx]) (Row.pures [0,1,2,4,5] (.alt 3 (Row.pures [6,7,8,9,10,11] .done) .stop)) mixed trivial ?_);refine(hsv.mono ?_).v;rintro _ _ ⟨rfl,rfl⟩;refine⟨by simp[yH],ju trivial ?_⟩;refine zK (hceil) trivial ?_;refine zb ?_;refine DQ ?_;exact zg (zi hd DJ (by rw[hres];rfl))
  ·rw[if_neg hcap]at hres;refine zm DL ?_;refine zh (DQ ?_);exact zg (zi hd DJ (by rw[hres];rfl))
open Go Go.Proofs
theorem Zjm{α:Type}(l:List α)(a q i:Nat)(h:a+q<=l.length):(l.take a++(l.take q++l.drop (a+q)))[i]?=l[if i<a then i else if i<a+q then i-a else i]?:=by
 by_cases h1:i<a
 ·grind
 ·rw[if_neg h1,Aj DL,Ax,Bf DH]
  grind
theorem Zuq{P:Program}{n:Nat}{F:Nat->PV}{S:Store}{o:Oper}{s x:Operand}{t e m k0 off id ver et:Nat}{cs:List PV}{K:PV->Store->Prop}(ho:o.op=.call { callee:=.builtin .copy,args:=#[s,x],argTypes:=#[t,t] })(ht:P.underlying t=some (.slice e))(hz:(P.info? e).map (·.size)=some 1)
  (hs:ev F s=.sl id ver 1 off m) (hx:ev F x=.sl id ver 1 0 k0) (hid:S id=.cells ver et cs) (hm:off+m=cs.length) (hm0:0<m) (hk:k0<=cs.length) (hk0:0<k0)
  (hK:K (I (min k0 m:Nat)) (S.set id (.cells ver et (cs.take off++(cs.take (min k0 m)++cs.drop (off+min k0 m)))))):PO P qW n o F S K:=by
 intro G hG C w a N st next Q' hnext;have e1:=st.ev s;rw[(hG s (by grind[Op.operands,Call.operands])).trans hs]at e1;have e2:=st.ev x;rw[(hG x (by grind[Op.operands,Call.operands])).trans hx]at e2;have hnd:∀c,o.op≠.defer c:=by intro c hc;rw[ho]at hc;cases hc
 generalize hv:a.eval s=v at e1;generalize hu:a.eval x=u at e2;cases e1 with
 | sl i1 i2 i3 =>
  rcases (i3 ver (by rw[hid];rfl)).2 rfl with ⟨_,q,_,_⟩ | ⟨b,k,ad,dcap,hl,rfl,_,hq0⟩
  ·omega
  obtain rfl:=hq0 DH;cases e2 with
  | sl j1 j2 j3 =>
   rcases (j3 ver (by rw[hid];rfl)).2 rfl with ⟨_,q,_,_⟩ | ⟨b2,k2,ad2,scap,hl2,rfl,_,hq2⟩
   ·omega
   rw[hl]at hl2;cases hl2;obtain rfl:=hq2 DH;rcases st.sim.cells id ver et cs hid with ⟨hn,_⟩ | ⟨b',k',c,g1,g2,g3,g4,g5,g6⟩
   ·simp_all
   rw[hl]at g1;cases g1;obtain⟨vs,hvs⟩:∃vs,vs=c.toList.take (min k0 m):=⟨_,rfl⟩;have hcs:c.toList.length=c.size:=Array.length_toList;have hvl:vs.length=min k0 m:=by rw[hvs,Ax];omega
   have hat:∀(j:Nat) (v:Value),vs[j]?=some v->j<min k0 m/\c[j]?=some v:=λj v hj=>by
    rw[hvs,By]at hj;split at hj
    ·rename_i hlt;rw[Array.getElem?_toList]at hj;exact⟨hlt,hj⟩
    ·cases hj
   have hcell:∀j v,vs[j]?=some v->w.cell? ((⟨b,0,none⟩:Addr).add j)=some v:=λj v hj=>by
    obtain⟨q1,q2⟩:=hat j v hj;rw[Addr.add_plain];simp[World.cell?,g2,q2]
   have hone:∀v∈vs,v.oneCell'=true:=λv hv'=>by
    obtain⟨j,hj⟩:=B7 hv';obtain⟨q1,q2⟩:=hat j v hj;exact g5 j v DH q2
   have hrun0:=run_copy_row P w t t o.type e b off m dcap ⟨b,0,none⟩ k0 scap c et vs ht hz g2 (by rw[hvl]) hcell DH hone;have hrun:=W3 (P:=P) (a:=a) (w:=w) ho (by rw[hv,hu];exact hrun0);rw[hvl,List.append_assoc,hvs]at hrun;generalize hw':w.setRow b (c.toList.take off++(c.toList.take (min k0 m)++c.toList.drop (off+min k0 m))).toArray=w' at hrun;have hheap:w'.heap[b]?=some (.cells (c.toList.take off++(c.toList.take (min k0 m)++c.toList.drop (off+min k0 m))).toArray et (0,0)):=by rw[<-hw'];exact setRow_heap w b c _ et _ g2
   have hgr:w.grownBy w' (some b)/\w.drawn<=w'.drawn:=by
    rw[<-hw'];exact⟨⟨rfl,rfl,rfl,by simp,λj hj hne=>setRow_other w b j _ (λe=>hne (by rw[e]))⟩,Ag _⟩
   have hV:=λi=>Zjm c.toList off (min k0 m) i DH
   have hP:=λi=>Zjm cs off (min k0 m) i DH
   have hVl:(c.toList.take off++(c.toList.take (min k0 m)++c.toList.drop (off+min k0 m))).length=c.size:=DL
   have hPl:(cs.take off++(cs.take (min k0 m)++cs.drop (off+min k0 m))).length=cs.length:=DL
   generalize c.toList.take off++(c.toList.take (min k0 m)++c.toList.drop (off+min k0 m))=V at *;generalize cs.take off++(cs.take (min k0 m)++cs.drop (off+min k0 m))=cs' at *;have hphi:∀i,i<cs.length->(if i<off then i else if i<off+min k0 m then i-off else i)<cs.length:=λi hi=>by split<;>(try split)<;>omega
   obtain⟨t1,t2⟩:=st.sim.turn (l:=C.loc id) (ver':=ver) (cs':=cs') hid (Ag _) (λ_=>rfl) (by rw[hl];exact hgr)
    (.inr ⟨b,k,_,hl,.inr (by rw[hl];rfl),hheap,by simp;omega,by omega,λi z hi hz=>by
      rw[AE,hV i,Array.getElem?_toList]at hz;exact g5 _ z (hphi i DH) hz,
     λi p z hp hz=>by
      rw[AE,hV i,Array.getElem?_toList]at hz;rw[hP i]at hp;exact g6 _ p z hp hz⟩)
   exact yT hnd hrun (hnext _ _ _ _ _ hK (.sc _) t1 t2)
open Go Go.Proofs
theorem Zur(n:Nat)(hn:n<=1048576):Pure prog 206 [U 1,U n] (.tup [U 0,U n]):=by
 intro S;refine⟨Zlm,λC w us hS hl' hr=>?_⟩;obtain⟨u0,u1,rfl⟩:=Zio hl';have r0:=hr 0 _ u0 rfl rfl;have r1:=hr 1 _ u1 rfl rfl;cases r0;cases r1;have h1:1*n / 18446744073709551616=0:=DH
 have h2:1*n % 18446744073709551616=n:=DH
 have hm:=bits_Mul 1 n DH DH w;rw[h1,h2]at hm;refine hm.mono ?_;rintro _ _ ⟨rfl,rfl⟩;refine⟨_,_,S,C,rfl,⟨rfl,rfl⟩,.tup rfl λj c v h1 h2=>?_,hS,.refl _ _ _⟩
 match j,h1,h2 with
 | 0,h1,h2=>cases h1;cases h2;exact .sc _
 | 1,h1,h2=>cases h1;cases h2;exact .sc _
theorem Zus(p:Int)(m:Nat):(List.replicate m p).flatMap Enc.enc=List.replicate m (I p):=by
 induction m with
 | zero=>rfl
 | succ m ih=>rw[BA,Az,ih];rfl
theorem Zut(p:Int)(n:Nat)(h1:1<=n)(hn:n<=1000):Pure prog 168 [L [p],I n] (L (List.replicate n p)):=by
 have hmul:=Zur n DH;have c0:¬(n:Int)<0:=DH
 have w1:IntKind.u64.wrap (n:Int)=n:=by simp only[IntKind.wrap,IntKind.bits,IntKind.signed];simp;omega
 have w2:IntKind.i64.wrap (n:Int)=n:=by rw[AC];omega
 have c1:¬(9223372036854775807:Int)<n:=DH
 refine zt func168 ntmps168 results168 λS nx hd=>?_
 refine DQ ?_
 repeat apply za
 refine ze [] c0 ?_;refine zm DI ?_;refine zh ?_;have w3:IntKind.u64.wrap 1=1:=DN
 refine za (ze [] (zo w1 w3) ?_);refine zr hmul ?_
 repeat apply za
 refine ze [(2,23)] c1 ?_;refine zm DI ?_;refine zh (za (ze [] w2 ?_));refine⟨by omega,λv0=>?_⟩;refine DQ ?_;refine λhsuf=>ZdJ (id:=nx) (ver:=v0) (e:=3) (l:=[I p]) rfl underlying26 DK (m:=n) rfl rfl (by rw[xQ];rfl) (by simp[yS]) h1 ?_
 have hrow:List.take n [I p]++List.drop (min [I p].length n) (yS n (.int .i64 0))=List.replicate 1 (I p)++List.replicate (n-1) (I 0):=by
  rw[Af DL];have:min [I p].length n=1:=DL
  have hz:yS n (.int .i64 0)=List.replicate n (I 0):=by
   apply A6
   ·simp[yS]
   ·intro i q1 q2;simp[yS,Nat.mod_one]
  rw[this,hz,List.drop_replicate];rfl
 have hmin:min [I p].length n=1:=DL
 rw[hrow,hmin];refine⟨_,_,yc _ (Ag _) DI,zG hsuf ?_⟩;refine za (zj (zD (λm:Nat=>1<=m/\m<=n) (λm=>[(7,.sl nx v0 1 0 n),(8,I m)]) (λm=>[.cells v0 3 (List.replicate m (I p)++List.replicate (n-m) (I 0))]) (λm=>n-m) 1 [] ⟨Ag _,h1⟩ DI DI ?_));rintro m ⟨hm1,hmn⟩
 repeat apply za
 refine zb ?_
 by_cases hc:m<n
 ·repeat apply za
  refine zn DL ?_;refine zh (zj ?_);have hlen:(List.replicate m (I p)++List.replicate (n-m) (I 0):List PV).length=n:=DL
  obtain⟨q,hq⟩:∃q,q=min m (n-m):=⟨_,rfl⟩;have hrow2:(List.replicate m (I p)++List.replicate (n-m) (I 0):List PV).take m++((List.replicate m (I p)++List.replicate (n-m) (I 0):List PV).take q++(List.replicate m (I p)++List.replicate (n-m) (I 0):List PV).drop (m+q))=List.replicate (m+q) (I p)++List.replicate (n-(m+q)) (I 0):=by
   have e1:(List.replicate m (I p)++List.replicate (n-m) (I 0):List PV).take m=List.replicate m (I p):=Dv DI;have e2:(List.replicate m (I p)++List.replicate (n-m) (I 0):List PV).take q=List.replicate q (I p):=by rw[BH DL,List.take_replicate,Bf DH]
   have e3:(List.replicate m (I p)++List.replicate (n-m) (I 0):List PV).drop (m+q)=List.replicate (n-(m+q)) (I 0):=by rw[Cl,Ba DI,AT,BW,List.drop_replicate];congr 1;omega
   rw[e1,e2,e3,<-List.append_assoc,List.replicate_append_replicate]
  have hq1:1<=q:=DH
  have hqn:m+q<=n:=DH
  have wq:IntKind.i64.wrap ((m:Int)+q)=((m+q:Nat):Int):=by rw[AC];omega
  refine zz (some []) (Row.pures [0,1,2,3,4,5,6] (.alt 7 (Row.pures [8,9] .done) .stop)) mixed hmn ?_;refine⟨by rfl,(Zuq (id:=nx) (ver:=v0) (off:=m) (m:=n-m) (k0:=m) (e:=3) rfl underlying26 DK rfl rfl (by rw[xQ];rfl) (by rw[hlen];omega) DH (by rw[hlen];omega) DH ?_)⟩;rw[<-hq,hrow2,yc _ (Ag _) DI];refine⟨by simp[yH],ju wq ?_⟩;exact zq (m+q) [] ⟨by omega,hqn⟩ DH DI rfl DI
 ·obtain rfl:m=n:=DH
  refine zm DI ?_;refine zx (yb 0 rfl ?_);rw[Bp,List.replicate_zero,AH];have hfl:=Zus p m;refine DQ ?_;exact zg (zi hd DJ (by simp[zp,hfl]))
open Go Go.Proofs
def Yq(x:Inst)(n:Nat)(a b:List Int)(k:Nat):Int:=QU n x.cap (x.cust.getD k default) (List.replicate n (W (a.getD (k+1) 0+b.getD (k+1) 0)))
structure BndOk (x:Inst) (n:Nat):Prop where
 days:x.days=n
 n1:1<=n
 n60:n<=60
 ncust:x.cust.length<=1048576
 pats:∀c∈x.cust,c.pats.length<=1000
 made:∀c∈x.cust,CustMade c n
 fits:∀c∈x.cust,CustFits c
 vis:∀c∈x.cust,∀price:List Int,price.length<=1000->(∀z∈price,zP z)->VisOk (qx n x.cap c price).1
theorem Zuu{S:Store}{id ver:Nat}(x:Inst)(n:Nat)(a b:List Int)(ch:PV)(k:Nat)(hx:BndOk x n)(hk:k<x.cust.length)(ha:a.length=x.cust.length+1)(hb:b.length=x.cust.length+1)(hS:S id=.cells ver 182 (Zc x (L a) (L b) ch)):
  Spec prog 125 [.ptr id ver 0,I k] S (λq S'=>q=I (Yq x n a b k)/\S'=S):=by
 have hpr:=Zt5 x a b k hk hx.ncust ha hb;unfold Yq;have hc:x.cust[k]?=some (x.cust.getD k default):=by rw[Aa,Ae hk];rfl
 have hm:=Ab hc;obtain⟨t,tl,b1,b2,b3,f0,f1⟩:=el 8 rfl x.cust k hk;obtain rfl:t=x.cust.getD k default:=by rw[hc]at b1;exact(Option.some.inj b1).symm
 have hp64:=Y7 (a.getD (k+1) 0+b.getD (k+1) 0);generalize W (a.getD (k+1) 0+b.getD (k+1) 0)=p at *;generalize x.cust.getD k default=c at *;have hrep:=Zut p n hx.n1 (by have:=hx.n60;omega);have hr64:∀z∈List.replicate n p,zP z:=λz hz=>by rw[(List.mem_replicate.1 hz).2];exact hp64
 have hrl:(List.replicate n p).length<=1000:=by rw[BW];have:=hx.n60;omega
 have hbd:Pure prog 170 [.agg (yh c),I n,I x.cap,L (List.replicate n p)] (I (QU n x.cap c (List.replicate n p))):=λS=>Zt4 c n x.cap (.inl rfl) hr64 hrl (hx.made c hm) (hx.pats c hm) hx.n60 (hx.fits c hm) (hx.vis c hm _ hrl hr64)
 generalize QU n x.cap c (List.replicate n p)=res at *;have hdays:=hx.days;generalize List.replicate n p=pl at *;rw[<-hdays]at hrep hbd;refine yi func125 ntmps125 results125 λnx hd=>?_
 have hlt:id<nx:=qE hd hS DI;have x1:∀obs,ext S nx obs id=.cells ver 182 (Zc x (L a) (L b) ch):=λobs=>(zB hlt).trans hS
 refine DQ ?_;refine za (zz (some [id]) (Row.pures [0,1,2,3,4,5,6,7,8,9,10,11,12,13,14,15,16,17] .done) mixed x1 ?_);refine zK (hpr) x1 ?_;refine zK (hrep) x1 ?_;refine za (zz (some [id]) (Row.pures [0,1,2,3,4,5,6,7,8,9,10,11,12,13,14,15,16,17,18,19,20] .done) mixed (zV x1 hk f0 f1) ?_);refine zK (hbd) trivial ?_;exact DR hd
def Qa(x:Inst)(a b:List Int):Int:=if (Y4 (W (a.getD 0 0+b.getD 0 0)) (Y9 x)).2=true then (Y4 (W (a.getD 0 0+b.getD 0 0)) (Y9 x)).1 else 9223372036854775807
def QX(x:Inst)(n:Nat)(a b:List Int):Int:=wE (wh (Yq x n a b) x.cust.length) (Qa x a b)
theorem Zjn(x:Inst)(n:Nat)(a b:List Int)(hx:BndOk x n)(h64:∀k,zP (ZL (x.cust.getD k default) x.days x.cap))(hal:∀k,zP (Yq x n a b k))(hcar:zP (Qa x a b))(ha:a.length=x.cust.length+1)(hb:b.length=x.cust.length+1):
  Pure prog 79 [.agg (zy x),.agg [L a,L b]] (I (QX x n a b)):=by
 have hle:=Zup x hx.ncust (λc hc=>by have:=hx.pats c hc;omega) h64;have hmu:=ZtY (W (a.getD 0 0+b.getD 0 0)) (Y9 x);have hsat:=Zao (wh (Yq x n a b) x.cust.length) (Qa x a b) (Zjc _ _) hcar;have hv:QX x n a b=wE (wh (Yq x n a b) x.cust.length) (Qa x a b):=rfl;rw[hv];have hcz:Qa x a b=if (Y4 (W (a.getD 0 0+b.getD 0 0)) (Y9 x)).2=true then (Y4 (W (a.getD 0 0+b.getD 0 0)) (Y9 x)).1 else 9223372036854775807:=rfl
 obtain⟨t,tl,b1,b2,b3,f0⟩:=zJ rfl a 0 DH;obtain⟨u,tl2,c1,c2,c3,f1⟩:=zJ rfl b 0 DH;have e1:a.getD 0 0=t:=by rw[Aa,b1];rfl
 have e2:b.getD 0 0=u:=by rw[Aa,c1];rfl
 rw[e1,e2]at hmu hcz;have hka:0<a.length:=DH
 have hkb:0<b.length:=DH
 have hsumv:∀(S:Store) (id ver:Nat),S id=.cells ver 182 (Zc x (L a) (L b) yq)->Spec prog 124 [.agg (zy x),.fn (.func 125) [.ptr id ver 0] []] S (λq S'=>q=I (wh (Yq x n a b) x.cust.length)/\S'=S):=λS id ver hS =>
  ZdH (S:=S) x 125 [.ptr id ver 0] (Yq x n a b) hx.ncust hal (λk hk T hT=>Zuu (S:=T) (id:=id) (ver:=ver) x n a b yq k hx hk ha hb (by rw[hT _ (by rw[hS];simp),hS]))
 generalize wh (Yq x n a b) x.cust.length=su at *;generalize Y9 x=le at *;generalize Qa x a b=ca at *;generalize Y4 (W (t+u)) le=mz at *;obtain⟨mv,mok⟩:=mz;simp only at hmu hcz;refine zt func79 ntmps79 results79 λS nx hd=>?_
 refine DQ ?_;intro v0 v1;refine DQ ?_;intro v2;refine za (zz (some [nx,nx+1]) (Row.pures [0,1,2,3,4,5,6,7,8,9,10,11,12,13,14,15,16] .done) mixed (zV f0 f1 hka hkb) ?_);refine zK (hle) (zV f0 f1 hka hkb) ?_;refine zK (hmu) (zV f0 f1 hka hkb) ?_
 repeat apply za
 refine zb ?_;cases mok with
 | true =>
  obtain rfl:ca=mv:=by rw[hcz];exact if_pos rfl
  refine zm DI ?_;refine zh (DQ ?_);refine λhsuf=>((hsumv _ (nx+2) v2 (by rw[zQ];rfl)).mono ?_).v
  rintro _ _ ⟨rfl,rfl⟩;refine⟨_,_,rfl,zG hsuf ?_⟩;refine λhsuf=>((hsat _).mono ?_).v
  rintro _ _ ⟨rfl,rfl⟩;refine⟨_,_,rfl,zG hsuf ?_⟩;exact DR hd
 | false =>
  obtain rfl:ca=9223372036854775807:=by rw[hcz];exact if_neg DI
  refine zn DI ?_;refine zb ?_;refine DQ ?_;refine λhsuf=>((hsumv _ (nx+2) v2 (by rw[zQ];rfl)).mono ?_).v
  rintro _ _ ⟨rfl,rfl⟩;refine⟨_,_,rfl,zG hsuf ?_⟩;refine λhsuf=>((hsat _).mono ?_).v
  rintro _ _ ⟨rfl,rfl⟩;refine⟨_,_,rfl,zG hsuf ?_⟩;exact DR hd
def XY(x:Inst)(n:Nat)(a b:List Int):Int:=qP (QX x n a b) (QW x)
theorem Zuv(x:Inst)(n:Nat)(a b:List Int)(hx:BndOk x n)(h64:∀k,zP (ZL (x.cust.getD k default) x.days x.cap))(hal:∀k,zP (Yq x n a b k))(hcar:zP (Qa x a b))(ha:a.length=x.cust.length+1)(hb:b.length=x.cust.length+1):
  Pure prog 83 [.agg (zy x),.agg [L a,L b]] (I (XY x n a b)):=by
 have hva:=Zjn x n a b hx h64 hal hcar ha hb;have hba:=Zuo x hx.ncust (λc hc=>by have:=hx.pats c hc;omega);have hz:XY x n a b=qP (QX x n a b) (QW x):=rfl;generalize XY x n a b=z at *;generalize QX x n a b=va at *;generalize QW x=ba at *;refine zt func83 ntmps83 results83 λS nx hd=>?_
 refine DQ ?_;intro v0 v1;refine za (zz (some [nx,nx+1]) (Row.pures [0,1,2,3,4,5,6] .done) mixed trivial ?_);refine zK (hva) trivial ?_;refine zK (hba) trivial ?_;exact zg (zi hd DJ (by rw[hz];rfl))
open Go Go.Proofs Hp
theorem Zuw{n:Nat}{cap:Int}{c:Cust}{price:List Int}(h:(qx n cap c price).2=false):(qx n cap c price).1=[]:=by
 unfold qx at h ⊢;split at h
 ·rename_i hk;rw[if_pos hk];unfold ZA at h ⊢;split at h
  ·rename_i h1;rw[if_pos h1]
  ·cases h
 ·rename_i hk;rw[if_neg hk];split at h
  ·rename_i hr;rw[if_pos hr];unfold YV at h ⊢;split at h
   ·rename_i h1;rw[if_pos h1]
   ·cases h
  ·rename_i hr;rw[if_neg hr];unfold Jz at h ⊢;split at h
   ·cases h
   ·rename_i h1;rw[if_neg h1];split at h
    ·cases h
    ·rename_i h2;rw[if_neg h2]
theorem Zux{c:Cust}{n:Nat}(hm:CustMade c n)(hn:n<=60)(cap:Int)(price:List Int):VisOk (qx n cap c price).1:=by
 cases h:(qx n cap c price).2 with
 | false=>rw[Zuw h];exact⟨by simp,by simp,by simp⟩
 | true =>
  have hg:=ZaK hm hn cap price h;exact⟨by have:=hg.len;omega,λs hs=>by have:=hg.ok s hs;omega,λs hs=>by have:=hg.ok s hs;unfold zP;omega⟩
theorem Zuy{x:Inst}{n:Nat}(h:InstQ x n):BndOk x n :=
 ⟨h.k.a.days,h.t.n1,h.k.a.n60,by have:=h.six;omega,h.k.a.pats,h.k.a.made,λc hc=>(h.k.a.made c hc).fits,λc hc price _ _=>Zux (h.k.a.made c hc) h.k.a.n60 _ _⟩
theorem W6:zP 0:=⟨by decide,by decide⟩
theorem Zjo(c:Cust)(n cap:Int):zP (ZL c n cap):=by
 unfold ZL;split
 ·exact Y7 _
 ·unfold ZK qP;split
  ·exact W6
  ·exact Y7 _
theorem Zuz(price:List Int)(v:List Visit):zP (QJ price v):=by
 have:∀(v:List Visit) (s:Int),zP s->zP (v.foldl (λs w=>W (s+YS price w.d)) s):=by
  intro v
  induction v with
  | nil=>intro s h;exact h
  | cons w v ih=>intro s _;exact ih _ (Y7 _)
 exact this v 0 W6
theorem Zjp(n:Nat)(cap:Int)(c:Cust)(price:List Int):zP (QU n cap c price):=by
 unfold QU;split
 ·unfold Yg;split
  ·exact Zuz _ _
  ·exact Y7 _
 ·unfold ZaZ;split<;>exact Y7 _
theorem Zjq(x:Inst)(a b:List Int):zP (Qa x a b):=by
 unfold Qa;split
 ·unfold Y4;split
  ·exact W6
  ·split
   ·exact W6
   ·exact Y7 _
 ·exact⟨by decide,by decide⟩
theorem ZuA{x:Inst}{n:Nat}(h:BndOk x n)(a b:List Int)(ha:a.length=x.cust.length+1)(hb:b.length=x.cust.length+1):
  Pure prog 79 [.agg (zy x),.agg [L a,L b]] (I (QX x n a b)) :=
 Zjn x n a b h (λk=>Zjo _ _ _) (λk=>Zjp _ _ _ _) (Zjq x a b) ha hb
theorem ZuB{x:Inst}{n:Nat}(h:BndOk x n)(a b:List Int)(ha:a.length=x.cust.length+1)(hb:b.length=x.cust.length+1):
  Pure prog 83 [.agg (zy x),.agg [L a,L b]] (I (XY x n a b)) :=
 Zuv x n a b h (λk=>Zjo _ _ _) (λk=>Zjp _ _ _ _) (Zjq x a b) ha hb
open Go Go.Proofs
structure Clm where
 i:List Int
 m:Int
 s:Int
def Ze(x:Inst)(c:Clm):Nat:=jO c.s (x.cust.length+1)
def XZ(x:Inst)(c:Clm):Nat:=jO (yG c.s) ((c.i.getD (Ze x c) 0).toNat+1)
def Qb(x:Inst)(c:Clm):List Int:=xN x (c.i.set (Ze x c) (W (c.i.getD (Ze x c) 0-XZ x c)))
def Qc(x:Inst)(n:Nat)(i:List Int):Int:=QX x n (xl x i) i
def W7(x:Inst)(n:Nat)(c:Clm):Clm:=if c.m<Qc x n (Qb x c) then ⟨Qb x c,Qc x n (Qb x c),yG (yG c.s)⟩ else ⟨c.i,c.m,yG (yG c.s)⟩
def X0(x:Inst):List Int:=xN x (List.replicate (x.cust.length+1) 2147483648)
def xO(x:Inst)(n:Nat)(s:Int):Nat->Clm
 | 0=>⟨X0 x,Qc x n (X0 x),IntKind.u64.wrap s⟩
 | k+1=>W7 x n (xO x n s k)
def X1(x:Inst)(n:Nat)(s:Int)(k:Nat):Int:=XY x n (xl x (xO x n s k).i) (xO x n s k).i
def Za4(x:Inst)(i:List Int):Prop:=i.length=x.cust.length+1/\∀z∈i,0<=z/\z<=2147483648
theorem Zjr{x:Inst}(ha:qt x)(l:List Int):Za4 x (xN x l):=by
 refine⟨Za1 x l,λz hz=>?_⟩;unfold xN at hz;obtain⟨b,-,rfl⟩:=Al.1 hz;have:=Zue (f:=λa=>arc x a b) (p:=b) (lo:=0) (hi:=2147483648) DN DN (λk=>ha k b) (x.cust.length+1);omega
theorem ZuC{x:Inst}(ha:qt x){n:Nat}{c:Clm}(h:Za4 x c.i):Za4 x (W7 x n c).i:=by
 unfold W7;split
 ·exact Zjr ha _
 ·exact h
theorem ZdN{x:Inst}(ha:qt x)(n:Nat)(s:Int):∀k,Za4 x (xO x n s k).i
 | 0=>Zjr ha _
 | k+1=>ZuC ha (ZdN ha n s k)
theorem ZuD{x:Inst}{n:Nat}(hx:BndOk x n)(ha:qt x)(s:Int)(b:Nat)(hb:b<=1000):
  ∃pa pb,Pure prog 34 [.agg (zy x),I s,I b] (.tup [.agg [pa,pb],I (X1 x n s b)]):=by
 refine⟨L (xl x (xO x n s b).i),L (xO x n s b).i,?_⟩;have hn:=hx.ncust;have e0:xO x n s 0=⟨X0 x,Qc x n (X0 x),IntKind.u64.wrap s⟩:=rfl;have hval:∀i:List Int,i.length=x.cust.length+1->Pure prog 79 [.agg (zy x),.agg [L (xl x i),L i]] (I (Qc x n i)):=λi hi=>by unfold Qc;exact ZuA hx (xl x i) i (ZdL x i) hi
 have hfi:Pure prog 77 [.agg (zy x)] (.agg [L (xl x (xO x n s 0).i),L (xO x n s 0).i]):=by rw[e0];dsimp only;unfold X0;exact Zug x hn
 have hv0:Pure prog 79 [.agg (zy x),.agg [L (xl x (xO x n s 0).i),L (xO x n s 0).i]] (I (xO x n s 0).m):=by rw[e0];dsimp only;exact hval _ (by unfold X0;exact Za1 x _)
 have hbest:Pure prog 83 [.agg (zy x),.agg [L (xl x (xO x n s b).i),L (xO x n s b).i]] (I (X1 x n s b)):=by unfold X1;exact ZuB hx _ _ (ZdL x _) (ZdN ha n s b).1
 have hclip:Pure prog 80 [I b,I 0,I 1000] (I b):=by
  have:=Xy b 0 1000
  rwa[show min (max (b:Int) 0) 1000=b by omega]at this
 have hs0:(xO x n s 0).s=IntKind.u64.wrap s:=by rw[e0]
 clear e0;have hstep:∀k,xO x n s (k+1)=W7 x n (xO x n s k):=λ_=>rfl
 have hok:=ZdN ha n s;have hlow:=λ(b:List Int) (pl:Nat) (d:Int) hb hp=>Zuh x (xl x b) b pl d hn hb hp
 have hfo:∀l,(xN x l).length=x.cust.length+1:=Za1 x;generalize X1 x n s b=res at *;generalize xO x n s=C at *;generalize xl x=O at *;refine zt func34 ntmps34 results34 λS nx hd=>?_
 refine DQ ?_;intro v0 v1;refine DQ ?_;refine zr hfi ?_;refine λhsuf=>((ZiZ s jF).mono ?_).v
 rintro _ _ ⟨v2,rfl,rfl⟩;refine⟨_,_,qG _,zG hsuf ?_⟩;intro v3;rw[<-hs0];refine DQ ?_;refine zr hv0 ?_
 repeat apply za
 refine zb ?_;refine zr hclip ?_;refine zj (zD (λk:Nat=>k<=b) (λk=>[(3,.ptr nx v0 0),(6,.ptr (nx+1) v1 0),(8,.ptr (nx+3) v3 0),(9,.ptr (nx+2) v2 0),(10,I (C k).m),(23,I b),(24,I k)]) (λk=>[.cells v0 25 (zy x),.cells v1 68 [.sc (.slice none 0 0),.sc (.slice none 0 0)],.cells v2 179 (jY (C k).s),.cells v3 68 [L (O (C k).i),L (C k).i]]) (λk=>b-k) 0 [] DI DI DI ?_);rintro k hk;refine DQ ?_;refine za (zv rfl (λhc=>?_) (λhc=>?_))
 ·simp at hc;have hst:=hstep k;obtain⟨hl,hbd⟩:=hok k;generalize hCk:C k=c at *;refine zh (za (zj ?_));have hpl:Ze x c<x.cust.length+1:=JG _ DH;have hb1:=λ(S:Store) hS=>WZ c.s (x.cust.length+1) DH DH (S:=S) (id:=nx+2) (v:=v2) hS
  have hpe:jO c.s (x.cust.length+1)=Ze x c:=rfl;rw[hpe]at hb1;have w1:IntKind.i64.wrap ((x.cust.length:Int)+1)=((x.cust.length+1:Nat):Int):=by rw[AC];omega
  obtain⟨t,tl,b1,b2,b3,f0⟩:=zJ rfl c.i (Ze x c) DH;have hte:c.i.getD (Ze x c) 0=t:=by rw[Aa,b1];rfl
  have htb:=hbd t (Ab b1);obtain⟨t1,ht1⟩:∃t1:Nat,(t1:Int)=t+1:=⟨(t+1).toNat,by omega⟩;have hb2:=λ(S:Store) hS=>WZ (yG c.s) t1 DH DH (S:=S) (id:=nx+2) (v:=v2) hS
  have hoe:jO (yG c.s) t1=XZ x c:=by unfold XZ;rw[hte,show t.toNat+1=t1 by omega]
  rw[hoe]at hb2;have w2:IntKind.i64.wrap (t+1)=(t1:Int):=by rw[AC];omega
  have hlo:=hlow c.i (Ze x c) (XZ x c) hl hpl;have htr:xN x (c.i.set (Ze x c) (W (c.i.getD (Ze x c) 0-XZ x c)))=Qb x c:=rfl;rw[htr]at hlo;have hv:=hval (Qb x c) (hfo _);have hst2:C (k+1)=if c.m<Qc x n (Qb x c) then ⟨Qb x c,Qc x n (Qb x c),yG (yG c.s)⟩ else ⟨c.i,c.m,yG (yG c.s)⟩:=by rw[hst];unfold W7;rfl
  have hpi:Ze x c<c.i.length:=DH
  generalize Ze x c=pl at *;generalize XZ x c=off at *;generalize Qb x c=tr at *;generalize Qc x n tr=va at *;generalize yG c.s=s1 at *;generalize yG s1=s2 at *;obtain⟨ci,cm,cs⟩:=c;simp only at *;refine za (ze [] w1 ?_);refine λhsuf=>((hb1 _ (by rw[zQ];rfl)).mono ?_).v
  rintro _ _ ⟨rfl,rfl⟩;refine⟨_,_,yc _ DH DI,zG hsuf ?_⟩;obtain⟨lc,hlc⟩:∃lc,lc=L ci:=⟨_,rfl⟩;rw[<-hlc];have hip:QZ prog 26 lc (I pl)=some (.ip (I t :: tl)):=by rw[hlc];simp -implicitDefEqProofs [QZ,hpi,f0]
  clear f0 hpi;refine za (jP [] DM DM λK Gc Gh hK hGc hGh X hX0 hX=>?_);simp -implicitDefEqProofs [hX0,hX,hip,w2,-QZ]
  try clear hX0 hX X
  refine hGc _ _ _ _ _ _ _ λhsuf=>((hb2 _ (by rw[zQ];rfl)).mono ?_).v
  rintro _ _ ⟨rfl,rfl⟩;refine⟨_,_,yc _ DH DI,?_⟩;clear hGc hGh;clear Gc Gh;refine jZ hsuf (D:=[]) DM λGc Gh hGc hGh X hX0 hX=>?_
  simp -implicitDefEqProofs [hX0,hX];clear hX0 hX X;refine hK _ _ _ ?_;clear hK hGc hGh;clear K Gc Gh;subst hlc;refine DQ ?_;refine zr hlo ?_;intro v4;refine DQ ?_;refine zr hv ?_;refine DQ ?_
  by_cases hlt:cm<va
  ·rw[if_pos hlt]at hst2;refine zn (by simp[hlt]) ?_;refine zb ?_;refine zb ?_;exact zq (k+1) [_] hc DH (by simp[zu k (by omega),hst2]) rfl (by simp[hst2];rfl)
  ·rw[if_neg hlt]at hst2;refine zm (by simp[hlt]) ?_;refine zh (zb ?_);exact zq (k+1) [_] hc DH (by simp[zu k (by omega),hst2]) rfl (by simp[hst2];rfl)
 ·simp at hc;obtain rfl:k=b:=DH
  refine zx (za (zz (some [nx,nx+3]) (Row.pures [0,1,2,3] (.alt 4 (Row.pures [5] .done) .stop)) mixed trivial ?_));refine zK (hbest) trivial ?_;exact zg (zi hd DJ (by simp[zp]))
open Go Go.Proofs
theorem ZuE(n p k:Nat)(h:k<n):(qy n p).take (k+1)=(qy n p).take k++[UInt8.ofNat (48+yC p k)]:=by
 rw[AI];congr 1;unfold qy;rw[Ai,Bk h];rfl
theorem ZuF(p n:Nat)(h1:1<=n)(hn:n<=64)(hp:p<2 ^ 64):Pure prog 54 [U p,I n] (T (bs (qy n p))):=by
 have hbits:=ZeR p hp;have hbl:(qY p).length=64:=by simp[qY]
 have hbat:∀k,k<64->(qY p)[k]?=some ((yC p k:Nat):Int):=λk h=>by unfold qY;rw[Ai,Bk h];rfl
 have hpl:=WR n p;have hsucc:=ZuE n p;have hb01:∀k,yC p k<=1:=VS p;generalize qY p=B at *;generalize qy n p=P at *;have c1:¬(n:Int)<1:=DH
 have c2:¬(64:Int)<n:=DH
 refine zt func54 ntmps54 results54 λS nx hd=>?_
 refine DQ ?_
 repeat apply za
 refine ze [(2,10)] (zo c1 c2) ?_;refine zm DI ?_;refine zh (DQ ?_);refine za (jg 5 5 1 rfl λv1=>?_);refine zb ?_;refine zr hbits ?_
 repeat apply za
 refine zb ?_;refine zj (zD (λs:Nat × Nat=>s.1<=n) (λ(k,v)=>[(1,I n),(5,.sl nx v 1 0 k),(6,L B),(7,I k)]) (λ(k,v)=>[.cells v 5 ((P.map U8).take k)]) (λs=>n-s.1) (0,v1) [] DI DI DI ?_);rintro⟨k,v⟩ hk;simp only at hk ⊢
 repeat apply za
 refine zb ?_;refine zv rfl (λhc=>?_) (λhc=>?_)
 ·simp at hc;obtain⟨z,tl,b1,b2,b3,f0⟩:=zJ rfl B k DH;obtain rfl:z=((yC p k:Nat):Int):=by have:=hbat k DH;rw[b1]at this;exact Option.some.inj this
  have hb:=hb01 k;have hk64:k<B.length:=DH
  have hs:=hsucc k hc;have hu:=Ya (k:=yC p k) DH;generalize UInt8.ofNat (48+yC p k)=u at *;generalize yC p k=b at *;have w1:IntKind.i64.wrap (48+(b:Int))=(u.toNat:Int):=by rw[hu,AC];omega
  have w2:=Zdl u.toNat DH;have hl:((P.map U8).take k).length=k:=DL
  have htk:List.take k ((P.map U8).take k)=(P.map U8).take k:=Af (by rw[hl];exact Ag _);have hnx:(P.map U8).take (k+1)=(P.map U8).take k++[U8 u]:=by rw[<-List.map_take,hs,List.map_append,List.map_take];rfl
  generalize (P.map U8).take k=cs at *;refine zh (za (zj (ze [] (yE f0 hk64 w1 w2 htk) ?_)));refine⟨by omega,?_⟩;refine zb ?_;exact zq (k+1,v+1) [] hc DH (by simp[zu k (by omega)]) rfl (by simp only[hnx,AH])
 ·simp at hc;obtain rfl:k=n:=DH
  rw[show List.take k (P.map U8)=P.map U8 from Af DL];refine zx (DQ ?_);refine λhsuf=>Zin (e:=5) (l:=P) (off:=0) (id:=nx) (ver:=v) rfl DI DI DI (by simp[hpl]) (by rw[xQ];rfl) (λi u h=>by rw[AS,Ai,h];rfl) DH ?_
  refine⟨_,_,rfl,zG hsuf ?_⟩;exact DR hd
open Go Go.Proofs
theorem yL(a b:List UInt8)(h:a.length+b.length<=1099511627776):∃s,s=a++b/\s.length=a.length+b.length/\qV .add (bs a) (bs b)=some (.string (bs s)):=⟨_,rfl,by simp,QQ a b DH⟩
structure InstS (x:Inst) (n:Nat):Prop where
 t:InstT x n
 n7:n<=60
 cust:x.cust.length<=1000
 pats:∀c∈x.cust,c.pats.length<=1000
theorem Zjs{x:Inst}{n:Nat}(h:InstQ x n):InstS x n:=⟨h.t,by have:=h.n7;omega,by have:=h.six;omega,h.k.a.pats⟩
theorem JP{z:Int}(h:ZE z):(zE z).length<=20:=Yk (by obtain⟨a,b⟩:=h;unfold zP;omega)
theorem Zjt(n p:Nat)(h:n<=60):(qy n p).length<=60:=by simp_all[WR]
theorem Zju{x:Inst}{n:Nat}(h:InstS x n){c:Cust}(hc:c∈x.cust):(∀w∈qq n c,w.length<=60)/\(qq n c).length<=1006:=by
 have hp:=h.pats c hc;unfold qq;rcases (h.t.cust c hc).kind with ⟨k,d,-⟩ | ⟨k,-,-,a,b,s,-,ho⟩
 ·rw[if_pos k];refine⟨λw hw=>?_,by simp;omega⟩;simp only[As,Al]at hw;rcases hw with rfl | rfl | ⟨p,-,rfl⟩
  ·decide
  ·have:=JP d;omega
  ·exact Zjt n p h.n7
 grind[JP]
theorem Zjv{x:Inst}{n K:Nat}(h:InstS x n)(h8:8<=K)(h1:x.cust.length+1<=K)(h2:∀c∈x.cust,c.pats.length+2<=K):∀l∈jC x,(zO l).length+1<=61*K+1:=by
 have hn:x.days.toNat=n:=by have:=h.t.days;omega
 have hd:(zE x.days).length<=20:=Yk (by have:=h.t.days;have:=h.n7;unfold zP;omega);have hv:=JP h.t.nums.1;have hc:=JP h.t.nums.2.1;have hl:=JP h.t.nums.2.2;have hcu:=we (n:=x.cust.length) (by have:=h.cust;omega);have key:∀l:Ln,(∀w∈l,w.length<=60)->l.length<=K->(zO l).length+1<=61*K+1:=λl a b=>by have:=XM a;omega
 intro l hlm;simp only[jC,As,AB,Al]at hlm;rcases hlm with rfl | rfl | rfl | ⟨c,hcm,rfl⟩ | rfl | ⟨r,hr,rfl⟩
 ·exact key _ DI DL
 ·refine key _ (λw hw=>?_) DH;simp only[As,A7,or_false]at hw;rcases hw with rfl | rfl | rfl | rfl | rfl | rfl | rfl | rfl
  all_goals first | omega | decide
 ·refine key _ (λw hw=>?_) DL;simp only[As,A7,or_false]at hw;rcases hw with rfl | rfl
  ·decide
  ·omega
 ·grind[Zju,qq]
 ·exact key _ DI DL
 ·refine key _ (λw hw=>?_) (by simp;have:=(h.t.row r hr).1;omega);obtain⟨z,hz,rfl⟩:=Al.1 hw;have:=JP ((h.t.row r hr).2 z hz);omega
theorem Zjw{x:Inst}{n:Nat}(h:InstS x n):∀l∈jC x,(zO l).length+1<=61367:=λl hl=>by
 have:=Zjv (K:=1002) h DH (by have:=h.cust;omega) (λc hc=>by have:=h.pats c hc;omega) l hl;omega
theorem ZuG{x:Inst}{n:Nat}(h:InstS x n)(ls:List Ln)(hs:∀l∈ls,l∈jC x)(hl:ls.length<=3000):(yd ls).length<=184101000:=by
 have:=ZaP (ls:=ls) λl hm=>Zjw h l (hs l hm)
 omega
def Yr(x:Inst):List Ln:=[[xX,[49]],[xY,zE x.days,xZ,zE x.veh,x7,zE x.cap,x8,zE x.len],[x9,zH x.cust.length]]
theorem ZdO(x:Inst):jC x=Yr x++(x.cust.map (qq x.days.toNat)++[jq] :: x.dist.map (λr:List Int=>r.map zE)):=rfl
theorem ZuH{x:Inst}{n:Nat}(h:InstS x n):Pure prog 13 [.agg (zy x)] (T (bs (yd (jC x)))):=by
 have hd0:=h.t.days;have hnt:x.days.toNat=n:=DH
 have hn60:=h.n7;have hn1:=h.t.n1;obtain⟨⟨vh0,vh1⟩,⟨ca0,ca1⟩,⟨le0,le1⟩⟩:=h.t.nums;obtain⟨ve,hve⟩:=Av vh0;obtain⟨ca,hca⟩:=Av ca0;obtain⟨le,hle⟩:=Av le0;have hcl:=h.cust;have hdl:=h.t.rows;have hwds:Pure prog 52 [.lst 5 [I n,I ve,I ca,I le,I x.cust.length]] (.lst 5 [T (bs (zH n)),T (bs (zH ve)),T (bs (zH ca)),T (bs (zH le)),T (bs (zH x.cust.length))]) :=
  Zdm [n,ve,ca,le,x.cust.length] DI (by intro m hm;simp only[As,A7,or_false]at hm;rcases hm with rfl | rfl | rfl | rfl | rfl<;>omega)
 have hb:=ZuG h;have hline:=Zjw h;have hhead:yd (Yr x)=[116,114,97,110,116,101,114,32,49,10,100,97,121,115,32]++zH n++[32,118,101,104,105,99,108,101,115,32]++zH ve++[32,99,97,112,97,99,105,116,121,32]++zH ca++[32,108,101,110,103,116,104,32]++zH le++[10,99,117,115,116,111,109,101,114,115,32]++zH x.cust.length++[10]:=by
  simp[Yr,yd,zO,zE,hd0,hve,hca,hle]
 obtain⟨P,hP⟩:∃P:Nat->List UInt8,P=λk=>yd (Yr x++(x.cust.take k).map (qq n)):=⟨_,rfl⟩
 have hP0:P 0=yd (Yr x):=by rw[hP];simp
 have hPs:∀k c,x.cust[k]?=some c->P (k+1)=P k++(zO (qq n c)++[10]):=λk c hc=>by
  rw[hP]
  show yd (Yr x++(x.cust.take (k+1)).map (qq n))=_
  rw[AI,hc,List.map_append,<-List.append_assoc];exact Zht _ _
 have hPb:∀k,(P k).length<=184101000:=λk=>by
  rw[hP];refine hb _ (λl hl=>?_) (by simp[Yr];omega);rw[ZdO,hnt,AB,AB];rcases AB.1 hl with hl | hl
  ·exact .inl hl
  ·obtain⟨c,hc,rfl⟩:=Al.1 hl;exact .inr (.inl (List.mem_map_of_mem (BD hc)))
 obtain⟨D,hD⟩:∃D:Nat->List UInt8,D=λk=>yd (Yr x++(x.cust.map (qq n)++[jq] :: (x.dist.take k).map (λr:List Int=>r.map zE))):=⟨_,rfl⟩
 have hD0:D 0=P x.cust.length++[100,105,115,116,97,110,99,101,115,10]:=by
  rw[hD,hP];simp[yd,zO]
 have hDs:∀k r,x.dist[k]?=some r->D (k+1)=D k++(zO (r.map zE)++[10]):=λk r hr=>by
  rw[hD]
  show yd (Yr x++(x.cust.map (qq n)++[jq] :: (x.dist.take (k+1)).map (λr:List Int=>r.map zE)))=_
  rw[AI,hr,List.map_append,<-List.cons_append,<-List.append_assoc,<-List.append_assoc];exact Zht _ _
 have hDn:D x.dist.length=yd (jC x):=by rw[hD,ZdO,hnt];simp
 have hDb:∀k,(D k).length<=184101000:=λk=>by
  rw[hD];refine hb _ (λl hl=>?_) (by simp[Yr];omega);rw[ZdO,hnt,AB,AB];rcases AB.1 hl with hl | hl
  ·exact .inl hl
  ·rcases AB.1 hl with hl | hl
   ·exact .inr (.inl hl)
   ·rcases As.1 hl with rfl | hl
    ·exact .inr (.inr DI)
    ·obtain⟨r,hr,rfl⟩:=Al.1 hl;exact .inr (.inr (Cq _ (List.mem_map_of_mem (BD hr))))
 rw[<-hDn];clear hb hP hD hDn;have q0:=we (n:=n) DH;have q1:=we (n:=ve) DH;have q2:=we (n:=ca) DH;have q3:=we (n:=le) DH;have q4:=we (n:=x.cust.length) DH;generalize zH n=w0 at *;generalize zH ve=w1 at *;generalize zH ca=w2 at *;generalize zH le=w3 at *;generalize hw4:zH x.cust.length=w4 at *;obtain⟨s1,hs1,ls1,es1⟩:=yL [116,114,97,110,116,101,114,32,49,10,100,97,121,115,32] w0 (by (try simp only[Ad,Ah]);omega);have bs1:s1.length<=35:=by rw[ls1];(try simp only[Ad,Ah]);omega
 obtain⟨s2,hs2,ls2,es2⟩:=yL s1 [32,118,101,104,105,99,108,101,115,32] (by (try simp only[Ad,Ah]);omega);have bs2:s2.length<=45:=by rw[ls2];(try simp only[Ad,Ah]);omega
 obtain⟨s3,hs3,ls3,es3⟩:=yL s2 w1 (by (try simp only[Ad,Ah]);omega);have bs3:s3.length<=65:=by rw[ls3];(try simp only[Ad,Ah]);omega
 obtain⟨s4,hs4,ls4,es4⟩:=yL s3 [32,99,97,112,97,99,105,116,121,32] (by (try simp only[Ad,Ah]);omega);have bs4:s4.length<=75:=by rw[ls4];(try simp only[Ad,Ah]);omega
 obtain⟨s5,hs5,ls5,es5⟩:=yL s4 w2 (by (try simp only[Ad,Ah]);omega);have bs5:s5.length<=95:=by rw[ls5];(try simp only[Ad,Ah]);omega
 obtain⟨s6,hs6,ls6,es6⟩:=yL s5 [32,108,101,110,103,116,104,32] (by (try simp only[Ad,Ah]);omega);have bs6:s6.length<=103:=by rw[ls6];(try simp only[Ad,Ah]);omega
 obtain⟨s7,hs7,ls7,es7⟩:=yL s6 w3 (by (try simp only[Ad,Ah]);omega);have bs7:s7.length<=123:=by rw[ls7];(try simp only[Ad,Ah]);omega
 obtain⟨s8,hs8,ls8,es8⟩:=yL s7 [10,99,117,115,116,111,109,101,114,115,32] (by (try simp only[Ad,Ah]);omega);have bs8:s8.length<=134:=by rw[ls8];(try simp only[Ad,Ah]);omega
 obtain⟨s9,hs9,ls9,es9⟩:=yL s8 w4 (by (try simp only[Ad,Ah]);omega);have bs9:s9.length<=154:=by rw[ls9];(try simp only[Ad,Ah]);omega
 obtain⟨s10,hs10,ls10,es10⟩:=yL s9 [10] (by (try simp only[Ad,Ah]);omega);have bs10:s10.length<=155:=by rw[ls10];(try simp only[Ad,Ah]);omega
 have hPe:P 0=s10:=by rw[hP0,hhead,hs10,hs9,hs8,hs7,hs6,hs5,hs4,hs3,hs2,hs1]
 refine zt func13 ntmps13 results13 λS nx hd=>?_
 refine DQ ?_;intro v0;refine za (ze [] (zV hd0 hve hca hle) ?_);refine qm [] hwds (zV hd0 hve hca hle) ?_;refine za (zz none (Row.pures [0,1,2,3,4,5,6,7,8,9,10,11,12,13,14,15,16,17,18,19,20,21,22,23,24,25] .done) mixed (yl es1 es2 es3 es4 es5 (yE es6 es7 es8 es9 es10)) ?_)
 repeat apply za
 refine zb ?_;rw[<-hPe];refine zj (zD (λk:Nat=>k<=x.cust.length) (λk=>[(1,.ptr nx v0 0),(4,T (bs (P k))),(5,I k)]) (λ_=>[.cells v0 25 (zy x)]) (λk=>x.cust.length-k) 0 [] DI DI DI ?_);rintro k hk
 repeat apply za
 refine zb ?_;refine zv rfl (λhc=>?_) (λhc=>?_)
 ·simp at hc;obtain⟨c,tl,a1,a2,a3,f0,f1⟩:=el 8 rfl x.cust k hc;have hPk:=hPs k c a1;have hcm:=Ab a1;have hct:=(h.t.cust c hcm).kind;have hcp:=h.pats c hcm;have hcw:=Zju h hcm;have hsb:=hPb k;generalize P k=ss at *;refine zh (za (zj ?_));obtain⟨kd,dm,ps,ra,si,st,ru,ho⟩:=c;simp only at hct hcp;refine za (ze [] (zF f0 f1 hc) ?_);intro v2
  repeat apply za
  refine zb ?_;rcases hct with ⟨hk1,hdm,hpp,-⟩ | ⟨hk2,-,-,hra,hsi,hst,hru,hho⟩
  ·subst hk1;obtain⟨dn,rfl⟩:=Av hdm.1;have hdn:=hdm.2;have hdd:=Ziq dn DH;have hdq:=we (n:=dn) DH;have hcW:qq n ⟨1,dn,ps,ra,si,st,ru,ho⟩=vN :: zH dn :: ps.map (qy n):=by simp[qq,zE]
   rw[hcW]at hPk hcw;obtain⟨V,hV⟩:∃V:Nat->List UInt8,V=λj=>ss++zO (vN :: zH dn :: (ps.take j).map (qy n)):=⟨_,rfl⟩
   have hV0:V 0=ss++[118,105,115,105,116,32]++zH dn:=by rw[hV];simp[zO]
   have hVs:∀j p,ps[j]?=some p->V (j+1)=V j++[32]++qy n p:=λj p hp=>by
    rw[hV]
    show ss++zO (vN :: zH dn :: (ps.take (j+1)).map (qy n))=_
    rw[AI,hp,List.map_append];have:=Zhs (zH dn :: (ps.take j).map (qy n)) (qy n p) vN;simp only[List.cons_append]at this
    show ss++zO (vN :: zH dn :: ((ps.take j).map (qy n)++[qy n p]))=_
    rw[this];simp
   have hVn:P (k+1)=V ps.length++[10]:=by rw[hPk,hV];simp
   have hVb:∀j,(V j).length<=184201000:=λj=>by
    rw[hV];have:=XM (ws:=vN :: zH dn :: (ps.take j).map (qy n)) (m:=60) (λw hw=>hcw.1 w (by
     simp only[As,Al]at hw ⊢;rcases hw with r | r | ⟨p,hp,r⟩
     ·exact .inl r
     ·exact .inr (.inl r)
     ·exact .inr (.inr ⟨p,BD hp,r⟩)))
    have hl:(vN :: zH dn :: (ps.take j).map (qy n)).length<=1002:=DL
    simp only[Aq];have:61*(vN :: zH dn :: (ps.take j).map (qy n)).length<=61*1002:=B8 _ hl;omega
   clear hV hPk;generalize zH dn=dw at *;obtain⟨m1,hm1,lm1,em1⟩:=yL ss [118,105,115,105,116,32] (by simp only[Ad,Ah];omega);obtain⟨m2,hm2,lm2,em2⟩:=yL m1 dw (by rw[lm1];simp only[Ad,Ah];omega);have hV0':V 0=m2:=by rw[hV0,hm2,hm1]
   refine zn DI ?_;refine za (ze [] (zo em1 em2) ?_);refine qm [] hdd (zo em1 em2) ?_;rw[<-hV0'];refine DQ ?_;refine zj (zD (λj:Nat=>j<=ps.length) (λj=>[(1,.ptr nx v0 0),(4,T (bs (V j))),(5,I k),(6,.ptr (nx+1) v2 0),(7,I j)]) (λ_=>[.cells v0 25 (zy x),.cells v2 87 [I 1,I dn,L ps,I ra,I si,I st,I ru,I ho]]) (λj=>ps.length-j) 0 [] DI DI DI ?_);rintro j hj
   repeat apply za
   refine zb ?_;refine zv rfl (λhcj=>?_) (λhcj=>?_)
   ·simp at hcj;obtain⟨p,tl2,b1,b2,b3,g0⟩:=zJ rfl ps j hcj;have hpm:=Ab b1;have hplt:p<2 ^ 64:=Bc (hpp p hpm) (Cg DN DH);have htx:=ZuF p n DH DH hplt;have hpl:=Zjt n p hn60;have hvs:=hVs j p b1;have hvb:=hVb j;generalize qy n p=pw at *;generalize hvj:V (j+1)=vj1 at *;generalize V j=vj at *;obtain⟨y1,hy1,ly1,ey1⟩:=yL vj [32] (by simp only[Ad,Ah];omega);obtain⟨y2,hy2,ly2,ey2⟩:=yL y1 pw (by rw[ly1];simp only[Ad,Ah];omega);obtain rfl:vj1=y2:=by rw[hvs,hy2,hy1]
    refine zh (za (zj (zz (some [nx,nx+1]) (Row.pures [0,1,2,3,4,5,6,7,8,9,10,11] .done) mixed (yE g0 hcj ey1 ey2 hd0) ?_)));refine zK (htx) (yE g0 hcj ey1 ey2 hd0) ?_;refine zb ?_;exact zq (j+1) [] hcj DH (by simp[zu j (by omega),hvj]) rfl DI
   ·simp at hcj;obtain rfl:j=ps.length:=DH
    have hvb:=hVb ps.length;obtain⟨y1,hy1,ly1,ey1⟩:=yL (V ps.length) [10] (by simp only[Ad,Ah];omega);have hfin:P (k+1)=y1:=by rw[hVn,hy1]
    refine zx (ze [] ey1 ?_);refine zb ?_;exact zq (k+1) [_] hc DH (by simp[zu k (by omega),hfin]) rfl DJ
  ·subst hk2;obtain⟨ra,rfl⟩:=Av hra.1;obtain⟨si,rfl⟩:=Av hsi.1;obtain⟨st,rfl⟩:=Av hst.1;obtain⟨ho,rfl⟩:=Av hho.1;obtain⟨-,hra⟩:=hra;obtain⟨-,hsi⟩:=hsi;obtain⟨-,hst⟩:=hst;obtain⟨-,hho⟩:=hho;have hwd4:Pure prog 52 [.lst 4 [I ra,I si,I st,I ho]] (.lst 4 [T (bs (zH ra)),T (bs (zH si)),T (bs (zH st)),T (bs (zH ho))]) :=
    Zdm [ra,si,st,ho] DI (by intro m hm;simp only[As,A7,or_false]at hm;rcases hm with rfl | rfl | rfl | rfl<;>omega)
   have p0:=we (n:=ra) DH;have p1:=we (n:=si) DH;have p2:=we (n:=st) DH;have p3:=we (n:=ho) DH;have hcW:qq n ⟨2,dm,ps,ra,si,st,ru,ho⟩=[QO,zH ra,zH si,zH st,if ru=2 then uJ else ui,zH ho]:=by simp[qq,zE]
   rw[hcW]at hPk;generalize zH ra=u0 at *;generalize zH si=u1 at *;generalize zH st=u2 at *;generalize zH ho=u3 at *;refine zm DI ?_;refine DQ ?_;refine zr hwd4 ?_;refine DQ ?_
   repeat apply za
   refine zb ?_
   by_cases hr2:ru=2
   ·subst hr2;rw[if_pos rfl]at hPk;refine zn DI ?_;refine zb ?_;obtain⟨t1,ht1,lt1,et1⟩:=yL ss [116,97,110,107,32] (by (try simp only[Ad,Ah]);omega);have bt1:t1.length<=184101005:=by rw[lt1];(try simp only[Ad,Ah]);omega
    obtain⟨t2,ht2,lt2,et2⟩:=yL t1 u0 (by (try simp only[Ad,Ah]);omega);have bt2:t2.length<=184101025:=by rw[lt2];(try simp only[Ad,Ah]);omega
    obtain⟨t3,ht3,lt3,et3⟩:=yL t2 [32] (by (try simp only[Ad,Ah]);omega);have bt3:t3.length<=184101026:=by rw[lt3];(try simp only[Ad,Ah]);omega
    obtain⟨t4,ht4,lt4,et4⟩:=yL t3 u1 (by (try simp only[Ad,Ah]);omega);have bt4:t4.length<=184101046:=by rw[lt4];(try simp only[Ad,Ah]);omega
    obtain⟨t5,ht5,lt5,et5⟩:=yL t4 [32] (by (try simp only[Ad,Ah]);omega);have bt5:t5.length<=184101047:=by rw[lt5];(try simp only[Ad,Ah]);omega
    obtain⟨t6,ht6,lt6,et6⟩:=yL t5 u2 (by (try simp only[Ad,Ah]);omega);have bt6:t6.length<=184101067:=by rw[lt6];(try simp only[Ad,Ah]);omega
    obtain⟨t7,ht7,lt7,et7⟩:=yL t6 [32] (by (try simp only[Ad,Ah]);omega);have bt7:t7.length<=184101068:=by rw[lt7];(try simp only[Ad,Ah]);omega
    obtain⟨t8,ht8,lt8,et8⟩:=yL t7 [97,110,121] (by (try simp only[Ad,Ah]);omega);have bt8:t8.length<=184101071:=by rw[lt8];(try simp only[Ad,Ah]);omega
    obtain⟨t9,ht9,lt9,et9⟩:=yL t8 [32] (by (try simp only[Ad,Ah]);omega);have bt9:t9.length<=184101072:=by rw[lt9];(try simp only[Ad,Ah]);omega
    obtain⟨t10,ht10,lt10,et10⟩:=yL t9 u3 (by (try simp only[Ad,Ah]);omega);have bt10:t10.length<=184101092:=by rw[lt10];(try simp only[Ad,Ah]);omega
    obtain⟨t11,ht11,lt11,et11⟩:=yL t10 [10] (by (try simp only[Ad,Ah]);omega);have bt11:t11.length<=184101093:=by rw[lt11];(try simp only[Ad,Ah]);omega
    have hfin:P (k+1)=t11:=by rw[hPk,ht11,ht10,ht9,ht8,ht7,ht6,ht5,ht4,ht3,ht2,ht1];simp[zO]
    refine zz none (Row.pures [0,1,2,3,4,5,6,7,8,9,10,11,12,13,14,15,16,17,18,19,20,21,22,23,24] .done) mixed (yl et1 et2 et3 et4 et5 (yl et6 et7 et8 et9 et10 et11)) ?_;refine ze [] et11 ?_;refine zb ?_;exact zq (k+1) [_] hc DH (by simp[zu k (by omega),hfin]) rfl DJ
   ·rw[if_neg hr2]at hPk;refine zm (by simp[hr2]) ?_;refine zh ?_;obtain⟨t1,ht1,lt1,et1⟩:=yL ss [116,97,110,107,32] (by (try simp only[Ad,Ah]);omega);have bt1:t1.length<=184101005:=by rw[lt1];(try simp only[Ad,Ah]);omega
    obtain⟨t2,ht2,lt2,et2⟩:=yL t1 u0 (by (try simp only[Ad,Ah]);omega);have bt2:t2.length<=184101025:=by rw[lt2];(try simp only[Ad,Ah]);omega
    obtain⟨t3,ht3,lt3,et3⟩:=yL t2 [32] (by (try simp only[Ad,Ah]);omega);have bt3:t3.length<=184101026:=by rw[lt3];(try simp only[Ad,Ah]);omega
    obtain⟨t4,ht4,lt4,et4⟩:=yL t3 u1 (by (try simp only[Ad,Ah]);omega);have bt4:t4.length<=184101046:=by rw[lt4];(try simp only[Ad,Ah]);omega
    obtain⟨t5,ht5,lt5,et5⟩:=yL t4 [32] (by (try simp only[Ad,Ah]);omega);have bt5:t5.length<=184101047:=by rw[lt5];(try simp only[Ad,Ah]);omega
    obtain⟨t6,ht6,lt6,et6⟩:=yL t5 u2 (by (try simp only[Ad,Ah]);omega);have bt6:t6.length<=184101067:=by rw[lt6];(try simp only[Ad,Ah]);omega
    obtain⟨t7,ht7,lt7,et7⟩:=yL t6 [32] (by (try simp only[Ad,Ah]);omega);have bt7:t7.length<=184101068:=by rw[lt7];(try simp only[Ad,Ah]);omega
    obtain⟨t8,ht8,lt8,et8⟩:=yL t7 [102,105,108,108] (by (try simp only[Ad,Ah]);omega);have bt8:t8.length<=184101072:=by rw[lt8];(try simp only[Ad,Ah]);omega
    obtain⟨t9,ht9,lt9,et9⟩:=yL t8 [32] (by (try simp only[Ad,Ah]);omega);have bt9:t9.length<=184101073:=by rw[lt9];(try simp only[Ad,Ah]);omega
    obtain⟨t10,ht10,lt10,et10⟩:=yL t9 u3 (by (try simp only[Ad,Ah]);omega);have bt10:t10.length<=184101093:=by rw[lt10];(try simp only[Ad,Ah]);omega
    obtain⟨t11,ht11,lt11,et11⟩:=yL t10 [10] (by (try simp only[Ad,Ah]);omega);have bt11:t11.length<=184101094:=by rw[lt11];(try simp only[Ad,Ah]);omega
    have hfin:P (k+1)=t11:=by rw[hPk,ht11,ht10,ht9,ht8,ht7,ht6,ht5,ht4,ht3,ht2,ht1];simp[zO]
    refine zz none (Row.pures [0,1,2,3,4,5,6,7,8,9,10,11,12,13,14,15,16,17,18,19,20,21,22,23,24] .done) mixed (yl et1 et2 et3 et4 et5 (yl et6 et7 et8 et9 et10 et11)) ?_;refine ze [] et11 ?_;refine zb ?_;exact zq (k+1) [_] hc DH (by simp[zu k (by omega),hfin]) rfl DJ
 ·simp at hc;obtain rfl:k=x.cust.length:=DH
  refine zx ?_;have hpb:=hPb x.cust.length;obtain⟨y1,hy1,ly1,ey1⟩:=yL (P x.cust.length) [100,105,115,116,97,110,99,101,115,10] (by simp only[Ad,Ah];omega);obtain rfl:D 0=y1:=by rw[hD0,hy1]
  refine za (ze [] ey1 ?_)
  repeat apply za
  refine zb ?_;refine zj (zD (λk:Nat=>k<=x.dist.length) (λk=>[(1,.ptr nx v0 0),(4,T (bs (D k))),(10,I k)]) (λ_=>[.cells v0 25 (zy x)]) (λk=>x.dist.length-k) 0 [] DI DI DI ?_);rintro k hk
  repeat apply za
  refine zb ?_;refine zv rfl (λhc=>?_) (λhc=>?_)
  ·simp at hc;obtain⟨r,tl,a1,a2,a3,f0⟩:=zJ rfl x.dist k hc;have hr:=h.t.row r (Ab a1);have hds:=hDs k r a1;have hdb:=hDb k;have hwl:∀ws:Ln,(∀w∈ws,w∈r.map zE)->ws.length<=1001->(zO ws).length<=61061:=λws hs hl=>by
    have:=XM (ws:=ws) (m:=60) (λw hw=>by
     obtain⟨z,hz,rfl⟩:=Al.1 (hs w hw);have:=JP (hr.2 z hz);omega)
    have:61*ws.length<=61*1001:=B8 _ hl;omega
   have hrl:r.length<=1001:=by have:=hr.1;omega
   have hwj:=hwl (r.map zE) (λw hw=>hw) (by simpa using hrl);have hro:Pure prog 52 [L r] (L ((r.map zE).map bs)):=by
    have e1:(r.map Int.toNat).map (λm:Nat=>(m:Int))=r:=by
     rw[BU];refine(AO λz hz=>?_).trans (C4 _);have:=(hr.2 z hz).1;simp;omega
    have:=Zdm (r.map Int.toNat) DL (λm hm=>by
     obtain⟨z,hz,rfl⟩:=Al.1 hm;have:=(hr.2 z hz).2;omega)
    rw[e1]at this;have e2:uk (r.map Int.toNat)=(r.map zE).map bs:=by simp[uk,zE,Function.comp_def]
    rwa[e2]at this
   have hli:=Zsp (r.map zE) DL DH (λj=>by have:=hwl ((r.map zE).take j) (λw hw=>BD hw) DL;omega);generalize (r.map zE).map bs=wl at *;generalize hdk:D (k+1)=dk1 at *;generalize zO (r.map zE)=jw at *;obtain⟨y2,hy2,ly2,ey2⟩:=yL (D k) (jw++[10]) (by simp only[Aq,Ad,Ah];omega);obtain rfl:dk1=y2:=by rw[hds,hy2]
   generalize jw++[10]=jn at *;generalize D k=dk at *;refine zh (za (zj (ze [] (zo f0 hc) ?_)));refine qm [] hro (zF f0 hc ey2) ?_;refine qm [] hli (zF f0 hc ey2) ?_;refine zb ?_;exact zq (k+1) [] hc DH (by simp[zu k (by omega),hdk]) rfl DI
  ·simp at hc;obtain rfl:k=x.dist.length:=DH
   refine zx (DQ ?_);exact DR hd
open Go Go.Proofs Hp
theorem ZuI{x:Inst}{n:Nat}(h:InstQ x n):InstOk x:=by
 have hm:=JO h.m;obtain⟨d1,d2,d3,d4⟩:=W5 hm.dist;have h6:=h.six;have r:∀z:Int,0<=z->z<=2147483648->zP z:=λz a b=>by unfold zP;omega
 refine⟨by have:=hm.days;unfold zP;omega,r _ hm.veh.1 hm.veh.2,r _ hm.cap.1 hm.cap.2,r _ hm.len.1 hm.len.2,by omega,λc hc=>?_,by omega,λrow hr=>⟨by have:=(d2 row hr).1;omega,λz hz=>r z ((d2 row hr).2 z hz).1 ((d2 row hr).2 z hz).2⟩⟩;have hp:=(h.k.a.made c hc).pats;rcases Za2 (hm.custs c hc) with ⟨k,a,b,l,r1,r2,r3,r4,r5⟩ | ⟨k,q,s,t,ru,ho,e,dm⟩
 ·exact⟨r _ DH DH,r _ DH DH,hp,by omega,r _ DH DH,r _ DH DH,r _ DH DH,r _ DH DH,r _ DH DH⟩
 ·exact⟨r _ DH DH,r _ DH DH,hp,by rw[e];simp,r _ DH DH,r _ DH DH,r _ DH DH,r _ DH DH,r _ DH DH⟩
theorem ZuJ{x:Inst}{n:Nat}{p:zA}(h:PlanG x n p):PlanSz p:=⟨h.serves.sz,λd hd=>by have:=(h.s.ok d hd).2.1;omega⟩
def JQ(x:Inst)(n:Nat)(l:List Int):Int:=X1 x n (qO l) (zU l 3).toNat
def xn(x:Inst)(n:Nat)(l:List Int):zA × Int:=Y2 x n (qO l) (zU l 1).toNat (zU l 2)
theorem ZuK{x:Inst}{n:Nat}(h:InstQ x n):(yd (jC x)).length<=1048576:=by
 have hm:=JO h.m;have h6:=h.six;have hl:=ZaP (ls:=jC x) (Zjv (K:=66) (Zjs h) DH DH λc hc=>by
  rcases Za2 (hm.custs c hc) with ⟨k,a,b,l,-⟩ | ⟨k,q,s,t,ru,ho,e,-⟩
  ·omega
  ·rw[e];simp)
 have hk:(jC x).length<=18:=by simp[jC];have:=h.t.rows;omega
 have:4027*(jC x).length<=4027*18:=B8 _ hk;omega
theorem Zjx:qp []=(zI,2):=by unfold qp;rw[Zaz];rfl
abbrev Za5:Wd:=[111,117,116,99,111,109,101,32,109,97,108,102,111,114,109,101,100,10]
theorem ZuL:Pure prog 21 [.agg [I 1,I 0,I 0,I 0,L ([]:List Int),L ([]:zA)]] (T (bs Za5)):=by
 have hl:Pure prog 59 [.lst 2 [T (bs vg),T (bs Zdq)]] (T (bs Za5)):=XL [vg,Zdq] DI DN;refine zt func21 ntmps21 results21 λS nx hd=>?_
 refine DQ ?_;intro v0
 repeat apply za
 refine zb ?_;refine zj (DQ ?_);refine zn DI ?_;refine DQ ?_;refine zr hl ?_;exact DR hd
theorem ZuM:Pure prog 39 [T (bs []),L ([]:List Int)] (T (bs Za5)):=by
 have h1:=ZtV [] DI [] (by rw[Zjx];decide);rw[Zjx]at h1;have h2:=ZuL;have h3:Pure prog 12 [T (bs []),L ([]:List Int)] (.agg [I 1,I 0,I 0,I 0,L ([]:List Int),L ([]:zA)]):=h1;refine zt func39 ntmps39 results39 λS nx hd=>?_
 refine DQ ?_;refine DQ ?_;refine zr h3 ?_;refine zr h2 ?_;exact DR hd
theorem ZuN:Pure prog 31 [] (B true):=by
 have hr:Pure prog 39 [T (bs []),.sc (.slice none 0 0)] (T (bs Za5)):=λS=>ZkT (.cons Wk.rfl (.cons Wk.nil .nil)) (ZuM S)
 refine zt func31 ntmps31 results31 λS nx hd=>?_
 refine DQ ?_;refine DQ ?_;refine zr hr ?_;exact DR hd
def xF(l:List Int):List Int:=[qO l,zU l 1 % 9,zU l 2 % 21,zU l 3 % 13]
theorem ZuO(l:List Int):Pure prog 32 [L l] (L (xF l)):=by
 have hs:=Zi6 l;unfold xF;generalize qO l=s at *;generalize zU l 1 % 9=a at *;generalize zU l 2 % 21=b at *;generalize zU l 3 % 13=c at *;refine zt func32 ntmps32 results32 λS nx hd=>?_
 refine DQ ?_;refine DQ ?_;refine zr hs ?_;intro v0;refine DQ ?_;exact DR hd
open Go Go.Proofs
theorem Zjy{P:Program}{n:Nat}{F:Nat->PV}{S:Store}{o:Oper}{t e len:Nat}{parts:Array (Nat × Operand)}{cs:List PV}{K:PV->Store->Prop}(id:Nat)(hid:S id=.dead)(ho:o.op=.buildSlice t len parts)(ht:P.underlying t=some (.slice e))(hz:P.cellsOf e=1)(h0:0<len)(h64:len<=64)
  (h:uT P e len (parts.toList.map λx=>(x.1,ev F x.2))=some cs) (hcl:cs.length=len) (hK:∀v,K (.sl id v 1 0 len) (S.set id (.cells v e cs))):PO P qW n o F S K:=by
 intro G hG C w a N st next Q' hnext;have hnd:∀c,o.op≠.defer c:=by intro c hc;rw[ho]at hc;cases hc
 have hpg:(parts.toList.map λx=>(x.1,ev G x.2))=parts.toList.map λx=>(x.1,ev F x.2):=by
  refine AO λx hx=>?_
  rw[hG x.2 (by simp only[ho,Op.operands];simp;exact⟨x.1,by simpa using hx⟩)]
 rw[<-hpg]at h;obtain⟨vs,hrun,hrel,hvs⟩:=Zba (C:=C) (S:=S) (w:=w) ht (λx=>ev G x) a.eval (λx=>st.ev x) h;have hlen:vs.size=len:=by rw[hvs,hz,BS]
 obtain⟨a1,a2⟩:=st.sim.object' (o:=id) (ver:=C.clock) (.clock C hid) e vs cs DH (λi u _ hu=>hrel.2.1 i u hu) (λi p u hp hu=>hrel.2.2 i p u hp hu);have hrun2:(execOp a.eval o).run P w=.ok (.value (.slice (some ⟨w.heap.size,0,none⟩) len len)) (w.alloc (.cells vs e)):=by
  unfold execOp;simp only[ho,Sem.run_bind];have e1:(parts.map λx=>(x.1,a.eval x.2))=(parts.toList.map λx=>(x.1,a.eval x.2)).toArray:=Array.ext' DI;rw[e1,hrun];rfl
 refine yT hnd hrun2 (hnext _ _ _ _ _ (hK C.clock) ?_ a1 a2);have hb1:id<(C.put id C.clock (some (w.heap.size,vs.size))).next/\C.clock<(C.put id C.clock (some (w.heap.size,vs.size))).clock:=by simp only[Ctx.put];omega
 refine .sl ⟨_,_,rfl,Ag _,by unfold jE;omega,by unfold maxLen;omega,λh=>⟨_,_,rfl⟩⟩ hb1 λv0 hv0=>?_
 rw[q11]at hv0;cases hv0;exact⟨Ag _,λ_=>.inr ⟨w.heap.size,vs.size,_,_,by simp[Ctx.put],rfl,λ_=>⟨rfl,by omega⟩,λ_=>rfl⟩⟩
theorem W8{P:Program}{n nx:Nat}{ops:Array Oper}{K:KT}{F:Nat->PV}{S:Store}{obs:List Ob}{o:Oper}{os:List Oper}{p:PV}(h:qL P F (ext S nx obs) o=some (p,ext S nx obs))(hK:XS P qW n nx ops K os (zZ F o.dst p) S obs)(hg:o.guard=none:=by rfl):XS P qW n nx ops K (o :: os) F S obs:=by
 unfold XS;simp only[gd,hg];exact JV h ⟨S,obs,rfl,hK⟩
theorem QY{P:Program}{n nx:Nat}{ops:Array Oper}{K:KT}{F:Nat->PV}{S:Store}{obs:List Ob}{o:Oper}{os:List Oper}{p:PV}(h:wM P F o=some p)(hK:XS P qW n nx ops K os (zZ F o.dst p) S obs)(hg:o.guard=none:=by rfl):XS P qW n nx ops K (o :: os) F S obs:=by
 unfold XS;simp only[gd,hg];exact Vv h ⟨S,obs,rfl,hK⟩
theorem ZdP{P:Program}{n nx:Nat}{ops:Array Oper}{K:KT}{F:Nat->PV}{S:Store}{obs:List Ob}{o:Oper}{os:List Oper}(h:PO P qW n o F (ext S nx obs) (λp S'=>∃S1 obs1,S'=ext S1 nx obs1/\XS P qW n nx ops K os (zZ F o.dst p) S1 obs1))(hg:o.guard=none:=by rfl):XS P qW n nx ops K (o :: os) F S obs:=by
 unfold XS;simp only[gd,hg];exact h
theorem ZuP{S:Store}{nx:Nat}(hd:zW nx S)(l:List Int):Spec prog 32 [L l] S (λq S'=>∃v,q=.sl (nx+1) v 1 0 4/\S'=S.set (nx+1) (.cells v 3 ((xF l).flatMap Enc.enc))):=by
 have hs:=Zi6 l;unfold xF;generalize qO l=s at *;generalize zU l 1 % 9=a at *;generalize zU l 2 % 21=b at *;generalize zU l 3 % 13=c at *;refine ut hd func32 ntmps32 results32 ?_;refine DQ ?_;refine DQ ?_;refine zr hs ?_;intro v0;refine za (Wn DM ?_);simp only[];refine QY DJ ?_;refine W8 (p:=I s) (by simp[xQ,zQ]) ?_;refine QY DJ ?_;refine W8 (p:=I a) (by simp[xQ,zQ]) ?_;refine QY DJ ?_;refine W8 (p:=I b) (by simp[xQ,zQ]) ?_;refine QY DJ ?_;refine W8 (p:=I c) (by simp[xQ,zQ]) ?_;refine ZdP (Zjy (nx+1) (by rw[zQ];rfl) rfl underlying26 DI DH DH (cs:=[I s,I a,I b,I c]) (by simp[uT,Zg]) rfl λv=>⟨S,_,qG _,?_⟩);refine QY DJ ?_;refine zg ⟨_,_,by simp;rfl,⟨v,by simp[zp],rfl⟩,Qj (j:=1) hd DI⟩
open Go Go.Proofs
theorem Zjz(z:Int)(h1:0<=z)(h2:z<=1000000000000000000):Pure prog 100 [I z] (B true):=by
 refine zt func100 ntmps100 results100 λS nx hd=>?_
 refine DQ ?_;refine za (ze [(2,5)] (zo h1 h2) ?_);exact DR hd
theorem ZjA(z:Int)(h0:0<=z)(h:z<=1000000000000000000):Pure prog 62 [I z] (T (bs (zE z))):=by
 have:=JE z.toNat DH
 rwa[C5 h0]at this
theorem ZjB{x:Stop × Nat}:∀{p:zA} {i:Nat},x∈told i p->∃d∈p,∃t∈d,x.1∈t
 | [],_,h=>by simp[told]at h
 | d :: p,i,h=>by
  simp only[told,AB,Al,Bs]at h;rcases h with ⟨s,⟨t,ht,hs⟩,rfl⟩ | h
  ·exact⟨d,by simp,t,ht,hs⟩
  ·obtain⟨d',hd,q⟩:=ZjB h;exact⟨d',by simp[hd],q⟩
theorem ZdQ{S:Store}{nx:Nat}{a b c d e A B:Ob}{more:List Ob}:((ext S nx (a :: b :: c :: d :: e :: more)).set (nx+4) B).set (nx+3) A=ext S nx (a :: b :: c :: A :: B :: more):=by
 rw[yc _ DH DI,yc _ DH DI];simp
theorem ZjC(w:Wd)(hw:w.length<=20)(n:Nat)(hn:n<=1000):Pure prog 59 [.lst 2 [T (bs w),T (bs (zH n))]] (T (bs (zO [w,zH n]++[10]))):=by
 have hq:=we (n:=n) DH;exact XL [w,zH n] DI (by simp[zO];omega)
theorem ZuQ(p:zA)(hp:PlanTold p):Pure prog 63 [.agg [L p]] (.tup [T (bs (yd (uK p))),I 0]):=by
 have hZl:=Ziw hp;have hZ0:yd (uK p)=(zO [ZH,zH p.length]++[10])++yd (p.flatMap Yl):=by unfold uK;rw[Yb];simp
 generalize yd (uK p)=Z at *;have hnum:∀x∈told 0 p,(0<=x.1.c/\x.1.c<=1000000000000000000)/\0<=x.1.q/\x.1.q<=1000000000000000000:=λx hx=>by
  obtain⟨d,hd,t,ht,hs⟩:=ZjB hx;exact hp.s d hd t ht _ hs
 have hn:=hp.n;have hwa:∀(S:Store) (nx vb wx:Nat) (pp:PV) (l m:List UInt8),l.length+m.length<=Z.length->S (nx+3)=.cells vb 113 [pp,.sl (nx+4) wx 1 0 l.length]->(pp=.sc (.pointer none)\/pp=.ptr (nx+3) vb 0)->S (nx+4)=.cells wx 5 (l.map U8)->_:=λS nx vb wx pp l m hl h1 hp h2=>Zdn (S:=S) (id:=nx+3) (v:=vb) (ib:=nx+4) (w0:=wx) (p:=pp) l m h1 hp h2 DH
 have hd0:=JE p.length DH;have hl0:=ZjC ZH DN p.length hn;have hne0:zO [ZH,zH p.length]++[10]≠[]:=DI
 generalize zO [ZH,zH p.length]++[10]=l0 at *;generalize zH p.length=dp at *;refine zt func63 ntmps63 results63 λS nx hd=>?_
 refine DQ ?_;intro v0 v1 v2
 repeat apply za
 refine zb ?_;refine zr (ZgY p) ?_;refine zj (Ja (xs:=(told 0 p).map Jt) (σ:=Unit) (λi s=>i<=(told 0 p).length) [(1,.ptr nx v0 0),(2,.ptr (nx+1) v1 0),(3,.ptr (nx+2) v2 0)] (λ_=>S)
  (λ_=>[.cells v0 30 [L p],.cells v1 9 [T (bs [])],.cells v2 47 [I 0]]) ()
  (ZgZ p DH (λd hd=>by have:=hp.d d hd;omega) (λd hd t ht=>by have:=hp.t d hd t ht;omega)) rfl (by intro x hx;obtain⟨y,_,rfl⟩:=Al.1 hx;rfl) DN DI DI rfl DI DI ?_ ?_)
 ·rintro l i ⟨⟩ more x hi hx;rw[Ai]at hx;obtain⟨y,hy,rfl⟩:=Ao.1 hx;obtain⟨s,d⟩:=y;obtain⟨⟨c1,c2⟩,q1,q2⟩:=hnum _ (Ab hy);have hil:i<(told 0 p).length:=(Ac.1 hy).1;have hc:=Zjz s.c c1 c2;have hq:=Zjz s.q q1 q2;refine jP [] DM DM λK Gc Gh hK hGc hGh X hX0 hX=>?_
  simp -implicitDefEqProofs [hX0,hX,Jt]
  try clear hX0 hX X
  intro v4;refine hK _ _ _ ?_;clear hK hGc hGh;clear K Gc Gh;refine zj (za (ze [(5,21)] trivial ?_));refine qm [(5,21)] hc trivial ?_;refine qm [(5,21)] hq trivial ?_;refine zm DI ?_;refine zh ?_;simp only[js];exact ww () [_] hil rfl DJ
 ·rintro⟨⟩ -;refine DQ ?_;intro vb;refine qQ 3 1 5 1 rfl rfl λwb=>?_
  refine DQ ?_;refine zr hd0 ?_;refine zr hl0 ?_;refine λhsuf=>((hwa _ nx vb wb _ [] l0 (by rw[hZ0];simp) (by rw[zQ];rfl) (.inl rfl) (by rw[zQ];rfl)).mono ?_).v
  rintro _ _ ⟨rfl,rfl⟩;refine⟨_,_,ZdQ,zG hsuf ?_⟩
  repeat apply za
  refine zb ?_;refine zj (zD (λs:Nat × Nat × List UInt8=>s.1<=p.length/\Z=s.2.2++yd ((p.drop s.1).flatMap Yl)) (λ(k,w,c)=>[(1,.ptr nx v0 0),(2,.ptr (nx+1) v1 0),(3,.ptr (nx+2) v2 0),(5,.ptr (nx+3) vb 0),(36,L p),(37,I p.length),(38,I k)]) (λ(k,w,c)=>[.cells v0 30 [L p],.cells v1 9 [T (bs [])],.cells v2 47 [I 0],.cells vb 113 (Yj (nx+3) vb (nx+4) w c.length),.cells w 5 (c.map U8)]) (λs=>p.length-s.1) (0,wb+1,l0) [] (by simp[hZ0]) DI DI ?_);rintro⟨k,w,c⟩ ⟨hk,hZ⟩;simp only at hk hZ ⊢;refine DQ ?_;refine za (zv rfl (λhc=>?_) (λhc=>?_))
  ·simp at hc;obtain⟨d,tl,a1,a2,a3,f0⟩:=zJ rfl p k hc;have hdm:=Ab a1;have hdl:=hp.d d hdm;have hd1:=JE d.length DH;have hl1:=ZjC vk DN d.length hdl;have hZ1:Z=(c++(zO [vk,zH d.length]++[10]))++(yd (d.map xM)++yd ((p.drop (k+1)).flatMap Yl)):=by
    rw[hZ,a2,Az,Zit];unfold Yl;rw[Yb];simp
   generalize zO [vk,zH d.length]++[10]=l1 at *;generalize zH d.length=dd at *;obtain⟨R,hR⟩:∃R,R=yd ((p.drop (k+1)).flatMap Yl):=⟨_,rfl⟩;rw[<-hR]at hZ1;clear hZ;refine zh (za (zj (za (ze [] (zo f0 hc) ?_))));intro v7;refine DQ ?_;refine zr hd1 ?_;refine zr hl1 ?_;refine λhsuf=>((hwa _ nx vb w _ c l1 (by rw[hZ1];simp) (by rw[zQ];rfl) (.inr rfl) (by rw[zQ];rfl)).mono ?_).v
   rintro _ _ ⟨rfl,rfl⟩;obtain⟨c1,hc1⟩:∃c1,c1=c++l1:=⟨_,rfl⟩;rw[<-hc1]at hZ1 ⊢;refine⟨_,_,ZdQ,zG hsuf ?_⟩;refine DQ ?_;refine zj (zD (λs:Nat × Nat × List UInt8=>s.1<=d.length/\Z=s.2.2++(yd ((d.drop s.1).map xM)++R)) (λ(j,w,c)=>[(1,.ptr nx v0 0),(2,.ptr (nx+1) v1 0),(3,.ptr (nx+2) v2 0),(5,.ptr (nx+3) vb 0),(36,L p),(37,I p.length),(38,I k),(50,L d),(51,I d.length),(52,I j)]) (λ(j,w,c)=>[.cells v0 30 [L p],.cells v1 9 [T (bs [])],.cells v2 47 [I 0],.cells vb 113 (Yj (nx+3) vb (nx+4) w c.length),.cells w 5 (c.map U8),.cells v7 39 [L d]]) (λs=>d.length-s.1) (0,w+1,c1) [] (by simp[hZ1]) DI DI ?_);clear hZ1 hc1;rintro⟨j,w,c⟩ ⟨hj,hZj⟩;simp only at hj hZj ⊢;refine DQ ?_;refine za (zv rfl (λhc2=>?_) (λhc2=>?_))
   ·simp at hc2;obtain⟨t,tl2,b1,b2,b3,e2⟩:=zJ rfl d j hc2;have htm:=Ab b1;have htl:=hp.t d hdm t htm;have hts:=hp.s d hdm t htm;have hd2:=JE t.length DH;have hl2:Pure prog 59 [L ((xM t).map bs)] (T (bs (zO (xM t)++[10]))):=XL (xM t) (by rw[Ziu];omega) (by have:=Ziv htl hts;omega);have hZ2:Z=(c++(zO (xM t)++[10]))++(yd ((d.drop (j+1)).map xM)++R):=by
     rw[hZj,b2,AA,Yb];simp
    refine zh (za (zj (za (ze [] (zo e2 hc2) ?_))));intro v9;refine za (Wn DM ?_);simp only[];refine QY DJ ?_;refine W8 (p:=L t) (by simp[xQ,zQ]) ?_;refine QY DJ ?_;refine ZdP (Qf (k:=62) (fs:=[]) (cs:=[]) rfl rfl DI (hd2 S).1 (by exact(hd2 _).2) ?_);rintro _ _ ⟨rfl,rfl⟩;refine⟨_,_,rfl,?_⟩;refine ZdP (Zjy (nx+7) (by rw[zQ];rfl) rfl underlying81 DI DH DH (cs:=[T (bs Zdr),T (bs (zH t.length))]) (by simp[uT,Zg]) rfl λv=>⟨S,_,qG _,?_⟩);refine QY DJ ?_;simp only[]
    repeat apply za
    refine zb ?_;refine zj (zD (λs:Nat × Nat × Ln=>s.1<=t.length/\s.2.2.length=2+2*s.1/\xM t=s.2.2++(t.drop s.1).flatMap λs=>[zE s.c,zE s.q]) (λ(i,w7,ls)=>[(1,.ptr nx v0 0),(2,.ptr (nx+1) v1 0),(3,.ptr (nx+2) v2 0),(5,.ptr (nx+3) vb 0),(36,L p),(37,I p.length),(38,I k),(50,L d),(51,I d.length),(52,I j),(10,.sl (nx+7) w7 1 0 ls.length),(62,L t),(63,I t.length),(64,I i)]) (λ(i,w7,ls)=>[.cells v0 30 [L p],.cells v1 9 [T (bs [])],.cells v2 47 [I 0],.cells vb 113 (Yj (nx+3) vb (nx+4) w c.length),.cells w 5 (c.map U8),.cells v7 39 [L d],.cells v9 42 [L t],.cells w7 9 ((ls.map bs).flatMap Enc.enc)]) (λs=>t.length-s.1) (0,v,[Zdr,zH t.length]) [] (by simp[xM]) DI DI ?_);rintro⟨i,w7,ls⟩ ⟨hi,hll,hT⟩;simp only at hi hll hT ⊢;refine DQ ?_;refine za (zv rfl (λhc3=>?_) (λhc3=>?_))
    ·simp at hc3;obtain⟨s,tl3,s1,s2,s3,-,e3⟩:=el 2 rfl t i hc3;obtain⟨⟨p1,p2⟩,p3,p4⟩:=hts s (Ab s1);have hdc:=ZjA s.c p1 p2;have hdq:=ZjA s.q p3 p4;have hfl:((ls.map bs).flatMap Enc.enc:List PV).length=ls.length:=by rw[j4];simp[Enc.sz]
     have htk:List.take ls.length ((ls.map bs).flatMap Enc.enc:List PV)=(ls.map bs).flatMap Enc.enc:=Af (by rw[hfl];exact Ag _);have hnx:((ls++[zE s.c,zE s.q]).map bs).flatMap Enc.enc=(ls.map bs).flatMap Enc.enc++[T (bs (zE s.c)),T (bs (zE s.q))]:=by rw[List.map_append,Ar];rfl
     have hll2:(ls++[zE s.c,zE s.q]).length=ls.length+2:=DI
     have hT2:xM t=(ls++[zE s.c,zE s.q])++(t.drop (i+1)).flatMap λs=>[zE s.c,zE s.q]:=by rw[hT,s2];simp
     refine zh (za (zj (za (ze [] (zo e3 hc3) ?_))));intro v12;refine zz (some [nx+8]) (Row.pures [0,1,2,3,4,5,6,7] (.alt 8 (Row.pures [9] .done) .stop)) mixed htk ?_;refine zK (hdc) htk ?_;refine zK (hdq) htk ?_;refine⟨by omega,?_⟩;refine zb ?_;exact zq (i+1,w7+1,ls++[zE s.c,zE s.q]) [_] ⟨hc3,by simp only[hll2];omega,hT2⟩ DH (by simp[zu i (by omega),hll2]) rfl (by simp only[hnx];rfl)
    ·simp at hc3;obtain rfl:i=t.length:=DH
     have hT':ls=xM t:=by rw[hT];simp
     clear hT;subst hT';refine zx (yb 7 rfl ?_);obtain⟨c2,hc2'⟩:∃c2,c2=c++(zO (xM t)++[10]):=⟨_,rfl⟩;rw[<-hc2']at hZ2;generalize xM t=ls at *;have hLL:PV.lst ls.length ((ls.map bs).flatMap Enc.enc)=L (ls.map bs):=by unfold L;rw[List.length_map]
     generalize zO ls++[10]=l2 at *;refine ze [] hLL ?_;refine zr hl2 ?_;refine λhsuf=>((hwa _ nx vb w _ c l2 (by rw[hZ2,hc2'];simp) (by rw[zQ];rfl) (.inr rfl) (by rw[zQ];rfl)).mono ?_).v
     rintro _ _ ⟨rfl,rfl⟩;rw[<-hc2'];refine⟨_,_,ZdQ,zG hsuf ?_⟩;refine zb ?_;exact zq (j+1,w+1,c2) [_,_] ⟨hc2,hZ2⟩ DH (by simp[zu j (by omega)]) rfl rfl
   ·simp at hc2;obtain rfl:j=d.length:=DH
    refine zx (zb ?_);exact zq (k+1,w,c) [_] ⟨hc,by rw[hZj,hR];simp[yd]⟩ DH (by simp[zu k (by omega)]) rfl rfl
  ·simp at hc;obtain rfl:k=p.length:=DH
   refine zx ?_;have hZc:c=Z:=by rw[hZ];simp[yd]
   subst hZc;have hne:c≠[]:=by rw[hZ0];simp[hne0]
   refine DQ ?_;refine λhsuf=>((Zdk (id:=nx+3) (v:=vb) (ib:=nx+4) (w0:=w) (p:=.ptr (nx+3) vb 0) c (by rw[zQ];rfl) (by rw[zQ];rfl) hne DH).mono ?_).v
   rintro _ _ ⟨rfl,rfl⟩;rw[yc _ DH DI];refine⟨_,_,rfl,zG hsuf ?_⟩;exact DR hd
open Go Go.Proofs
structure RepTold (r:Rep):Prop where
 b:0<=r.bound/\r.bound<=9223372036854775807
 c:0<=r.cost/\r.cost<=9223372036854775807
 h:0<=r.hold/\r.hold<=9223372036854775807
 n:r.days.length<=1000
 d:∀z∈r.days,0<=z/\z<=9223372036854775807
 p:PlanTold r.plan
theorem ZuR(z:Int)(h0:0<=z/\z<=9223372036854775807):Pure prog 62 [I z] (T (bs (zE z))):=by
 have:=JE z.toNat DH
 rwa[C5 h0.1]at this
theorem Za6(w:Wd)(hw:w.length<=20)(z:Int)(h0:0<=z/\z<=9223372036854775807):Pure prog 60 [T (bs w),I z] (T (bs (zO [w,zE z]++[10]))):=by
 have:=ZsJ w hw z.toNat DH
 rwa[C5 h0.1]at this
theorem ZjD(w v:Wd)(hw:w.length<=20)(hv:v.length<=20):Pure prog 59 [.lst 2 [T (bs w),T (bs v)]] (T (bs (zO [w,v]++[10]))) :=
 XL [w,v] DI (by simp[zO];omega)
theorem X2{S:Store}{nx:Nat}{a d e A B:Ob}{more:List Ob}:((ext S nx (a :: d :: e :: more)).set (nx+2) B).set (nx+1) A=ext S nx (a :: A :: B :: more):=by
 rw[yc _ DH DI,yc _ DH DI];simp
theorem ZuS(a b c:Int)(ds:List Int)(p:zA)(ha:0<=a/\a<=9223372036854775807):Pure prog 21 [.agg [I 3,I a,I b,I c,L ds,L p]] (T (bs (yd [[vg,JD],[ZG,zE a]]))):=by
 have hl:=ZjD vg JD DN DN;have hn:=Za6 ZG DN a ha;have hlen:=Yk (z:=a) (by unfold zP;omega);have he:yd [[vg,JD],[ZG,zE a]]=(zO [vg,JD]++[10])++(zO [ZG,zE a]++[10]):=by simp[yd]
 have hs:=QQ (zO [vg,JD]++[10]) (zO [ZG,zE a]++[10]) (by simp[zO];omega);rw[he];generalize zO [vg,JD]++[10]=z at *;generalize zO [ZG,zE a]++[10]=y at *;refine zt func21 ntmps21 results21 λS nx hd=>?_
 refine DQ ?_;intro v0
 repeat apply za
 refine zb ?_;refine zj (DQ ?_);refine zm DI ?_;refine DQ ?_;refine zm DI ?_;refine DQ ?_;refine zn DI ?_;refine za (zz (some [nx]) (Row.pures [0,1,2,3,4,5,6] .done) mixed hs ?_);refine zK (hl) hs ?_;refine zK (hn) hs ?_;exact DR hd
theorem ZuT(r:Rep)(h4:r.out=4)(h:RepTold r):Pure prog 21 [.agg (WT r)] (T (bs (yd (YZ r)))):=by
 obtain⟨o,bd,co,ho,ds,p⟩:=r;obtain rfl:o=4:=h4;obtain⟨hb,hc,hh,hn,hds,hp⟩:=h;simp only at hb hc hh hn hds hp;have hZ0:yd (YZ ⟨4,bd,co,ho,ds,p⟩)=(zO [vg,ZH]++[10])++((zO [ZG,zE bd]++[10])++((zO [ZaN,zE co]++[10])++((zO [ZaO,zE ho]++[10])++(yd (YY ds)++yd (uK p))))):=by
  unfold YZ;simp[Yb,Zit]
 have hZl:(yd (YZ ⟨4,bd,co,ho,ds,p⟩)).length<=100000100500:=by
  have e1:=Ziw hp;have e2:=ZaP (ls:=YY ds) (m:=64) λl hl=>by
   obtain⟨i,hi,rfl⟩:=Al.1 hl;have q1:=we (n:=i) (by have:=AP.1 hi;omega);have q2:=Yk (z:=ds.getD i 0) (by
    rw[Aa];cases e:ds[i]? with
    | none=>simp;unfold zP;omega
    | some z=>have:=hds z (Ab e);simp;unfold zP;omega)
   generalize zE (ds.getD i 0)=u at *;generalize zH i=v at *;simp[zO];omega
  have e3:(YY ds).length=ds.length:=by simp[YY]
  have b1:=Yk (z:=bd) (by unfold zP;omega);have b2:=Yk (z:=co) (by unfold zP;omega);have b3:=Yk (z:=ho) (by unfold zP;omega);rw[hZ0];simp[zO];omega
 generalize yd (YZ ⟨4,bd,co,ho,ds,p⟩)=Z at *;have hl0:=ZjD vg ZH DN DN;have hnb:=Za6 ZG DN bd hb;have hnc:=Za6 ZaN DN co hc;have hnh:=Za6 ZaO DN ho hh;have hbp:=ZuQ p hp;have hne0:zO [vg,ZH]++[10]≠[]:=DI
 generalize zO [vg,ZH]++[10]=l0 at *;generalize zO [ZG,zE bd]++[10]=l1 at *;generalize zO [ZaN,zE co]++[10]=l2 at *;generalize zO [ZaO,zE ho]++[10]=l3 at *;generalize yd (uK p)=R at *;obtain⟨c1,e1⟩:∃c,c=l0++l1:=⟨_,rfl⟩;obtain⟨c2,e2⟩:∃c,c=c1++l2:=⟨_,rfl⟩;obtain⟨c3,e3⟩:∃c,c=c2++l3:=⟨_,rfl⟩;have hZ1:Z=c1++(l2++(l3++(yd (YY ds)++R))):=by rw[hZ0,e1];simp
 have hZ2:Z=c2++(l3++(yd (YY ds)++R)):=by rw[hZ1,e2];simp
 have hZ3:Z=c3++(yd (YY ds)++R):=by rw[hZ2,e3];simp
 have hwa:∀(S:Store) (nx vb wx:Nat) (pp:PV) (l m:List UInt8),l.length+m.length<=Z.length->S (nx+1)=.cells vb 113 [pp,.sl (nx+2) wx 1 0 l.length]->(pp=.sc (.pointer none)\/pp=.ptr (nx+1) vb 0)->S (nx+2)=.cells wx 5 (l.map U8)->_:=λS nx vb wx pp l m hl h1 hp h2=>Zdn (S:=S) (id:=nx+1) (v:=vb) (ib:=nx+2) (w0:=wx) (p:=pp) l m h1 hp h2 DH
 show Pure _ _ [.agg [I 4,I bd,I co,I ho,L ds,L p]] _
 refine zt func21 ntmps21 results21 λS nx hd=>?_
 refine DQ ?_;intro v0
 repeat apply za
 refine zb ?_;refine zj (DQ ?_);refine zm DI ?_;refine DQ ?_;refine zm DI ?_;refine DQ ?_;refine zm DI ?_;refine DQ ?_;refine zn DI ?_;refine DQ ?_;intro vb;refine qQ 1 1 5 1 rfl rfl λwb=>?_
 refine DQ ?_;refine zr hl0 ?_;refine λhsuf=>((hwa _ nx vb wb _ [] l0 (by rw[hZ0];simp) (by rw[zQ];rfl) (.inl rfl) (by rw[zQ];rfl)).mono ?_).v
 rintro _ _ ⟨rfl,rfl⟩;refine⟨_,_,X2,zG hsuf ?_⟩;refine DQ ?_;refine zr hnb ?_;refine λhsuf=>((hwa _ nx vb (wb+1) _ l0 l1 (by rw[hZ0];simp) (by rw[zQ];rfl) (.inr rfl) (by rw[zQ];rfl)).mono ?_).v
 rintro _ _ ⟨rfl,rfl⟩;rw[<-e1];refine⟨_,_,X2,zG hsuf ?_⟩;refine DQ ?_;refine zr hnc ?_;refine λhsuf=>((hwa _ nx vb (wb+1+1) _ c1 l2 (by rw[hZ1];simp) (by rw[zQ];rfl) (.inr rfl) (by rw[zQ];rfl)).mono ?_).v
 rintro _ _ ⟨rfl,rfl⟩;rw[<-e2];refine⟨_,_,X2,zG hsuf ?_⟩;refine DQ ?_;refine zr hnh ?_;refine λhsuf=>((hwa _ nx vb (wb+1+1+1) _ c2 l3 (by rw[hZ2];simp) (by rw[zQ];rfl) (.inr rfl) (by rw[zQ];rfl)).mono ?_).v
 rintro _ _ ⟨rfl,rfl⟩;rw[<-e3];refine⟨_,_,X2,zG hsuf ?_⟩
 repeat apply za
 refine zb ?_;have hdr:∀k,k<ds.length->((List.range ds.length).drop k).map (λi=>[vk,zH i,zE (ds.getD i 0)])=[vk,zH k,zE (ds.getD k 0)] :: ((List.range ds.length).drop (k+1)).map (λi=>[vk,zH i,zE (ds.getD i 0)]):=λk hk=>by
  rw[AM (by simpa using hk)];simp
 refine zj (zD (λs:Nat × Nat × List UInt8=>s.1<=ds.length/\Z=s.2.2++(yd (((List.range ds.length).drop s.1).map (λi=>[vk,zH i,zE (ds.getD i 0)]))++R)) (λ(k,w,c)=>[(1,.ptr nx v0 0),(3,.ptr (nx+1) vb 0),(44,L ds),(45,I ds.length),(46,I k)]) (λ(k,w,c)=>[.cells v0 32 [I 4,I bd,I co,I ho,L ds,L p],.cells vb 113 (Yj (nx+1) vb (nx+2) w c.length),.cells w 5 (c.map U8)]) (λs=>ds.length-s.1) (0,wb+1+1+1+1,c3) [] (by simp[hZ3,YY]) DI DI ?_);clear hZ1 hZ2 hZ3 e1 e2 e3;rintro⟨k,w,c⟩ ⟨hk,hZ⟩;simp only at hk hZ ⊢;refine DQ ?_;refine za (zv rfl (λhc=>?_) (λhc=>?_))
 ·simp at hc;obtain⟨z,tl,a1,a2,a3,f0⟩:=zJ rfl ds k hc;have hz:=hds z (Ab a1);have hdk:=JE k DH;have hdz:=ZuR z hz;have hgd:ds.getD k 0=z:=by rw[Aa,a1];rfl
  rw[hdr k hc,hgd,Yb]at hZ;have q1:=we (n:=k) DH;have q2:=Yk (z:=z) (by unfold zP;omega);have hln:Pure prog 59 [.lst 3 [T (bs vk),T (bs (zH k)),T (bs (zE z))]] (T (bs (zO [vk,zH k,zE z]++[10]))):=XL [vk,zH k,zE z] DI (by simp[zO];omega);obtain⟨c',e'⟩:∃c',c'=c++(zO [vk,zH k,zE z]++[10]):=⟨_,rfl⟩;have hZ':Z=c'++(yd (((List.range ds.length).drop (k+1)).map (λi=>[vk,zH i,zE (ds.getD i 0)]))++R):=by rw[hZ,e'];simp
  generalize zO [vk,zH k,zE z]++[10]=ln at *;generalize zH k=dk at *;generalize zE z=dz at *;refine zh (za (zj (za (ze [] (zo f0 hc) ?_))));refine zb ?_;refine zr hdk ?_;refine zr hdz ?_;refine zr hln ?_;refine λhsuf=>((hwa _ nx vb w _ c ln (by rw[hZ',e'];simp) (by rw[zQ];rfl) (.inr rfl) (by rw[zQ];rfl)).mono ?_).v
  rintro _ _ ⟨rfl,rfl⟩;rw[<-e'];refine⟨_,_,X2,zG hsuf ?_⟩;refine zb ?_;exact zq (k+1,w+1,c') [] ⟨hc,hZ'⟩ DH (by simp[zu k (by omega)]) rfl rfl
 ·simp at hc;obtain rfl:k=ds.length:=DH
  refine zx ?_;have hZc:Z=c++R:=by rw[hZ,Ba DI];simp[yd]
  clear hZ;have hcn:Z≠[]:=by rw[hZ0];simp[hne0]
  refine DQ ?_;refine zr hbp ?_;refine DQ ?_;refine λhsuf=>((hwa _ nx vb w _ c R (by rw[hZc];simp) (by rw[zQ];rfl) (.inr rfl) (by rw[zQ];rfl)).mono ?_).v
  rintro _ _ ⟨rfl,rfl⟩;rw[<-hZc];refine⟨_,_,X2,zG hsuf ?_⟩;refine DQ ?_;refine λhsuf=>((Zdk (id:=nx+1) (v:=vb) (ib:=nx+2) (w0:=w+1) (p:=.ptr (nx+1) vb 0) Z (by rw[zQ];rfl) (by rw[zQ];rfl) hcn DH).mono ?_).v
  rintro _ _ ⟨rfl,rfl⟩;rw[yc _ DH DI];refine⟨_,_,rfl,zG hsuf ?_⟩;exact DR hd
open Go Go.Proofs Hp
theorem ZjE{x:Inst}{n:Nat}(h:InstQ x n)(b:Int)(h0:(jM x b).2=0):PlanG x n (jM x b).1:=by
 have hA:=h.k.a;obtain⟨v,pr,hv,hp,e,hd,hc⟩:=Zr3 hA h0;have hpl:=ZcS x v b n;refine⟨hA,h.six,by rw[e,hpl],?_⟩;rw[e];intro d hd';obtain⟨r,hr,rfl⟩:=Al.1 hd';obtain⟨k,hk,rfl⟩:=Al.1 hr;exact(ZpK (Zhl hA.h hv k) hA.h.diag b (hd k (AP.1 hk))).2.1
theorem ZjF{x:Inst}{n:Nat}(h:InstQ x n)(seed:Int)(r:Nat)(b:Int)(h0:(Y2 x n seed r b).2=0):PlanG x n (Y2 x n seed r b).1:=by grind[Y2,ZdE,ZjE]
theorem ZuU{x:Inst}{n:Nat}(h:InstQ x n)(l:List Int):Below21 x l (JQ x n l) (xn x n l).1 (xn x n l).2 (QE x (xn x n l).1):=by
 have t1:=XX l 1;have t2:=XX l 2;have t3:=XX l 3;have hn1:=h.t.n1;have hA:=h.k.a;obtain⟨-,-,d3,-⟩:=W5 (JO h.m).dist;have e1:((zU l 1).toNat:Int)=zU l 1:=DH
 have e3:((zU l 3).toNat:Int)=zU l 3:=DH
 have hc:=ZuD (Zuy h) d3 (qO l) (zU l 3).toNat DH;rw[e3]at hc;have hr:=ZtO hA DH (λb h0=>ZjE h b h0) (qO l) (zU l 1).toNat DH (zU l 2) DH (zU l 3);rw[e1]at hr;have hm:=ZjF h (qO l) (zU l 1).toNat (zU l 2);have hf:∀e c:Int,uL e c=0->e=0:=λe c he=>by grind[uL]
 have h6:=h.six;refine⟨hc,hr,λh0=>?_,λh0=>?_,λh0=>?_,λh0=>?_⟩
 ·exact Zqo x (xn x n l).1 (ZuI h) (ZuJ (hm h0))
 ·exact(hm (hf _ _ h0)).cost
 ·exact ZhO x _ (hm (hf _ _ h0)).serves DH λc hc=>(hA.made c hc).fits
 ·have g1:=hm (hf _ _ h0);exact ZhP x _ g1.serves.sz.n λd hd=>(g1.s.ok d hd).1
def uP(x:Inst)(n:Nat)(l:List Int):Rep:=W4 x (JQ x n l) (xn x n l).1 (xn x n l).2 (QE x (xn x n l).1)
theorem ZuV{x:Inst}{n:Nat}(h:InstQ x n)(l:List Int):Pure prog 12 [T (bs (yd (jC x))),L l] (.agg (WT (uP x n l))):=by
 have hz:=Zsg h.t h.m;have:=ZtW (yd (jC x)) (ZuK h) l (bd:=JQ x n l) (p:=(xn x n l).1) (e:=(xn x n l).2) (c:=QE x (xn x n l).1) (by rw[hz]) (by simp_all[ZuU]);rw[hz]at this;exact this
open Go Go.Proofs Hp
theorem ZuW(x:Int):0<=QT x/\QT x<=127:=by
 have key:∀z:Int,0<=bits BinOp.and IntKind.i64 z 127/\bits BinOp.and IntKind.i64 z 127<=127:=λz=>by
  show 0<=IntKind.i64.wrap ((BitVec.ofInt 64 z &&& BitVec.ofInt 64 127).toNat:Int)/\IntKind.i64.wrap ((BitVec.ofInt 64 z &&& BitVec.ofInt 64 127).toNat:Int)<=127
  have:(BitVec.ofInt 64 z &&& BitVec.ofInt 64 127).toNat<=127:=by rw[BitVec.toNat_and];exact Nat.and_le_right
  rw[AC];omega
 exact key _
theorem ZjG(ps:List Nat):∀k,0<=uN ps k/\uN ps k<=127
 | 0=>by simp[uN]
 | k+1=>by
  have:=ZjG ps k;have:=ZuW (ps.getD k 0);unfold uN ZaY;split<;>omega
theorem ZuX{c:Cust}(h:CustFits c){n cap:Int}(h1:1<=n)(hn:n<=60):0<=vS c n cap/\vS c n cap<=127:=by
 unfold vS;split
 ·exact ZjG _ _
 ·split
  ·omega
  ·split
   ·omega
   ·rename_i hm;have hr:=h.rate;have hs:=h.start;have hw:0<=ZK c n/\ZK c n<=1000000000000:=by
     have e1:0<=c.rate*n/\c.rate*n<=2147483648*60:=⟨CK DH DH,CL DH hn DH DH⟩;have e2:W (c.rate*n)=c.rate*n:=wr _ DH DH;have e3:W (c.rate*n-c.start)=c.rate*n-c.start:=wr _ DH DH;unfold ZK qP;rw[e2,e3];split<;>omega
    generalize ZK c n=w at *;have hc:0<=Y3 w (je cap c.size):=by
     generalize je cap c.size=m at *;have e1:0<=w.tdiv m/\w.tdiv m<=w:=by
      rw[BN hw.1];exact⟨Int.ediv_nonneg hw.1 DH,Int.ediv_le_self _ hw.1⟩
     have e2:W (w.tdiv m)=w.tdiv m:=wr _ DH DH;have e3:W (w.tdiv m+1)=w.tdiv m+1:=wr _ DH DH;unfold Y3;rw[e2,e3];split<;>omega
    generalize Y3 w (je cap c.size)=z at *;unfold je;split<;>omega
theorem ZjH{x:Inst}(h:qt x)(c:Nat):∀k,0<=uO x c k/\uO x c k<=2147483648
 | 0=>h _ _
 | k+1=>by
  have:=ZjH h c k;have:=h (k:Int) (c:Int);unfold uO je;split
  ·split<;>omega
  ·omega
theorem ZjI{f:Nat->Int}:∀k,(∀i,i<k->0<=f i)->0<=wh f k
 | 0,_=>by simp[wh]
 | k+1,h=>by
  have:=ZjI k λi hi=>h i DH
  have:=h k DH;unfold wh wE;split
  ·omega
  ·split<;>omega
theorem ZjJ{x:Inst}{n:Nat}(h:InstQ x n)(l:List Int):0<=JQ x n l/\JQ x n l<=9223372036854775807:=by
 have hA:=h.k.a;obtain⟨-,-,d3,-⟩:=W5 (JO h.m).dist;have hb:0<=QW x:=ZjI _ λi hi=>by
  have hc:x.cust.getD i default∈x.cust:=by rw[Aa,Ae hi];exact Bd hi
  have h1:=h.t.n1;have h2:=hA.n60;have hd:=hA.days;have e1:=ZuX (hA.made _ hc).fits (n:=x.days) (cap:=x.cap) DH DH;have e2:0<=(xD x).getD i 0/\(xD x).getD i 0<=2147483648:=by
   have:(xD x).getD i 0=uO x (i+1) (x.cust.length+1):=by unfold xD;simp[Aa,hi]
   rw[this];exact ZjH d3 _ _
  generalize vS (x.cust.getD i default) x.days x.cap=f at *;generalize (xD x).getD i 0=g at *;have e3:0<=g*f/\g*f<=2147483648*127:=⟨CK DH DH,CL DH DH DH DH⟩;have e4:W (g*f)=g*f:=wr _ DH DH;rw[e4];exact e3.1
 have h64:zP (QW x):=by
  unfold QW;cases x.cust.length with
  | zero=>exact W6
  | succ k=>exact ZdG _ _
 have hv:∀a b,zP (QX x n a b):=λa b=>ZdG _ _
 unfold JQ X1 XY;generalize xl x _=a;generalize (xO x n _ _).i=b;have:=hv a b;unfold zP at this h64;unfold qP;split<;>omega
theorem ZuY{x:Inst}{n:Nat}{p:zA}(h:PlanG x n p):PlanTold p:=by
 have h6:=h.six;have h60:=h.a.n60;have hd:=λd hd=>QN (x:=x) DH (h.may d hd)
 refine⟨by rw[h.len];omega,λd q=>by have:=hd d q;omega,λd q t ht=>?_,λd q t ht s hs=>?_⟩
 ·have:=(List.sublist_flatten_of_mem ht).length_le;have:=hd d q;omega
 ·have:=Zau (h.may d q) s (Bs.2 ⟨t,ht,hs⟩);simp[jh]at this;omega
theorem ZuZ{x:Inst}{n:Nat}(h:InstQ x n):∀c∈x.cust,CustSm c:=λc hc=>by
 rcases Za2 ((JO h.m).custs c hc) with ⟨k,a,b,l,r1,r2,r3,r4,r5⟩ | ⟨k,q,s,t,ru,ho,e,dm⟩
 ·exact⟨by omega,by omega,by omega⟩
 ·exact⟨by omega,by omega,by omega⟩
theorem Zu0{x:Inst}{n:Nat}(h:InstQ x n)(l:List Int):RepTold (uP x n l):=by
 have hb:=ZjJ h l;have hA:=h.k.a;have h6:=h.six;unfold uP W4;split
 ·rename_i hf;have he:(xn x n l).2=0:=by
   unfold uL at hf;split at hf
   ·assumption
   ·rename_i q;exact absurd hf q
  have g:=ZjF h (qO l) (zU l 1).toNat (zU l 2) he;obtain⟨-,-,d3,-⟩:=W5 (JO h.m).dist;have hsm:=ZuZ h;have hlen:=g.len;have h60:=hA.n60;have hh:=Zde hsm (xn x n l).1 x.cust.length;have hce:=Zr2 d3 hsm DH (p:=(xn x n l).1) (by show (Y2 x n _ _ _).1.length<=1000;omega) g.may;have hcn:=Zdf d3 (xn x n l).1 λd hd=>by have:=QN (x:=x) DH (g.may d hd);omega
  have hci:zP (jW x (xn x n l).1):=Y7 _;have hcd:∀d∈(xn x n l).1,0<=W (yn x d)/\W (yn x d)<=9223372036854775807:=λd hd=>by
   have:=QN (x:=x) DH (g.may d hd);have h3:=Zcl d3 d;have:W (yn x d)=yn x d:=wr _ DH DH;omega
  refine⟨hb,?_,?_,?_,?_,ZuY g⟩
  ·unfold zP at hci
   show 0<=jW x (xn x n l).1/\jW x (xn x n l).1<=9223372036854775807
   omega
  ·have:W (jK x (xn x n l).1 x.cust.length)=jK x (xn x n l).1 x.cust.length:=wr _ DH DH
   show 0<=W _/\W _<=_
   omega
  ·show (xA x _).length<=1000
   unfold xA;rw[List.length_map]
   show (Y2 x n _ _ _).1.length<=1000
   omega
  ·intro z hz;obtain⟨d,hd,rfl⟩:=Al.1 hz;exact hcd d hd
 ·exact⟨hb,by simp,by simp,by simp,by simp,⟨by simp,by simp,by simp,by simp⟩⟩
theorem Zu1{x:Inst}{n:Nat}(h:InstQ x n)(l:List Int):Pure prog 21 [.agg (WT (uP x n l))] (T (bs (yd (YZ (uP x n l))))):=by
 have ht:=Zu0 h l;have hb:=ZjJ h l;unfold uP W4 at ht ⊢;split at ht
 ·rename_i hf;rw[if_pos hf];exact ZuT _ rfl ht
 ·rename_i hf;rw[if_neg hf];exact ZuS _ _ _ _ _ hb
theorem ZjK{x:Inst}{n:Nat}(h:InstQ x n)(l:List Int):Pure prog 39 [T (bs (yd (jC x))),L l] (T (bs (yd (YZ (uP x n l))))):=by
 have h1:=ZuV h l;have h2:=Zu1 h l;generalize yd (YZ (uP x n l))=z at *;generalize yd (jC x)=t at *;generalize uP x n l=r at *;refine zt func39 ntmps39 results39 λS nx hd=>?_
 refine DQ ?_;refine DQ ?_;refine zr h1 ?_;refine zr h2 ?_;exact DR hd
open Go Go.Proofs
def X3(C:Ctx)(w:World)(o:Nat)(x:Ob):Ob :=
 match x with
 | .dead=>.dead
 | .cells v e cs=>.cells v e (match C.loc o with
  | none=>[]
  | some (b,_)=>match w.heap[b]? with
   | some (.cells c _ _)=>(c.toList.take cs.length).map .sc
   | _=>[])
 | .map v _=>.map v (match C.loc o with
  | none=>[]
  | some (b,_)=>match w.heap[b]? with
   | some (.map ms _)=>ms.toList.map λm=>(m.key,.sc m.val)
   | _=>[])
def wJ(C:Ctx)(w:World)(S:Store):Store:=λo=>X3 C w o (S o)
section
variable {C:Ctx} {S:Store} {w:World}
theorem ZdR(o:Nat):(wJ C w S o).ver=(S o).ver:=by unfold wJ X3;cases S o<;>rfl
theorem JR(o:Nat):wJ C w S o=.dead<->S o=.dead:=by
 unfold wJ X3;cases S o<;>simp
theorem ZjL(C':Ctx)(b:Nat):C'.M (wJ C w S) b<->C'.M S b :=
 ⟨λ⟨o,k,h1,h2⟩=>⟨o,k,λh=>h1 ((JR o).2 h),h2⟩,λ⟨o,k,h1,h2⟩=>⟨o,k,λh=>h1 ((JR o).1 h),h2⟩⟩
theorem Zu2:Step C S w C (wJ C w S) w :=
 ⟨rfl,⟨rfl,Ag _⟩,rfl,Ag _,Ag _,Ag _,λb _ hb=>⟨rfl,λh=>hb ((ZjL C b).1 h)⟩,λo v1 hv=>.inr ⟨v1,by rw[<-ZdR (C:=C) (w:=w)];exact hv,Ag _,λ_=>rfl⟩⟩
theorem ZdS(hS:Sim C S w){o v e:Nat}{cs:List PV}(h:S o=.cells v e cs):(C.loc o=none/\cs=[]/\wJ C w S o=.cells v e [])\/∃(b k:Nat) (c:Array Value),C.loc o=some (b,k)/\w.heap[b]?=some (.cells c e (0,0))/\wJ C w S o=.cells v e ((c.toList.take cs.length).map .sc)/\c.size=k/\cs.length<=k /\
  (∀(i:Nat) (v:Value),i<cs.length->c[i]?=some v->v.oneCell'=true)/\∀(i:Nat) (p:PV) (u:Value),cs[i]?=some p->c[i]?=some u->Rel C S w p u:=by
 rcases hS.cells o v e cs h with ⟨h1,h2⟩ | ⟨b,k,c,h1,h2,h3,h4,h5,h6⟩
 ·exact .inl ⟨h1,h2,by unfold wJ X3;rw[h];simp only[h1]⟩
 ·exact .inr ⟨b,k,c,h1,h2,by unfold wJ X3;rw[h];simp only[h1,h2],h3,h4,h5,h6⟩
theorem ZdT(hS:Sim C S w){o v:Nat}{es:List (Value × PV)}(h:S o=.map v es):∃(b k:Nat) (ms:Array MapEntry) (cl:Nat),C.loc o=some (b,k)/\w.heap[b]?=some (.map ms cl)/\wJ C w S o=.map v (ms.toList.map λm=>(m.key,.sc m.val))/\es.length=ms.size /\
  (∀(i:Nat) (e:Value × PV) (m:MapEntry),es[i]?=some e->ms[i]?=some m->m.key=e.1/\Rel C S w e.2 m.val):=by
 obtain⟨b,k,ms,cl,h1,h2,h3,h4⟩:=hS.maps o v es h;exact⟨b,k,ms,cl,h1,h2,by unfold wJ X3;rw[h];simp only[h1,h2],h3,h4⟩
theorem Zu3(hS:Sim C S w):Sim C (wJ C w S) w:=by
 refine⟨λo ho=>hS.lt o λh=>ho ((JR o).2 h),λo v hv=>hS.clk o v (by rw[<-ZdR (C:=C) (w:=w)];exact hv),λo o' b k k' h1 h2=>hS.dist o o' b k k' (λh=>h1 ((JR o).2 h)) (λh=>h2 ((JR o').2 h)),?_,?_⟩
 ·intro o v e cs h;cases hs:S o with
  | dead=>rw[(JR o).2 hs]at h;cases h
  | map v es=>obtain⟨b,k,ms,cl,h1,h2,h3,h4,h5⟩:=ZdT hS hs;rw[h3]at h;cases h
  | cells v2 e2 ds =>
   rcases ZdS hS hs with ⟨h1,h2,h3⟩ | ⟨b,k,c,h1,h2,h3,h4,h5,h6,h7⟩
   ·rw[h3]at h;cases h;exact .inl ⟨h1,rfl⟩
   ·rw[h3]at h;cases h;have hl:((c.toList.take ds.length).map PV.sc).length=ds.length:=DL
    refine .inr ⟨b,k,c,h1,h2,h4,by rw[hl];exact h5,λi v hi hv=>h6 i v (by rw[hl]at hi;exact hi) hv,λi p u hp hu=>?_⟩;rw[Ai]at hp;obtain⟨x,hx,rfl⟩:=Ao.1 hp;rw[By]at hx;split at hx
    ·rw[Array.getElem?_toList,hu]at hx;cases hx;exact .sc _
    ·cases hx
 ·intro o v es h;cases hs:S o with
  | dead=>rw[(JR o).2 hs]at h;cases h
  | cells v2 e2 ds =>
   rcases ZdS hS hs with ⟨h1,h2,h3⟩ | ⟨b,k,c,h1,h2,h3,_⟩<;>(rw[h3]at h;cases h)
  | map v2 es2 =>
   obtain⟨b,k,ms,cl,h1,h2,h3,h4,h5⟩:=ZdT hS hs;rw[h3]at h;cases h;refine⟨b,k,ms,cl,h1,h2,by simp,λi e m he hm=>?_⟩;rw[Ai,Array.getElem?_toList,hm]at he;cases he;exact⟨rfl,.sc _⟩
end
open Go Go.Proofs
theorem ZjM{P:Program}{f:FuncId}{pre post:List PV}{u:Value}{S:Store}{id ver et n:Nat}{cs:List PV}(hp:Pure P f (pre++.lst n cs :: post) (.sc u))(hS:S id=.cells ver et cs)(hn:n=cs.length):Spec P f (pre++.sl id ver 1 0 n :: post) S (λq S'=>q=.sc u/\S'=S):=by
 refine⟨(hp S).1,λC w vs hC hl hr=>?_⟩;obtain⟨T,hT⟩:∃T,T=S.set id .dead:=⟨_,rfl⟩;have hTid:T id=.dead:=by rw[hT];exact q11 _ _ _
 have hTo:∀o,o≠id->T o=S o:=λo ho=>by rw[hT];exact q10 _ _ _ _ ho
 have hk:∀o,T o=S o\/T o=.dead:=λo=>by
  by_cases h:o=id
  ·subst h;exact .inr hTid
  ·exact .inl (hTo o h)
 have hTS:∀o,T o≠.dead->S o≠.dead:=λo h=>by
  rcases hk o with q | q
  ·rwa[q]at h
  ·exact absurd q h
 obtain⟨s1,t1⟩:=hC.kill hk;have s2:=Zu3 s1;have t2:Step C T w C (wJ C w T) w:=Zu2;have t3:=t1.trans t2;refine((hp (wJ C w T)).2 C w vs s2 (by simpa using hl) (λi p v hi hv=>?_)).mono ?_
 ·by_cases h1:i=pre.length
  ·subst h1;rw[Aj (Ag _),Bp]at hi;cases hi;have:=Wj hC hS hTid hTS t1 (hr pre.length (.sl id ver 1 0 n) v DI hv);have e:qf id ver cs (.sl id ver 1 0 n)=.lst n cs:=by simp[qf,hn]
   rw[e]at this;exact this.mono t2
  ·refine(hr i p v ?_ hv).mono t3
   by_cases h2:i<pre.length
   ·rw[Ap h2]at hi ⊢;exact hi
   ·rw[Aj DH]at hi ⊢;obtain⟨k,hk⟩:∃k,i-pre.length=k+1:=⟨i-pre.length-1,by omega⟩;rw[hk]at hi ⊢;exact hi
 rintro e w' ⟨p,v,S',C',rfl,⟨rfl,rfl⟩,hv,hs,ht⟩;have hloc:∀o,T o≠.dead->(T o).ver≠none->C'.loc o=C.loc o:=λo h h0=>by
  cases e:(T o).ver with
  | none=>exact absurd e h0
  | some v1 =>
   have e1:(wJ C w T o).ver=some v1:=by rw[ZdR];exact e
   rcases ht.vers o v1 e1 with (q | q) | ⟨v0,q1,q2,q3⟩
   ·have:=s1.lt o h;omega
   ·have:=s1.clk o v1 e;omega
   ·rw[e1]at q1;cases q1;exact q3 rfl
 have st:Step C S w ⟨C.loc,C'.next,C'.clock⟩ S w':=⟨ht.os,ht.tape,ht.output,ht.size,ht.next,ht.clock,λb hb hM=>⟨(ht.blocks b hb (t3.blocks b hb hM).2).1,hM⟩,λo v1 h=>.inr ⟨v1,h,Ag _,λ_=>rfl⟩⟩;cases hv;refine⟨.sc u,u,S,⟨C.loc,C'.next,C'.clock⟩,rfl,⟨rfl,rfl⟩,.sc _,?_,st⟩;refine⟨λo h=>Bc (hC.lt o h) ht.next,λo v h=>Bc (hC.clk o v h) ht.clock,hC.dist,?_,?_⟩
 ·intro o v e ds ho;rcases hC.cells o v e ds ho with q | ⟨b,k,c,g1,g2,g3,g4,g5,g6⟩
  ·exact .inl q
  by_cases hoi:o=id
  ·subst hoi;have hM:¬C.M (wJ C w T) b:=by
    rw[ZjL];rintro⟨i,k2,hi,hl2⟩;have:i=o:=hC.dist i o b k2 k (hTS i hi) (by rw[ho];simp) hl2 g1;subst this;exact hi hTid
   exact .inr ⟨b,k,c,g1,(ht.blocks b (qi g2) hM).1.trans g2,g3,g4,g5,λi p v hp hv=>(g6 i p v hp hv).mono st⟩
  ·have hTc:=(hTo o hoi).trans ho;have hlo:=hloc o (by rw[hTc];simp) (by rw[hTc];simp[Ob.ver]);rcases ZdS s1 hTc with ⟨z1,_⟩ | ⟨b',k',c',z1,z2,z3,_⟩
   ·rw[z1]at g1;cases g1
   rw[g1]at z1;cases z1;rw[g2]at z2;cases z2;rcases hs.cells o _ _ _ z3 with ⟨y1,_⟩ | ⟨b2,k2,c2,y1,y2,y3,y4,y5,y6⟩
   ·rw[hlo,g1]at y1;cases y1
   rw[hlo,g1]at y1;cases y1;have hlen:((c.toList.take ds.length).map PV.sc).length=ds.length:=DL
   rw[hlen]at y5;refine .inr ⟨_,_,c2,g1,y2,y3,g4,y5,λi p v hp hv=>?_⟩;have hi:i<ds.length:=(Ac.1 hp).1;have hc:c[i]?=some v:=by
    have hci:i<c.size:=DH
    have:=y6 i (.sc c[i]) v (by rw[Ai,AJ hi,Array.getElem?_toList,AK hci];rfl) hv;cases this;exact AK hci
   exact(g6 i p v hp hc).mono st
 ·intro o v es ho;obtain⟨b,k,ms,cl,g1,g2,g3,g4⟩:=hC.maps o v es ho;have hoi:o≠id:=by rintro rfl;rw[hS]at ho;cases ho
  have hTc:=(hTo o hoi).trans ho;have hlo:=hloc o (by rw[hTc];simp) (by rw[hTc];simp[Ob.ver]);obtain⟨b',k',ms',cl',z1,z2,z3,_⟩:=ZdT s1 hTc;rw[g1]at z1;cases z1;rw[g2]at z2;cases z2;obtain⟨b2,k2,ms2,cl2,y1,y2,y3,y4⟩:=hs.maps o _ _ z3;rw[hlo,g1]at y1;cases y1;have hsz:ms.size=ms2.size:=by simpa using y3
  refine⟨_,_,ms2,cl2,g1,y2,by omega,λi e m he hm=>?_⟩;have hi:i<ms.size:=by have:=(Ac.1 he).1;omega
  obtain⟨q1,q2⟩:=y4 i (ms[i].key,.sc ms[i].val) m (by rw[Ai,Array.getElem?_toList,AK hi];rfl) hm;obtain⟨r1,r2⟩:=g4 i e ms[i] he (AK hi);generalize hmv:m.val=mv at q2 ⊢;cases q2;exact⟨q1.trans r1,r2.mono st⟩
open Go Go.Proofs Hp
theorem Zu4(x:Inst)(n:Nat)(l:List Int)(m:Int):uP x n (xF l++[m])=uP x n (xF l):=by
 have e0:qO (xF l++[m])=qO (xF l):=rfl;have e1:zU (xF l++[m]) 1=zU (xF l) 1:=rfl;have e2:zU (xF l++[m]) 2=zU (xF l) 2:=rfl;have e3:zU (xF l++[m]) 3=zU (xF l) 3:=rfl;unfold uP JQ xn;rw[e0,e1,e2,e3]
theorem Zu5(x:Inst)(l:List Int)(m:Int)(hx:InstOk x):Pure prog 8 [.agg (zy x),L l,I m] (B true):=by
 have hlv:=ZuN;have hG:=ZlK x hx;have hNu:=ZuO l;have hNo:=λS nx obs=>ZuP (S:=ext S nx obs) (nx:=nx+obs.length) jF l
 obtain⟨n,hn⟩:∃n:Nat,(yF x).days=n:=⟨(yF x).days.toNat,by have:=WL x;omega⟩;have hQ:=Zun x hn;have hPr:=ZuH (Zjs hQ);have hR1:=ZjK hQ (xF l);have hR2:=ZjK hQ (xF l++[m]);rw[Zu4]at hR2;have hs5:L (xF l++[m])=.lst 5 [I (qO l),I (zU l 1 % 9),I (zU l 2 % 21),I (zU l 3 % 13),I m]:=rfl;have hsl:L (xF l)=.lst 4 [I (qO l),I (zU l 1 % 9),I (zU l 2 % 21),I (zU l 3 % 13)]:=rfl;have hsm:(xF l).flatMap Enc.enc=[I (qO l),I (zU l 1 % 9),I (zU l 2 % 21),I (zU l 3 % 13)]:=rfl;rw[hs5]at hR2;rw[hsl]at hR1 hNu;rw[hsm]at hNo;clear hs5 hsl hsm;generalize yd (YZ (uP (yF x) n (xF l)))=z at *;generalize yd (jC (yF x))=tx at *;generalize yF x=y at *;generalize qO l=s0 at *;generalize zU l 1 % 9=a1 at *;generalize zU l 2 % 21=a2 at *;generalize zU l 3 % 13=a3 at *;have hL1:=λ(S:Store) (id v:Nat) (h:S id=.cells v 3 [I s0,I a1,I a2,I a3])=>ZjM (pre:=[T (bs tx)]) (post:=[]) (n:=4) hR1 h rfl
 have hL2:=λ(S:Store) (id v:Nat) (h:S id=.cells v 3 [I s0,I a1,I a2,I a3,I m])=>ZjM (pre:=[T (bs tx)]) (post:=[]) (n:=5) hR2 h rfl
 clear hQ hn hx;refine zt func8 ntmps8 results8 λS nx hd=>?_
 refine DQ ?_;intro v0;refine DQ ?_;refine zr hG ?_;refine zr hPr ?_;refine DQ ?_;refine λhsuf=>((hNo S nx _).mono ?_).v
 rintro _ _ ⟨v2,rfl,rfl⟩;refine⟨S,_,Xb 1 _,?_⟩;simp only[Ad,Ah,Nat.reduceAdd,Nat.add_assoc,List.replicate,List.cons_append,AT];refine zG hsuf ?_;refine DQ ?_;refine λhsuf=>((hL1 _ (nx+2) v2 (by rw[zQ];rfl)).mono ?_).v
 rintro _ _ ⟨rfl,rfl⟩;refine⟨_,_,rfl,zG hsuf ?_⟩;refine DQ ?_;refine λhsuf=>((hL2 _ (nx+2) (v2+1) (by rw[zQ];rfl)).mono ?_).v
 rintro _ _ ⟨rfl,rfl⟩;refine⟨_,_,rfl,zG hsuf ?_⟩;refine za (jP [(3,28),(11,36)] DM DM λK Gc Gh hK hGc hGh X hX0 hX=>?_);simp -implicitDefEqProofs [hX0,hX,qV]
 try clear hX0 hX X
 refine hGc _ _ _ _ _ _ _ λhsuf=>((hNu _).mono ?_).v
 rintro _ _ ⟨rfl,rfl⟩;refine⟨_,_,rfl,?_⟩;clear hGc hGh;clear Gc Gh;refine jZ hsuf (D:=[(3,28),(11,36)]) DM λGc Gh hGc hGh X hX0 hX=>?_
 simp -implicitDefEqProofs [hX0,hX,qV]
 try clear hX0 hX X
 refine hGc _ _ _ _ _ _ _ λhsuf=>((hR1 _).mono ?_).v
 rintro _ _ ⟨rfl,rfl⟩;refine⟨_,_,rfl,?_⟩;clear hGc hGh;clear Gc Gh;refine jZ hsuf (D:=[(3,28),(11,36)]) DM λGc Gh hGc hGh X hX0 hX=>?_
 simp -implicitDefEqProofs [hX0,hX,qV]
 try clear hX0 hX X
 refine hGc _ _ _ _ _ _ _ λhsuf=>((hlv _).mono ?_).v
 rintro _ _ ⟨rfl,rfl⟩;refine⟨_,_,rfl,?_⟩;clear hGc hGh;clear Gc Gh;refine jZ hsuf (D:=[(3,28),(11,36)]) DM λGc Gh hGc hGh X hX0 hX=>?_
 simp -implicitDefEqProofs [hX0,hX,qV]
 try clear hX0 hX X
 refine hK _ _ _ ?_;clear hK hGc hGh;clear K Gc Gh;exact DR hd
end Go.Proofs.YtcocagkbfpgmiaaGreatDoor.Pv
