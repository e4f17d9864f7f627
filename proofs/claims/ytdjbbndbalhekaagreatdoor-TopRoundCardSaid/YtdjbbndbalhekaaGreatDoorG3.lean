/- Part of a proof, packed. -/
import Derived.Test.YtdjbbndbalhekaaGreatDoorG2
open Go.Proofs.Tryz
set_option linter.defProp false
set_option maxRecDepth 100000
set_option maxHeartbeats 3200000
namespace Go.Proofs.YtdjbbndbalhekaaGreatDoor.Pv
open Go
def oq{vs:Array Value}(h:2=vs.size):∃u v,vs=#[u,v]:=by
 match vs,h with
 |⟨[u,v]⟩,_=>simp
variable {C:Ctx}{S:Store}{w:World}
def Nc{v:Value}(h:Rel C S w (.sc (.slice none 0 0)) v):v=.slice none 0 0:=by cases h;rfl
def Nd(n:Nat)(h0:0<n)(hn:n<=1048576)(S:Store)(nx:Nat)(g:yd nx S):
  SP 361 [.sc (.slice none 0 0),I n] S (λp S'=>∃v,p=.sl nx v 2 0 0/\S'=S.set nx (.cells v 101 [])):=by
 refine⟨qL func361 EG rfl,?_⟩;intro C w vs h hl d;obtain⟨u,v,rfl⟩:=oq hl;obtain rfl:=Nc (d 0 _ u rfl rfl);obtain rfl:=Xz (d 1 _ v rfl rfl);obtain⟨i0,a⟩:=Cj.1 fS;have f:=nm;have hc:=fR;have hb:=nk;simp only[Program.zeroOf,Program.cellsOf,Program.bytesOf',a,Cl,AR,Option.getD_some,Option.some.injEq]at f hc hb;refine(slices_Grow_stop i0 _ a f EA n w h0 (by rw[hb];omega) EA).mono ?_;rintro e w' ⟨rfl,rfl⟩;have b:Fresh C S nx C.clock:=.clock C (g nx (Af _));obtain⟨j,k⟩:=h.drew;obtain⟨l,m⟩:=j.object' b 101 ((#[]:Array Value)++Builtin.zeroCells (Value.agg #[.int .i64 0,.int .i64 0]).cells (0+n-0)++Builtin.zeroCells (Value.agg #[.int .i64 0,.int .i64 0]).cells (grownCap w (0+n) 0 101-(0+n))) [] EB (λi v hi=>by simp at hi) (λi p v o=>by simp at o);have c:=grownCap_ge w (0+n) 0 101;simp only[A3]at c;refine⟨_,_,_,_,rfl,⟨C.clock,rfl,rfl⟩,VM C S w _ _ _ _ _ _ _ _ rfl (BO _) (BO _) (grownCap_le_maxLen w _ _ _ (by unfold maxLen;omega)) ?_,l,k.trans m⟩;grind[size_zeroCells,Value.cells]
def Nf(ls:List (List Stop))(g:ls.length<=1048576)(h0:0<ls.flatten.length)(hn:ls.flatten.length<=1048576):PP 341 [L ls] (L ls.flatten):=by
 refine zt func341 ntmps341 results341 λS nx h=>?_;refine EK ?_;refine EK ?_;repeat apply za
 refine zb ?_;refine zj (zC (λs:Nat × Nat=>s.1<=ls.length/\s.2=(ls.take s.1).flatten.length) (λ(k,n)=>[(0,L ls),(3,I (n:Int)),(9,L ls),(10,I ls.length),(11,I k)]) (λ_=>[]) (λs=>ls.length-s.1) (0,0) [] ⟨by simp,by simp⟩ EB EB ?_);rintro⟨k,n⟩ ⟨d,ho⟩;simp only at d ho ⊢;refine EK ?_;refine za (zv rfl (λhc=>?_) (λhc=>?_))
 .simp at hc;obtain⟨t,tl,i,j,a3,e⟩:=zF rfl ls k hc;have a:(ls.take (k+1)).flatten.length=n+t.length:=by rw[a3,ho];simp
  have b:(ls.take (k+1)).flatten.length<=ls.flatten.length:=by
   conv=>rhs;rw[<-List.take_append_drop (k+1) ls,List.flatten_append,Ak]
   omega
  have l:IntKind.i64.wrap ((n:Int)+(t.length:Nat))=(n:Int)+(t.length:Nat):=wr _ EA EA;have w2:¬((n:Int)+(t.length:Nat)<0):=EA;refine zh (aA (aF [] (zn e hc) ?_));refine aF [] l ?_;refine aF [] w2 ?_;refine zk rfl (zh (zb ?_));exact zr (k+1,n+t.length) [] ⟨hc,a.symm⟩ EA (by simp[zu k EA]) rfl EB
 simp at hc;obtain rfl:k=ls.length:=EA;rw[Ah]at ho;rw[<-ho]at h0;have f:n<=1048576:=EA;clear ho;refine zx (EK ?_);refine λc=>((Nd n h0 f _ _ xM).mono ?_).v;rintro _ _ ⟨v1,rfl,rfl⟩;refine⟨_,_,jE _,zO c ?_⟩;repeat apply za
 refine zb ?_;refine zj (zC (λs:Nat × List Stop × Nat=>s.1<=ls.length/\s.2.1=(ls.take s.1).flatten) (λ(k,out,v)=>[(6,.sl nx v 2 0 out.length),(25,L ls),(26,I ls.length),(27,I k)]) (λ(k,out,v)=>[.cells v 101 (out.flatMap Enc.enc)]) (λs=>ls.length-s.1) (0,[],v1) [] ⟨by simp,by simp⟩ EB EB ?_);rintro⟨k,out,v⟩ ⟨d,ho⟩;simp only at d ho ⊢;refine EK ?_;refine za (zv rfl (λhc=>?_) (λhc=>?_))
 .simp at hc;obtain⟨t,tl,i,j,a3,e⟩:=zF rfl ls k hc;have a:(ls.take (k+1)).flatten=out++t:=by rw[a3,ho];simp
  have b:(ls.take (k+1)).flatten.length<=ls.flatten.length:=by
   conv=>rhs;rw[<-List.take_append_drop (k+1) ls,List.flatten_append,Ak]
   omega
  rw[a]at b;simp only[Ak]at b;refine zh (aA (aF [] (zn e hc) ?_));refine zb ?_;refine⟨by omega,?_⟩;refine zb ?_;exact zr (k+1,out++t,v+1) [] ⟨hc,a.symm⟩ EA (by simp[zu k EA]) rfl EB
 simp at hc;obtain rfl:k=ls.length:=EA;rw[Ah]at ho;refine zx (zY 0 rfl ?_);refine EK ?_;exact zg (zi h EC (by simp[zp,ho]))
open Hp
def Ya(T:zo)(c:Int):Nat:=T.findIdx λt=>t.any λs=>decide (s.c=c)
def JD(a:zM):Option Int:=a[a.length-1]?.map (·.c)
def XF(b:zM):Option Int:=b[0]?.map (·.c)
def qZ(x:Inst)(num:Int)(p:Pr)(i k:Nat)(a b:zM):Bool :=
 decide (i≠k)&&decide (JD a=some p.a)&&decide (XF b=some p.b)&&!(decide (p.s<=0)&&decide (num<=x.X))&&decide (zX x (a++b)=0)
def V5(x:Inst)(st:zo × Int)(p:Pr)(i k:Nat):zo × Int :=
 bif qZ x st.2 p i k (st.1.getD i []) (st.1.getD k []) then ((st.1.set i (st.1.getD i []++st.1.getD k [])).set k [],st.2-1) else st
def jR(x:Inst)(st:zo × Int)(p:Pr):zo × Int:=V5 x st p (Ya st.1 p.a) (Ya st.1 p.b)
def gz(x:Inst)(ss:List Stop):zo × Int:=(jK x (ss.map (·.c))).foldl (jR x) (ss.map λs=>[s],(ss.length:Int))
def uq(x:Inst)(ss:List Stop):zo:=(gz x ss).1.filter λt=>!t.isEmpty
structure JI (ss:List Stop) (T:zo) (g:Int->Option Int):Prop where
 len:T.length=ss.length
 perm:T.flatten.Perm ss
 g:∀(i:Nat) t s,T[i]?=some t->s∈t->g s.c=some (i:Int)
variable {ss:List Stop}{g:Int->Option Int}{i:Nat}{t:zM}
theorem JI.place{T:zo}(h:JI ss T g){s:Stop}(hi:T[i]?=some t)(hs:s∈t):Ya T s.c=i:=by
 have b:∃t∈T,(t.any λs'=>decide (s'.c=s.c))=true:=⟨t,Aa hi,BZ.2 ⟨s,hs,by simp⟩⟩;have a:Ya T s.c<T.length:=List.findIdx_lt_length_of_exists b;have d:=List.findIdx_getElem (w:=a);obtain⟨s',h1,h2⟩:=BZ.1 d;have e:s'.c=s.c:=by simpa using h2
 have f:=h.g (Ya T s.c) _ s' (Ac a) h1;have e2:=h.g i t s hi hs;grind
theorem JI.there{T:zo}(h:JI ss T g){c:Int}(hc:c∈ss.map (·.c)):∃(i:Nat) (t:zM) (s:Stop),T[i]?=some t/\s∈t/\s.c=c/\g c=some (i:Int)/\Ya T c=i:=by obtain⟨s,hs,rfl⟩:=Aj.1 hc;obtain⟨t,b,a⟩:=Bd.1 (h.perm.symm.subset hs);obtain⟨i,hi⟩:=Bv.1 b;exact⟨i,t,s,hi,a,rfl,h.g i t s hi a,h.place hi a⟩
def V6{T:zo}:∀{i:Nat} {a:zM},T[i]?=some a->T.flatten.Perm (a++(T.set i []).flatten):=by
 induction T with
 |nil=>simp
 |cons t T b =>
 intro i a h;cases i<;>grind
def Ng{T:zo}(b:zM)(h:i<T.length):(T.set i b).flatten.Perm (b++(T.set i []).flatten):=by have:=V6 (T:=T.set i b) (i:=i) (a:=b) (by simp[h]);simp_all
variable {k:Nat}{b:zM}
def Nh{T:zo}{a:zM}(hi:T[i]?=some a)(f:T[k]?=some b)(c:i≠k):((T.set i (a++b)).set k []).flatten.Perm T.flatten:=by have d:=(Ad.1 hi).1;rw[List.set_comm _ _ c];have h1:=Ng (T:=T.set k []) (i:=i) (a++b) (by simpa using d);have h2:=V6 f;have h3:=V6 (T:=T.set k []) (i:=i) (a:=a) (by rw[Bf (λe=>c e.symm)];exact hi);grind
def JE(g:Int->Option Int)(b:zM)(i:Nat)(j:Nat):Int->Option Int:=λc=>if c∈(b.take j).map (·.c) then some (i:Int) else g c
def Ni(g:Int->Option Int)(b:zM)(i:Nat):JE g b i 0=g:=by funext c;simp[JE]
variable {j:Nat}
def Nj{s:Stop}(h:b.take (j+1)=b.take j++[s]):jG (JE g b i j) s.c (some (i:Int))=JE g b i (j+1):=by grind[jG,JE]
variable {a:zM}
theorem JI.join{T:zo}(h:JI ss T g)(hi:T[i]?=some a)(f:T[k]?=some b)(j:i≠k):JI ss ((T.set i (a++b)).set k []) (JE g b i b.length):=by have l:=(Ad.1 hi).1;have o:=(Ad.1 f).1;refine⟨by simp[h.len],(Nh hi f j).trans h.perm,λm t s d hs=>?_⟩;unfold JE;rw[Ah];by_cases p:k=m;simp_all;rw[Bf p]at d;by_cases e2:i=m;subst e2;rw[A9 l]at d;cases d;by_cases e:s.c∈b.map (·.c);rw[if_pos e];rw[if_neg e];obtain hs|hs:=AB.1 hs;exact h.g i a s hi hs;grind;rw[Bf e2]at d;have h1:=h.g m t s d hs;rw[if_neg];exact h1;intro e;obtain⟨s',n,q⟩:=Aj.1 e;have h2:=h.g k b s' f n;grind
theorem JI.nil:JI [] [] (λ_=>none):=⟨rfl,.refl _,λi t s h=>by simp at h⟩
theorem JI.snoc{T:zo}(h:JI ss T g)(s:Stop)(hs:s.c ∉ ss.map (·.c)):JI (ss++[s]) (T++[[s]]) (jG g s.c (some (ss.length:Int))):=by
 refine⟨by simp[h.len],by simpa using h.perm.append_right [s],λi t s' b a=>?_⟩;unfold jG;obtain hl|hl:=Bo i T.length;rw[As hl]at b;have h1:s'∈ss:=h.perm.subset (Bd.2 ⟨t,Aa b,a⟩);rw[if_neg];exact h.g i t s' b a;simp_all;rw[Am hl]at b;have hi:i-T.length=0:=by have:=(Ad.1 b).1;simp at this;omega
 rw[hi]at b;simp at b;subst b;simp at a;subst a;rw[if_pos rfl,<-h.len];grind
variable {P:Program}{r:Rd}{n N d:Nat}{Q:Exit->(Nat->PV)->Store->Prop}{F:Nat->PV}{cs:List PV}
def cS{c:Code}{T:Store}{o ver:Nat}(i:Nat)(hs:T o=.cells ver d cs)(hi:cs[i]?=some (.sc (.slice none 0 0)))
  (h:PW P r n N c Q F (T.set o (.cells ver d (cs.set i (.lst 0 []))))):PW P r n N c Q F T:=by
 refine QS (F':=F) (S':=T.set o (.cells ver d (cs.set i (.lst 0 [])))) (λC w a st=>?_) h;have:=st.sim.relabel (cs':=cs.set i (.lst 0 [])) hs EB (by intro k f b;rw[BG]at b;split at b;rename_i e;subst e;split at b;cases b;refine .inr ⟨_,hi,λv hv=>?_⟩;cases hv;exact .lst0;cases b;exact .inl b);exact⟨C,⟨this.1,st.size,λk=>(st.fr k).mono this.2,r.keep this.2 st.v⟩,this.2⟩
abbrev WO(x:Inst)(tid tv n:Nat)(num:Int)(mid mv:Nat):List PV:=[I x.days,I x.X,I x.Q,I x.len,L x.y,L x.O,.sl tid tv 1 0 n,I num,.mp mid mv]
def gA(cs:List PV)(k:Nat)(x:PV)(h:k<cs.length):yl cs k [x]=cs.set k x:=by simp_all[yl,AK]
def ot(T:zo):T.flatMap Enc.enc=T.map λt=>L t:=by induction T<;>simp_all
variable {nx:Nat}{o:Ob}
def qB{id:Nat}(a:yd nx S)(h:S id=o)(b:o≠.dead):id<nx:=by obtain q|q:=Bo id nx;exact q;rw[a id q]at h;simp_all
def Nk(x:Inst)(ss:List Stop)(T:zo)(g:Int->Option Int)(d:Int)(es:List (Value × PV)){jid tid tv mid mv:Nat}(hx:x.y.length<=1048576)(i6:ss.length<=1000)(h6:-1048576<=d/\d<=1048576)(hI:JI ss T g)(hm:MapIs jy I es g)
  (hj:S jid=.cells N 382 (WO x tid tv ss.length d mid mv)) (ht:S tid=.cells tv 97 (T.flatMap Enc.enc)) (f:S mid=.map mv es) (d1:jid≠tid) (d2:jid≠mid) (d3:tid≠mid)
  (p:Pr) (e8:p.a∈ss.map (·.c)) (e9:p.b∈ss.map (·.c)) :
  SP 323 [.ptr jid N 0,.agg [I p.a,I p.b,I p.s]] S (λ_ S'=>∃es' g',MapIs jy I es' g'/\JI ss (jR x (T,d) p).1 g' /\
   S'=((S.set jid (.cells N 382 (WO x tid tv ss.length (jR x (T,d) p).2 mid mv))).set tid (.cells tv 97 ((jR x (T,d) p).1.flatMap Enc.enc))).set mid (.map mv es')):=by
 obtain⟨i,a,sa,n,f0,h7,f2,f3⟩:=hI.there e8;obtain⟨k,b,sb,r,d8,h8,f5,f6⟩:=hI.there e9;have t:KeyOk (.int .i64) jy:=XA .i64;obtain⟨ra,d9,i7,f7,i8,j0⟩:=hm.find t p.a;obtain⟨rb,e2,j1,f8,j2,j3⟩:=hm.find t p.b;obtain⟨ja,rfl⟩:=f7 _ f2;obtain⟨jb,rfl⟩:=f8 _ f5;refine yr func323 ntmps323 results323 λnx hd=>?_;have b8:jid<nx:=qB hd hj EB;have a0:tid<nx:=qB hd ht EB;have c6:mid<nx:=qB hd f EB;have xj:=λobs=>zG (S:=S) (obs:=obs) b8;have xt:=λobs=>zG (S:=S) (obs:=obs) a0;have xm:=λobs=>zG (S:=S) (obs:=obs) c6;refine EK ?_;intro v0;have f9:=(Ad.1 n).1;have g0:=(Ad.1 r).1;have g1:T.getD i []=a:=by rw[List.getD_eq_getElem?_getD,n];rfl
 have g2:T.getD k []=b:=by rw[List.getD_eq_getElem?_getD,r];rfl
 have a5:jR x (T,d) p=bif qZ x d p i k a b then ((T.set i (a++b)).set k [],d-1) else (T,d):=by unfold jR V5;simp only[f3,f6,g1,g2]
 have h:qZ x d p i k a b=false->∃es' g',MapIs jy I es' g'/\JI ss (jR x (T,d) p).1 g' /\
   S=((S.set jid (.cells N 382 (WO x tid tv ss.length (jR x (T,d) p).2 mid mv))).set tid (.cells tv 97 ((jR x (T,d) p).1.flatMap Enc.enc))).set mid (.map mv es'):=by
  intro hc;rw[a5,hc];refine⟨es,g,hm,hI,?_⟩;simp only[cond_false];rw[WJ S jid _ hj,WJ S tid _ ht,WJ S mid _ f]
 have h9:a.length<=1000:=by have h1:=(V6 n).length_eq;have h2:=hI.perm.length_eq;rw[Ak]at h1;omega
 have i5:b.length<=1000:=by have h1:=(V6 r).length_eq;have h2:=hI.perm.length_eq;rw[Ak]at h1;omega
 obtain⟨m,u⟩:∃m,a.length=m+1:=⟨a.length-1,by cases a with|nil=>cases f0|cons _ _=>simp⟩;have k4:0<b.length:=by cases b with|nil=>cases d8|cons _ _=>simp
 obtain⟨la,k5,g3,k6,k7,c7,c8⟩:=el 2 rfl a m EA;obtain⟨fb,b',a4⟩:∃fb b',b=fb::b':=by cases b with|nil=>cases d8|cons x y=>simp
 have a6:JD a=some la.c:=by unfold JD;rw[u,B5,g3];rfl
 have v:XF b=some fb.c:=by rw[a4];rfl
 obtain⟨ai,k8,i1,i2,i3,i0⟩:=zF rfl T i f9;rw[n]at i1;cases i1;obtain⟨bk,k9,k1,k2,k3,k0⟩:=zF rfl T k g0;rw[r]at k1;cases k1;have d0:=hI.len;have a7:i<ss.length:=EA;have a8:k<ss.length:=EA;refine za (qT (nx:=nx) (σ:=Unit) (λ_=>True) (λ_=>[(0,.ptr jid N 0),(3,.ptr nx v0 0),(4,I i),(5,I k)]) (λ_=>S) (λ_=>[.cells v0 387 [I p.a,I p.b,I p.s]]) ?_ ?_);repeat apply za
 refine zA none (Row.pures [0,1,2,3,4,5,7,8,9,10,11,12] (.alt 6 (Row.pures [14] (.alt 13 (Row.pures [15] .done) .stop)) (.alt 13 (.alt 6 (Row.pures [14,15] .done) .stop) .stop))) mixed (zU xj xt xm hj ht f) ?_;refine⟨?_,?_⟩;refine⟨by rfl,(Yv rfl underlying379 underlying3 rfl rfl rfl ((xm _).trans f) d9 z3 ?_)⟩;refine⟨by simp,xl trivial ?_⟩;refine⟨by rfl,(Yv rfl underlying379 underlying3 rfl rfl rfl ((xm _).trans f) e2 z3 ?_)⟩;refine⟨by simp,xl trivial ?_⟩;exact yb () [] trivial (by simp[Y7]) rfl EB;refine⟨by rfl,(Yv rfl underlying379 underlying3 rfl rfl rfl ((xm _).trans f) e2 z3 ?_)⟩;refine⟨by simp,xl trivial ?_⟩;refine⟨by rfl,(Yv rfl underlying379 underlying3 rfl rfl rfl ((xm _).trans f) d9 z3 ?_)⟩;refine⟨by simp,xl trivial ?_⟩;exact yb () [] trivial (by simp[Y7]) rfl EB;intro _ _;refine aG none R3 mixed (zU xj xt hj ht i0 (zR k0 a7 a8 d0)) ?_;have wm:IntKind.i64.wrap (m:Int)=m:=wr _ EA EA;have l0:m<a.length:=EA;refine za (qT (nx:=nx) (σ:=Unit) (λ_=>¬i=k/\la.c=p.a/\fb.c=p.b) (λ_=>[(0,.ptr jid N 0),(3,.ptr nx v0 0),(4,I i),(5,I k),(6,L a),(7,L b)]) (λ_=>S) (λ_=>[.cells v0 387 [I p.a,I p.b,I p.s]]) ?_ ?_)
 .by_cases h1:i=k;have hc:qZ x d p i k a b=false:=by simp[qZ,h1]
  refine aG none Rc mixed (zn h1 zE) ?_;exact zm rfl (zg ⟨_,S,rfl,h hc,zV hd⟩);have d4:¬(i:Int)=(k:Int):=EA;have d5:(m:Int)<(m:Int)+1:=EA;by_cases h2:la.c=p.a;case neg =>
   have hc:qZ x d p i k a b=false:=by simp[qZ,a6,h2]
   refine aG none Rc mixed (zU d4 h2 u wm d5 (zD c7 c8 zE)) ?_;exact zm rfl (zg ⟨_,S,rfl,h hc,zV hd⟩)
  by_cases h3:fb.c=p.b;case neg =>
   have hc:qZ x d p i k a b=false:=by simp[qZ,v,h3]
   refine aG none Rc mixed (zU d4 h2 h3 u wm (yx d5 c7 c8 a4 zE)) ?_;exact zm rfl (zg ⟨_,S,rfl,h hc,zV hd⟩)
  refine aG none Rc mixed (zU d4 h2 h3 u wm (yx d5 c7 c8 a4 zE)) ?_;exact zk rfl (zh (yb () [] ⟨h1,h2,h3⟩ (by simp[u,a4]) rfl EB))
 rintro _ ⟨h1,h2,h3⟩;have l1:-9223372036854775808<=d:=EA;refine za (qT (nx:=nx) (σ:=Unit) (λ_=>¬(p.s<=0/\d<=x.X)) (λ_=>[(0,.ptr jid N 0),(3,.ptr nx v0 0),(4,I i),(5,I k),(6,L a),(7,L b)]) (λ_=>S) (λ_=>[.cells v0 387 [I p.a,I p.b,I p.s]]) ?_ ?_);by_cases h4:p.s<=0;by_cases z:d<=x.X;have hc:qZ x d p i k a b=false:=by simp[qZ,h4,z]
 refine aG none R7 mixed (yx xj hj h4 z zE) ?_;exact zm rfl (zg ⟨_,S,rfl,h hc,zV hd⟩);refine aG none R7 mixed (yx xj hj h4 z zE) ?_;exact zk rfl (zh (yb () [] EA EB rfl EB));refine aG none R7 mixed (zn h4 zE) ?_;exact zk rfl (zh (yb () [] EA EB rfl EB));intro _ h4;have a9:=Nf [a,b] EB EF EF;rw[show [a,b].flatten=a++b from by simp]at a9;refine EK ?_;refine zq a9 ?_;refine za (qT (nx:=nx) (σ:=Unit) (λ_=>zX x (a++b)=0) (λ_=>[(0,.ptr jid N 0),(3,.ptr nx v0 0),(4,I i),(5,I k),(6,L a),(7,L b),(8,L (a++b))]) (λ_=>S) (λ_=>[.cells v0 387 [I p.a,I p.b,I p.s]]) ?_ ?_);refine aF [] (zn xj hj) ?_;refine zq (V1 x (a++b) hx EF) ?_;by_cases z:zX x (a++b)=0;repeat apply za
 refine zk (by simp[z]) ?_;exact zh (yb () [] z EB rfl EB);have hc:qZ x d p i k a b=false:=by simp[qZ,z]
 refine zm (by simp[z]) ?_;exact zg ⟨_,S,rfl,h hc,zV hd⟩;intro _ z;have g4:(decide (p.s<=0)&&decide (d<=x.X))=false:=Bool.eq_false_iff.2 λq=>h4 (by simpa using q);have d6:qZ x d p i k a b=true:=by unfold qZ;rw[g4,a6,v,h2,h3,z];simp[h1]
 rw[a5,d6];simp only[cond_true];have yj:=λ(o:Ob) obs=>(zG (S:=S.set mid o) (obs:=obs) b8).trans ((q10 _ _ _ _ d2).trans hj);have ym:=λ(o:Ob) obs=>(zG (S:=S.set mid o) (obs:=obs) c6).trans (q11 _ _ _);repeat apply za
 refine zb ?_;refine zj (xk (σ:=Nat × List (Value × PV)) (λs=>s.1<=b.length/\MapIs jy I s.2 (JE g b i s.1)) (λs=>[(0,.ptr jid N 0),(4,I i),(5,I k),(8,L (a++b)),(90,L b),(91,I b.length),(92,I s.1)]) (λs=>S.set mid (.map mv s.2)) (λ_=>[.cells v0 387 [I p.a,I p.b,I p.s]]) (λs=>b.length-s.1) (yb (0,es) [] ⟨by simp,by rw[Ni];exact hm⟩ EB (WJ S mid _ f) EB) ?_);rintro⟨j,e3⟩ ⟨g5,w⟩;simp only at g5 w ⊢;refine EK ?_;refine za (zv rfl (λhq=>?_) (λhq=>?_));simp at hq;obtain⟨s,tl,a1,a2,a3,e1,e0⟩:=el 2 rfl b j hq;obtain⟨rs,f1,_,_,f4,_⟩:=w.find t s.c;have b7:=f4 (i:Int);rw[Nj a3]at b7;refine zh (aA (aF [] (zD e1 e0 hq) ?_));intro v1;refine zA (some [jid,nx+1]) Rr mixed yj ?_;refine⟨by rfl,(QU (.inl rfl) underlying379 underlying3 rfl rfl rfl (ym _ _) f1 ?_)⟩;rw[qE _ c6,Store.set_set];refine⟨by simp[yY,yj],xl trivial ?_⟩;refine zb ?_;exact zr (j+1,jD (jy s.c) (I i) e3 rs) [_] ⟨hq,b7⟩ EA (by simp[zu j EA]) rfl EC;simp at hq;obtain rfl:j=b.length:=EA;refine zx ?_;have g6:=λ(o:Ob) obs=>(zG (S:=S.set mid o) (obs:=obs) a0).trans ((q10 _ _ _ _ d3).trans ht);have e4:=λ(o o':Ob) obs=>(zG (S:=(S.set mid o).set tid o') (obs:=obs) a0).trans (q11 _ _ _);have e5:=λ(o o':Ob) obs=>(zG (S:=(S.set mid o).set tid o') (obs:=obs) b8).trans ((q10 _ _ _ _ d1).trans ((q10 _ _ _ _ d2).trans hj));have d7:(T.flatMap Enc.enc).length=ss.length:=by rw[jJ,d0]
 have g7:=gA (T.flatMap Enc.enc) i (L (a++b)) EA;have g8:=gA ((T.flatMap Enc.enc).set i (L (a++b))) k (.sc (.slice none 0 0)) EF;have e6:¬nx<=tid:=EA;have e7:¬nx<=jid:=EA;have wn:IntKind.i64.wrap (d-1)=d-1:=wr _ EA EA;refine aG (some [jid]) (Row.pures [0,1,2,3,4,5,6,7,8,9,10,11] (.alt 12 (Row.pures [13] (.alt 14 (.done) .stop)) .stop)) mixed (zU yj g6 e4 e5 g7 (zU g8 a7 a8 d7 e6 d0)) ?_;refine⟨by omega,by omega,?_⟩;have g9:((((T.flatMap Enc.enc).set i (L (a++b))).set k (.sc (.slice none 0 0))).set k (.lst 0 []))=((T.set i (a++b)).set k []).flatMap Enc.enc:=by rw[List.set_set,ot,ot,List.map_set,List.map_set];rfl
 refine cS (o:=tid) k (e4 _ _ _) (by rw[A9 (by simp;omega)]) ?_;rw[qE _ a0,Store.set_set,g9];generalize ((T.set i (a++b)).set k []).flatMap Enc.enc=cs' at *;refine ze [] (zD e5 e7 wn) ?_;have e1:∀(o o' l:Ob),((S.set mid o).set tid o').set jid l=((S.set jid l).set tid o').set mid o:=by intro o o' l;rw[Store.set_comm _ jid tid _ _ (λe=>d1 e.symm),Store.set_comm _ jid mid _ _ (λe=>d2 e.symm),Store.set_comm _ tid mid _ _ (λe=>d3 e.symm)]
 rw[e1];have h0:∀(o o' l:Ob),yd nx (((S.set jid l).set tid o').set mid o):=by intro o o' l q hq;rw[q10 _ _ _ _ EA,q10 _ _ _ _ EA,q10 _ _ _ _ EA];exact hd q hq
 exact⟨_,_,rfl,⟨e3,_,w,hI.join n r h1,rfl⟩,zV (h0 _ _ _)⟩
open Go.Shelf Go.RowKit Go.Lib Go.Sort
def Se:Store:=λ_=>.dead
def Ce:Ctx:=⟨λ_=>none,0,0⟩
def Nl(w:World):Sim Ce Se w :=
 ⟨λ_ h=>absurd rfl h,(λ_ _ h=>by cases h),λ_ _ _ _ _ h=>absurd rfl h,(λ_ _ _ _ h=>by cases h),(λ_ _ _ h=>by cases h)⟩
def gB(b:Nat):¬Ce.M Se b:=by rintro⟨o,k,h,_⟩;exact h rfl
inductive Fz:PV->Prop where
 |junk:Fz .junk
 |sc (v:Value):Fz (.sc v)
 |agg {cs:List PV} (h:∀p∈cs,Fz p):Fz (.agg cs)
 |lst {n:Nat} {cs:List PV} (h:∀p∈cs,Fz p):Fz (.lst n cs)
 |ip {cs:List PV} (h:∀p∈cs,Fz p):Fz (.ip cs)
variable {p:PV}
def Nm{v:Value}(h:Rel C S w p v):Fz p->Rel Ce Se w p v:=by
 induction h with
 |junk v=>intro _;exact .junk v
 |sc v=>intro _;exact .sc v
 |agg hl h1 _ b=>intro a;cases a with|agg a=>exact .agg hl h1 λi c v hc hv=>b i c v hc hv (a c (Aa hc))
 |tup hl _ b=>intro a;cases a
 |lst0=>intro _;exact .lst0
 |lst1 hn hm hb hM hs h1 _ b=>intro a;cases a with|lst a=>exact .lst1 hn hm hb (gB _) hs h1 λi c v hc hv=>b i c v hc hv (a c (Aa hc))
 |ip hb hM hs h1 _ b=>intro a;cases a with|ip a=>exact .ip hb (gB _) hs h1 λi c v hc hv=>b i c v hc hv (a c (Aa hc))
 |nl0=>intro a;cases a
 |nl _ _ _ _ _ _ _=>intro a;cases a
 |ptr _ _ _=>intro a;cases a
 |sl _ _ _=>intro a;cases a
 |fn _ _ _ _ _ _=>intro a;cases a
 |ifc _ _=>intro a;cases a
 |mp _ _ _=>intro a;cases a
variable {S':Store}
theorem Nn{W w':World}(h:Step Ce Se W C S' w'):∃q os',w'=grow (W.drewN q) os':=by obtain⟨p,a⟩:=regrown_of_below (w:=W) (w':=w') ⟨h.os,h.tape.1,h.output,h.size,λb hb=>(h.blocks b hb (gB b)).1⟩;have c:=h.tape.2;rw[a]at c;refine⟨p.d-W.drawn,p.os,?_⟩;simp_all[grow,redrawn,World.drewN]
section
variable {P:Program} {α:Type} [Inhabited α] {val:α->Int}
def No{x:Int}{v:Value}(h:Rel C S w (I x) v):v=.int .i64 x:=by cases h;rfl
abbrev ur(val:α->Int)(x:α):Value:=.int .i64 (val x)
variable {size:Nat}
def Np{g:Nat}{a:List PV}{j:α->α->Int}(k:∀x y:α,Pure P g (I (val x)::I (val y)::a) (I (j x y)))(f:Array Value)(hl:a.length=f.size){b:Nat}
  (n:∀(m:Nat) (os:Array Obj) (h:Array α),h.size=size->∀(i:Nat) (c:PV) (v:Value),a[i]?=some c->f[i]?=some v->Rel Ce Se (sortWorld (ur val) w b 0 m h os) c v):CmpLays1 P g f (ur val) j b 0 size w:=by
 intro m os h hs x y;refine((k x y Se).2 Ce (sortWorld (ur val) w b 0 m h os) (#[ur val x,ur val y]++f) (Nl _) EF ?_).mono ?_
 .intro i c v hc hv
  match i with
  |0=>rw[BB EB]at hv;cases hc;cases hv;exact .sc _
  |1=>rw[BB EB]at hv;cases hc;cases hv;exact .sc _
  |i+2 =>
  grind
 rintro e w' ⟨p,v,S',C',rfl,⟨rfl,rfl⟩,d,_,l⟩;cases d;grind[Nn]
def ou(r:Sim C S w){id ver e b:Nat}{g:List PV}{c:Array Value}(hid:S id=.cells ver e g)(g1:C.loc id=some (b,k))(o:w.heap[b]?=some (.cells c e (0,0)))(g3:c.size=k)(a:Array α)(h:a.size<=k)(q:Nat)(os:Array Obj):
  Sim (C.at id ver (C.loc id)) (S.set id (.cells ver e (a.toList.map λx=>I (val x)))) (sortWorld (ur val) w b 0 q a os) /\
  Step C S w (C.at id ver (C.loc id)) (S.set id (.cells ver e (a.toList.map λx=>I (val x)))) (sortWorld (ur val) w b 0 q a os):=by
 have hb:b<w.heap.size:=qX o;have s:(sortWorld (ur val) w b 0 q a os).heap[b]?=some (.cells (putCells (ur val) 0 a c) e (0,0)):=by unfold sortWorld;rw[heap_grow_old _ _ (by simpa using hb)];simp[putRow,mapBlock,Sort.ahead,BN,o,onCells]
 have t:w.grownBy (sortWorld (ur val) w b 0 q a os) (some b):=by refine⟨rfl,rfl,rfl,by simp[sortWorld],λj u m=>?_⟩;unfold sortWorld;rw[heap_grow_old _ _ (by simpa using u)];have:b≠j:=λe=>m (by rw[e]);simp[putRow,mapBlock,Sort.ahead,BN,this]
 have d:∀i,i<a.size->∀v,(putCells (ur val) 0 a c)[i]?=some v->v=ur val a[i]!:=by intro i hi v hv;have n:i<c.size:=EA;simp[putCells,hi,n]at hv;rw[<-hv,getElem!_pos a i hi]
 refine r.turn (l:=C.loc id) (ver':=ver) (cs':=a.toList.map λx=>I (val x)) hid (Af _) (λ_=>rfl) ⟨by simp_all,Dp _ _⟩
  (.inr ⟨b,k,_,g1,.inr (by rw[g1];rfl),s,by simp_all[putCells],by simpa using h,λi v hi hv=>?_,λi p v f hv=>?_⟩)
 rw[d i (by simpa using hi) v hv];rfl;have hi:i<a.size:=by have:=(Ad.1 f).1;simpa using this
 rw[d i hi v hv];rw[Ai,Array.getElem?_toList,Ba hi]at f;simp only[AR,Option.some.injEq]at f;rw[<-f,getElem!_pos a i hi];exact .sc _
def Nq{ρ:Ren}(L:SlLaysF.n6 P ρ)(d:qS P (ρ.f 6)){id ver:Nat}{f:PV}:Spec P (ρ.f 6) [.sl id ver 1 0 0,f] S (λp S'=>S'=S):=by
 refine⟨d,?_⟩;intro C w vs g hl h;obtain⟨v0,v1,rfl⟩:∃v0 v1,vs=#[v0,v1]:=by
  match vs,hl with
  |⟨[a,b]⟩,_=>simp
 have c:=h 0 _ v0 rfl rfl;cases c with
 |sl h1 h2 h3 =>
 obtain⟨a,cap,rfl,i,j,k,l⟩:=h1;refine(AnyF.slices_SortFunc_none { L with } a cap _ w).mono ?_;rintro e w' ⟨rfl,rfl⟩;exact⟨.junk,_,S,C,rfl,rfl,.junk _,g,.refl _ _ _⟩
def Nr{ρ:Ren}(L:SlLaysF.n6 P ρ)(hE:qS P (ρ.f 6)){id ver e:Nat}(zs:List α)(hid:S id=.cells ver e (zs.map λx=>I (val x)))(hn:zs.length<=1048576)
  {g:Nat} (hG:qS P g) {d:List PV} (hz:∀p∈d,Fz p) (l:α->α->Int) (hO:SWO (ltOf l)) (hT:∀x y,(ltOf l) x y=false->(ltOf l) y x=false->x=y)
  (hg:∀x y:α,Pure P g (I (val x)::I (val y)::d) (I (l x y))) :
  Spec P (ρ.f 6) [.sl id ver 1 0 zs.length,.fn (.func g) [] d] S (λp S'=>S'=S.set id (.cells ver e ((zs.mergeSort λx y=>!(ltOf l) y x).map λx=>I (val x)))):=by
 refine⟨hE,?_⟩;intro C w vs q hl z;obtain⟨v0,v1,rfl⟩:∃v0 v1,vs=#[v0,v1]:=by
  match vs,hl with
  |⟨[a,b]⟩,_=>simp
 have s:=z 0 _ v0 rfl rfl;have t:=z 1 _ v1 rfl rfl;cases t with
 |@fn _ _ _ fv cv hf hc a2 o =>
 obtain rfl:fv=#[]:=EI;cases s with
 |sl h1 h2 h3 =>
 obtain⟨a,cap,rfl,q1,q2,q3,q4⟩:=h1;by_cases h0:zs=[];subst h0;refine(AnyF.slices_SortFunc_none { L with } a cap _ w).mono ?_;rintro e w' ⟨rfl,rfl⟩;refine⟨.junk,_,S,C,rfl,?_,.junk _,q,.refl _ _ _⟩;grind[Store.set,List.mergeSort_nil];have a0:0<zs.length:=BD.2 h0;obtain⟨a3,a1⟩|⟨b,k,c,g1,r,g3,g4,g5,g6⟩:=q.cells id ver _ _ hid;simp_all;have ha:a=some ⟨b,0,none⟩:=by
  rcases (h3 ver (by rw[hid];rfl)).2 rfl with ⟨z1,_⟩|⟨b',k',a',cap',z1,z2,z3,z4⟩
  omega;grind
 subst ha;rw[List.length_map]at g4 g5;have h:∀i (hi:i<zs.length),c[i]?=some (ur val zs[i]):=by
  intro i hi;have a4:i<c.size:=EA;have e1:(zs.map λx=>I (val x))[i]?=some (I (val zs[i])):=by simp[hi]
  have e2:c[i]?=some c[i]:=EB;rw[e2,No (g6 i _ _ e1 e2)]
 have hH:Holds (ur val) w b 0 zs.toArray:=by
  intro j hj;have u:j<zs.length:=by simpa using hj
  refine⟨?_,by grind[World.frozen?]⟩;simp only[World.cell?,r,A3,DE,A7,if_false];rw[h j u,getElem!_pos zs.toArray j hj];simp
 have n:CmpLays1 P g cv (ur val) l b 0 zs.toArray.size w:=by refine Np hg cv EA λm os dk hs i p v hp hv=>?_;obtain⟨_,st⟩:=ou (val:=val) q hid g1 r g3 dk (by rw[hs];omega) m os;exact Nm ((o i p v hp hv).mono st) (hz p (Aa hp))
 have hk:=Any.slices_SortFunc_total L (ur val) (λ_=>rfl) l hO g cv b 0 cap zs.toArray w hG n hH (qX r) EF hT;simp only[B1]at hk;refine hk.mono ?_;rintro e w' ⟨rfl,m,os,rfl⟩;obtain⟨t1,t2⟩:=ou (val:=val) q hid g1 r g3 (zs.mergeSort λx y=>!(ltOf l) y x).toArray (by simpa using g4) m os;exact⟨.junk,_,_,_,rfl,rfl,.junk _,t1,t2⟩
end
def ov(x:Int):PP 275 [I x] (B false):=by refine zt func275 ntmps275 results275 λS nx a=>?_;refine EK ?_;refine EK ?_;exact EL a
def ow(x y:Int):PP 367 [I x,I y] (I (ZF x y)):=by
 refine zt func367 ntmps367 results367 λS nx a=>?_;refine EK ?_;refine EK ?_;refine zq (ov x) ?_;refine EK ?_;refine zq (ov y) ?_;repeat apply za
 refine zb ?_;refine aC ?_;repeat apply za
 refine zb ?_;refine aC ?_;by_cases h1:x<y;repeat apply za
 refine ze [] h1 ?_;refine zm (by simp[h1]) ?_;refine EK ?_;exact zg (zi a EC (by simp[ZF,h1,zp]));repeat apply za
 refine ze [] h1 ?_;refine zk (by simp[h1]) ?_;refine zh ?_;by_cases h2:y<x;repeat apply za
 refine ze [] h2 ?_;refine zm (by simp[h2]) ?_;refine EK ?_;exact zg (zi a EC (by simp[ZF,h1,h2,zp]));repeat apply za
 refine ze [] h2 ?_;refine zk (by simp[h2]) ?_;refine zh (EK ?_);exact zg (zi a EC (by simp[ZF,h1,h2,zp]))
def Ns(x y:Int):PP 366 [.lst 2 [I x,I y]] (I (if x=0 then y else x)):=by
 refine zt func366 ntmps366 results366 λS nx d=>?_;refine EK ?_;refine EK ?_;repeat apply za
 refine zb ?_;refine zj (zC (λs:Nat=>s<=2/\(0<s->x=0)/\(1<s->y=0)) (λk=>[(3,I 0),(6,.lst 2 [I x,I y]),(7,I 2),(8,I k)]) (λ_=>[]) (λs=>2-s) 0 [] EB EB EB ?_);rintro k ⟨e,a,b⟩
 match k,e,a,b with
 |0,_,_,_ =>
 refine EK ?_;refine za (aD ?_);refine zh (aA (EK ?_));by_cases hx:x=0;refine aF [] hx ?_;refine zk (by simp[hx]) ?_;refine zh (zb ?_);exact zr 1 [] ⟨by omega,λ_=>hx,by omega⟩ EA (by simp[hx];rfl) rfl EB;refine aF [] hx ?_;refine zm (by simp[hx]) ?_;refine EK ?_;exact zg (zi d EC (by simp[hx,zp]))
 |1,_,a,_ =>
 have hx:=a EA;refine EK ?_;refine za (aD ?_);refine zh (aA (EK ?_));by_cases c:y=0;refine aF [] c ?_;refine zk (by simp[c]) ?_;refine zh (zb ?_);exact zr 2 [] ⟨by omega,λ_=>hx,λ_=>c⟩ EA (by simp[c];rfl) rfl EB;refine aF [] c ?_;refine zm (by simp[c]) ?_;refine EK ?_;exact zg (zi d EC (by simp[hx,zp]))
 |2,_,a,b =>
 refine EK ?_;refine za (aE ?_);refine zx (EK ?_);exact zg (zi d EC (by simp[a EA,b EA,zp]))
def Nt(l:List Int)(i j:Fin l.length)(hn:l.length<=1048576):PP 365 [I i.val,I j.val,.ip [L l]] (I (up l i j)):=by
 obtain⟨a,tl,h,o,a3,e⟩:=zF rfl l i.val i.isLt;obtain⟨b,k,b1,b2,b3,f⟩:=zF rfl l j.val j.isLt;have hi:=i.isLt;have g:=j.isLt;have m:l.getD i.val 0=a:=by rw[List.getD_eq_getElem?_getD,h];rfl
 have hb:l.getD j.val 0=b:=by rw[List.getD_eq_getElem?_getD,b1];rfl
 have d:=Ns (ZF a b) (ZF i.val j.val);have c:up l i j=if ZF a b=0 then ZF (i.val:Int) j.val else ZF a b:=by unfold up;rw[m,hb]
 rw[c];refine zt func365 ntmps365 results365 λS nx n=>?_;refine EK ?_;refine aG none R7 mixed (zR hi g e f) ?_;refine zJ (ow a b) (zR hi g e f) ?_;refine zJ (ow i.val j.val) trivial ?_;refine zJ (d) trivial ?_;exact EL n
def gC(l:List Int):l.flatMap Enc.enc=l.map I:=by induction l<;>simp_all
def Nu(l:List Int):∀p∈[PV.ip [L l]],Fz p:=by intro p a;simp only[A5]at a;subst a;refine .ip λq b=>?_;simp only[A5]at b;subst b;refine .lst λr c=>?_;rw[gC]at c;obtain⟨x,_,rfl⟩:=Aj.1 c;exact .sc _
def uQ(n k:Nat):List Int:=(List.range n).map λi=>if i<k then (i:Int) else 0
def Nv(n k:Nat):(uQ n k).length=n:=by simp[uQ]
def Nw(n:Nat):uQ n 0=List.replicate n 0:=by apply Bi;simp[uQ];intro i h1 h2;simp[uQ]
def Nx(n k:Nat)(h:k<n):(uQ n k).set k (k:Int)=uQ n (k+1):=by apply Bi;simp[uQ];intro i h1 h2;rw[Do];simp only[uQ,CH,CJ];by_cases e:k=i;subst e;rw[if_pos rfl,if_pos EA];rw[if_neg e];by_cases h3:i<k;rw[if_pos h3,if_pos EA];rw[if_neg h3,if_neg EA]
def Ny(n:Nat):uQ n n=(List.finRange n).map λx=>(x.val:Int):=by
 apply Bi;simp[uQ];intro i h1 h2;have:i<n:=by simpa[uQ] using h1
 simp[uQ,this]
variable {α:Type}
def oz(l:List α)(f:α->Int):(l.map f).flatMap Enc.enc=l.map λx=>I (f x):=by induction l<;>simp_all
def Nz(n:Nat):qw n (.int .i64 0)=(List.replicate n (0:Int)).flatMap Enc.enc:=by
 induction n with
 |zero=>simp
 |succ n a=>rw[Jw,a,Br];simp[jW,Value.cells]
def NA(l:List Int)(k:Nat)(v:Int)(h:k<l.length):yl (l.flatMap Enc.enc) k [I v]=(l.set k v).flatMap Enc.enc:=by rw[gC,gC,yl,List.map_set,AK,if_pos (by simpa using h)];simp
def NB(l:List Int)(hn:l.length<=1048576):PP 357 [L l] (L (Zn l)):=by
 have h:qS prog 364:=qL func364 EG rfl;have m:qS prog 365:=qL func365 EG rfl;refine zt func357 ntmps357 results357 λS nx j=>?_;refine EK ?_;intro v0;refine EK ?_;refine⟨by omega,λv1=>?_⟩;repeat apply za
 refine zb ?_;refine zj (zC (λs:Nat=>s<=l.length) (λk=>[(1,.ptr nx v0 0),(3,.sl (nx+1) v1 1 0 l.length),(9,I l.length),(10,I k)]) (λk=>[.cells v0 26 [L l],.cells v1 3 ((uQ l.length k).flatMap Enc.enc)]) (λs=>l.length-s) 0 [] EB EB (by simp[Nw,Nz]) ?_);rintro k n;refine EK ?_;refine za (zv rfl (λhc=>?_) (λhc=>?_));simp at hc;have d:=Nv l.length k;have b:=NA (uQ l.length k) k k EA;rw[Nx _ _ hc]at b;refine zh (aA (EK ?_));refine ze [] (zD hc d b) ?_;refine⟨by omega,?_⟩;refine zb ?_;exact zr (k+1) [] hc EA (by simp[zu k EA]) rfl EB;simp at hc;obtain rfl:k=l.length:=EA;refine zx ?_;rw[Ny,oz];refine w9 0 rfl ?_;refine EK ?_;by_cases h0:l.length=0;obtain rfl:l=[]:=Av h0;refine λa=>((Nq laysSlF6_f364 h).mono ?_).v;rintro _ _ rfl;refine⟨_,_,rfl,zO a ?_⟩;refine zY 1 rfl ?_;refine EK ?_;have f:Zn []=[]:=Av (gt []);exact zg (zi j EC (by rw[f];rfl));haveI:Inhabited (Fin l.length):=⟨⟨0,by omega⟩⟩;have hs:=λS id ver hid=>Nr (S:=S) (id:=id) (ver:=ver) (e:=3) (val:=λi:Fin l.length=>(i.val:Int)) laysSlF6_f364 h (List.finRange l.length) hid EF m (Nu l) (up l) (cO l) (ol l) (λx y=>Nt l x y hn);rw[List.length_finRange]at hs;have g:=oz (XC l) (λi=>(i.val:Int));have c:=gt l;refine λa=>((hs _ (nx+1) v1 (by rw[zS];rfl)).mono ?_).v;rintro _ _ rfl;refine⟨_,_,yi _ EA EB,?_⟩;rw[show (((List.finRange l.length).mergeSort λx y=>!(ltOf (up l)) y x).map λx=>I (x.val:Int))=(Zn l).flatMap Enc.enc from g.symm];refine xA [] (show nx+1-nx=1 from by omega) a ?_;refine zY 1 rfl ?_;refine aF [] c ?_;exact zg (zi j EC (by simp[zp,c]))
def NC(x:Inst)(c:List Int)(a b:Int):xO x (c++[b]) a=xO x c a++(if b≠a then [⟨a,b,ZG x a b⟩] else []):=by unfold xO;by_cases h:b=a<;>simp[h]
def ND(x:Inst)(c:List Int)(a:Int):(xO x c a).length<=c.length:=by unfold xO;rw[List.length_map];exact BR _ _
def NE(l:List Pr)(p:Pr):jz (l++[p])=jz l++[-p.s]:=by simp[jz]
def NF(l:List Pr):(jz l).length=l.length:=by simp[jz]
def NG(x:Inst)(c:List Int)(a:Int)(hx:qG x)(hc:c.length<=1048576)(hs:∀b∈c,qA b)(ha:qA a):PP 338 [.agg (zB x),L c,I a] (L (vO x c a)):=by
 refine zt func338 ntmps338 results338 λS nx hd=>?_;refine EK ?_;intro v0;refine EK ?_;refine za (qO 7 387 3 rfl λv1=>?_);refine zb ?_;refine za (qO 8 3 1 rfl λn=>?_);refine EK ?_;refine zj (zC (λs:Nat × List Pr × Nat × Nat=>s.1<=c.length/\s.2.1=xO x (c.take s.1) a) (λ(k,ps,v1,n)=>[(1,L c),(2,I a),(3,.ptr nx v0 0),(7,.sl (nx+1) v1 3 0 ps.length),(8,.sl (nx+2) n 1 0 ps.length),(15,L c),(16,I c.length),(17,I k)]) (λ(k,ps,v1,n)=>[.cells v0 25 (zB x),.cells v1 387 (ps.flatMap Enc.enc),.cells n 3 ((jz ps).flatMap Enc.enc)]) (λs=>c.length-s.1) (0,[],v1,n) [] (by simp[xO]) EB (by simp[jz]) ?_);rintro⟨k,ps,v1,n⟩ ⟨q,ho⟩;simp only at q ho ⊢;have a4:ps.length<=k:=by rw[ho];refine AF (ND _ _ _) ?_;simp;omega
 have e:=NF ps;refine EK ?_;refine za (zv rfl (λd=>?_) (λd=>?_));simp at d;obtain⟨b,tl,r,a2,a3,t⟩:=zF rfl c k d;have hb:=hs b (Aa r);have a5:=gy hx a b;have w5:IntKind.i64.wrap (-ZG x a b)=-ZG x a b:=wr _ EA EA;have f:=NC x (c.take k) a b;rw[<-a3,<-ho]at f;refine zh (aA (aF [] (zn t d) ?_));refine EK ?_;refine zv rfl (λg=>?_) (λg=>?_);simp at g;rw[if_pos g]at f;refine EK ?_;refine zq (Nb x a b hx ha hb) ?_;intro v3;refine EK ?_;refine⟨by omega,?_⟩;have u:List.take ps.length ((jz ps).flatMap Enc.enc)=(jz ps).flatMap Enc.enc:=by rw[<-e];exact Ky _
 have w:((jz ps).flatMap Enc.enc).length=ps.length:=by rw[jY,e]
 refine ze [] (zD w5 u w) ?_;refine⟨by omega,?_⟩;refine zb ?_;exact zr (k+1,ps++[⟨a,b,ZG x a b⟩],v1+1,n+1) [_] ⟨d,f.symm⟩ EF (by simp[zu k EA]) rfl (by simp[NE];rfl);simp at g;rw[if_neg (by simp[g]),AA]at f;refine zh (zb ?_);exact zr (k+1,ps,v1,n) [] ⟨d,f.symm⟩ EF (by simp[zu k EA]) rfl EB;simp at d;obtain rfl:k=c.length:=EA;rw[Ah]at ho;refine zx (zY 1 rfl ?_);refine zY 2 rfl ?_;refine EK ?_;refine za (qO 12 387 3 rfl λv3=>?_);have y:vO x c a=(Zn (jz ps)).map (Zo ps):=by rw[ho];rfl
 rw[y];have a6:=gt (jz ps);have o:∀z∈Zn (jz ps),0<=z/\z<ps.length:=λz h=>by have:=MJ h;omega
 have l:=NB (jz ps) EA;rw[show L (jz ps)=PV.lst ps.length ((jz ps).flatMap Enc.enc) from by rw[<-e]]at l;generalize jz ps=ns at *;refine aF [] e ?_;refine zq l ?_;generalize Zn ns=is at *;refine zj (zC (λs:Nat × List Pr × Nat=>s.1<=is.length/\s.2.1=(is.take s.1).map (Zo ps)) (λ(k,os,v)=>[(7,L ps),(12,.sl (nx+3) v 3 0 os.length),(43,L is),(44,I is.length),(45,I k)]) (λ(k,os,v)=>[.cells v0 25 (zB x),.dead,.dead,.cells v 387 (os.flatMap Enc.enc)]) (λs=>is.length-s.1) (0,[],v3) [] EB (by simp[e]) EB ?_);rintro⟨k,os,v⟩ ⟨q,m⟩;simp only at q m ⊢;refine EK ?_;refine za (zv rfl (λd=>?_) (λd=>?_));simp at d;obtain⟨i,tl,r,a2,a3,t⟩:=zF rfl is k d;obtain⟨q1,q2⟩:=o i (Aa r);obtain⟨j,rfl⟩:∃j:Nat,i=j:=⟨i.toNat,by omega⟩;have hj:j<ps.length:=EA;obtain⟨p,tp,b1,b2,b3,e1,e2⟩:=el 3 rfl ps j hj;have hg:Zo ps (j:Int)=p:=by simp[Zo,List.getD_eq_getElem?_getD,b1]
 have a0:(is.take (k+1)).map (Zo ps)=os++[p]:=by rw[a3,m];simp[hg]
 have a7:os.length=k:=by rw[m];simp;omega
 refine zh (aA (aF [] (zn t d) ?_));refine ze [] (zD e1 e2 hj) ?_;refine⟨by omega,?_⟩;refine zb ?_;exact zr (k+1,os++[p],v+1) [] ⟨d,a0.symm⟩ EF (by simp[zu k EA]) rfl EB;simp at d;obtain rfl:k=is.length:=EA;rw[Ah]at m;refine zx (zY 3 rfl ?_);refine EK ?_;exact zg (zi hd EC (by simp[zp,m]))
@[simp] theorem ZDV(d e a b c:Ob)(l:List Ob)(o:Ob × Ob × Ob):Qg (d::e::a::b::c::l) 2 o=d::e::o.1::o.2.1::o.2.2::l:=rfl
theorem HX.srt{o:Ob × Ob × Ob}{a:Nat}{r:zQ Int}(h:HX o a k j r):Zm r:=by obtain⟨_,_,_,h⟩:=h (λi=>if i=a then o.1 else if i=a+1 then o.2.1 else o.2.2) EB EB EB;exact h
def NH{id:Int}{r:zQ Int}(h:∀x∈r,x.1≠id):x8 id r=false:=by grind[x8]
def V7(p:Pr):List PV:=[.agg [I p.a,I p.b,I p.s]]
def x9(x:Inst)(c:List Int)(k:Nat):List (List Pr):=(c.take k).map (vO x c)
def oA(x:Inst)(c:List Int):x9 x c 0=[]:=by simp[x9]
def NI{x:Inst}{c:List Int}{a:Int}(h:c.take (k+1)=c.take k++[a]):x9 x c (k+1)=x9 x c k++[vO x c a]:=by simp[x9,h]
def NJ(x:Inst)(c:List Int):x9 x c c.length=c.map (vO x c):=by simp[x9]
def oB(x:Inst)(c:List Int)(k:Nat)(h:k<=c.length):(x9 x c k).length=k:=by simp_all[x9]
def ZH(rows:List (List Pr))(n:Nat):List PV:=rows.flatMap Enc.enc++List.replicate (n-rows.length) (.sc (.slice none 0 0))
def oE(rows:List (List Pr))(n:Nat)(h:rows.length<=n):(ZH rows n).length=n:=by simp_all[ZH]
def NK(n:Nat):ZH [] n=qw n (.slice none 0 0):=by unfold ZH;simp only[Cu,AI,Ag,Ek];induction n<;>simp_all[Jw,Br]
def NL(rows:List (List Pr)):ZH rows rows.length=rows.flatMap Enc.enc:=by simp[ZH]
def NM(rows:List (List Pr))(n:Nat)(r:List Pr)(h:rows.length<n):yl (ZH rows n) rows.length [L r]=ZH (rows++[r]) n:=by unfold ZH yl;have h1:(rows.flatMap Enc.enc).length=rows.length:=jJ rows;obtain⟨m,hm⟩:∃m,n-rows.length=m+1:=⟨n-rows.length-1,by omega⟩;rw[hm,Br];rw[BF EA,Ae EA];rw[CG,AT EB];simp[h1,show n-(rows.length+1)=m by omega]
def NN(rows:List (List Pr))(n:Nat)(r:List Pr):(ZH (rows++[r]) n)[rows.length]?=some (L r):=by unfold ZH;rw[Ar,List.append_assoc,Am (by rw[jJ];exact Af _),jJ];simp
def NO(rows:List (List Pr))(k:Nat)(r:List Pr)(h:k<rows.length):yl (rows.flatMap Enc.enc) k [L r]=(rows.set k r).flatMap Enc.enc:=by
 have e:∀l:List (List Pr),l.flatMap Enc.enc=l.map λr=>L r:=λl=>by induction l<;>simp_all
 rw[e,e,yl,List.map_set,AK,if_pos (by simpa using h)];simp
theorem cT:∀(rows:List (List Pr)) (i:Nat) (r:List Pr),qp i (rows++[r])=qp i rows++qp (i+rows.length) [r]
 |[],i,r=>by simp[qp]
 |[]::rows,i,r=>by simp only[List.cons_append,qp,Ab];rw[cT rows (i+1) r,show i+1+rows.length=i+(rows.length+1) by omega]
 |(p::l)::rows,i,r=>by simp only[List.cons_append,qp,Ab];rw[cT rows (i+1) r,show i+1+rows.length=i+(rows.length+1) by omega]
def NP(rows:List (List Pr)):qp 0 (rows++[[]])=qp 0 rows:=by rw[cT];simp[qp]
def NQ(rows:List (List Pr))(p:Pr)(tl:List Pr):(qp 0 (rows++[p::tl])).Perm (((rows.length:Int),-p.s)::qp 0 rows):=by rw[cT];simp only[qp,A3];exact Di
def oF{rows:List (List Pr)}(h:rows.getD k []=[]){r:zQ Int}(a:r.Perm (qp 0 rows)):x8 (k:Int) r=false:=by refine NH λx hx e=>?_;obtain⟨j,p,tl,b,rfl⟩:=(WN rows 0 x).1 (a.subset hx);simp only[A3]at e;have:j=k:=EA;subst this;rw[List.getD_eq_getElem?_getD,b]at h;cases h
def NR(x:Inst)(ss:List Stop):PP 322 [.agg (zB x),L ss] (.fn (.func 336) [] [.ip [L ss],.ip (zB x)]):=by refine zt func322 ntmps322 results322 λS nx a=>?_;refine EK ?_;intro v0 v1;refine EK ?_;refine w9 0 rfl ?_;refine w9 1 rfl ?_;exact EL a
def NS(x:Inst)(ss:List Stop)(hx:qG x)(f8:ss.length<=1048576)(hs:∀s∈ss,qA s.c)(b7:(ss.map (·.c)).Nodup):JA prog 336 [.ip [L ss],.ip (zB x)] ((jK x (ss.map (·.c))).map V7):=by
 have a5:=λS nx hd=>VW ss f8 S nx hd;obtain⟨zs,n⟩:∃zs,zs=ss.map (·.c):=⟨_,rfl⟩;have f9:ss.length=zs.length:=by rw[n];simp
 rw[<-n,f9]at a5;rw[<-n]at b7 ⊢;have d2:∀b∈zs,qA b:=by intro b hb;rw[n]at hb;obtain⟨s,h1,rfl⟩:=Aj.1 hb;exact hs s h1
 have d3:=VY zs;have d4:=nM zs;have d5:=(gf zs).2 b7;have g0:=JB zs;have d6:jK x zs=jK x (qt zs):=MR b7 d5 d4.symm;have d7:(qt zs).Pairwise (· < ·):=(List.Pairwise.and d3 d5).imp λ⟨h1,h2⟩=>by omega
 have g1:zs.length<=1048576:=EA;have a7:∀b∈qt zs,qA b:=λb hb=>d2 b (d4.subset hb);have b8:=λ(S:Store) (id ver:Nat) (hid:S id=.cells ver 3 (zs.flatMap Enc.enc))=>cL zs hid g1;rw[d6];generalize qt zs=c at *;clear n d3 d6;refine VR func336 EG rfl ntmps336 (congrArg Array.toList results336) EB λl V keep nx J g2 hY A0 g3=>?_;refine EK ?_;refine λd=>((a5 _ _ xM).mono ?_).v;rintro _ _ ⟨v1,rfl,rfl⟩;refine⟨_,_,WE _,xA [] Nat.add_assoc d ?_⟩;refine EK ?_;refine λd=>((b8 _ _ _ EB).mono ?_).v;rintro _ _ rfl;refine⟨_,_,yi _ EB EB,zO d ?_⟩;rw[<-g0];refine zY 1 rfl ?_;refine EK ?_;refine λd=>(MF.mono ?_).v;rintro p _ ⟨hv,mv,o1,rfl,m1,rfl⟩;refine⟨_,_,rfl,zO d ?_⟩;simp at m1;refine EK ?_;refine⟨by omega,λv0=>?_⟩;repeat apply za
 refine zb ?_;have g4:∀(row:List Pr) (a:Int),row=vO x c a->∀p∈row,IntKind.i64.wrap (-p.s)=-p.s:=by intro row a e p hp;rw[e]at hp;have h1:=(gx x c a).subset hp;unfold xO at h1;obtain⟨b,_,rfl⟩:=Aj.1 h1;have:=gy hx a b;show IntKind.i64.wrap (-ZG x a b)=-ZG x a b;exact wr _ EA EA
 refine zj (zC (λs:Nat × zQ Int × (Ob × Ob × Ob) × Nat=>s.1<=c.length/\s.2.1.Perm (qp 0 (x9 x c s.1))/\HX s.2.2.1 (nx+2) hv mv s.2.1) (λ(k,f,o,v)=>[(0,xN l),(2,.ip (zB x)),(4,L c),(5,.ptr (nx+3) hv 0),(6,.sl (nx+5) v 1 0 c.length),(21,L c),(22,I c.length),(23,I k)]) (λ(k,f,o,v)=>[.dead,.dead,o.1,o.2.1,o.2.2,.cells v 424 (ZH (x9 x c k) c.length)]) (λs=>c.length-s.1) (0,[],o1,v0) [] ⟨by simp,by simp[oA,qp],m1⟩ EB (by simp[oA,NK]) ?_);rintro⟨k,f,o,v⟩ ⟨hk,hp,hm⟩;simp only at hk hp hm ⊢;refine EK ?_;refine za (zv rfl (λhq=>?_) (λhq=>?_))
 .simp at hq;obtain⟨a,tl,a1,a2,a3,e0⟩:=zF rfl c k hq;have d8:=oB x c k EA;have a6:=NI (x:=x) a3;have a8:=NM (x9 x c k) c.length (vO x c a) EA;have d9:=NN (x9 x c k) c.length (vO x c a);have t:=oE (x9 x c k) c.length EA;have g:=oE (x9 x c k++[vO x c a]) c.length EF;rw[d8]at a8 d9;have c6:x8 (k:Int) f=false:=oF (k:=k) (rows:=x9 x c k) (by rw[List.getD_eq_getElem?_getD,Ao EA];rfl) hp;have c7:f.length<=k:=by rw[hp.length_eq];exact AF (cR _ _) EA
  refine zh (aA (aF [] (zn e0 hq) ?_));refine EK ?_;refine yP [] (NG x c a hx EA a7 (a7 a (Aa a1))) (zD a8 t hq) ?_;refine⟨by omega,?_⟩;have hw:=g4 (vO x c a) a rfl;have g5:=NQ (x9 x c k);have e8:=NP (x9 x c k);generalize h6:vO x c a=row at *;have a9:∀h,(ZH (x9 x c k++[row]) c.length)[k]'h=L row:=λh=>(Ad.1 d9).2;refine aF [] (zD a9 hq g) ?_;cases row with
  |nil =>
  refine zk rfl (zh (zb ?_));refine zr (k+1,f,o,v) [] ⟨hq,?_,hm⟩ EF (by simp[zu k EA]) rfl (by simp[a6]);simp only[a6,e8];exact hp
  |cons p rl =>
  have g6:=hw p EB;refine aD ?_;refine ze [] (zR a9 hq g g6) ?_;refine λd=>((oh (j:=2) hm rfl rfl rfl (k:Int) (-p.s) EA).mono ?_).v;rintro _ T ⟨rfl,o2,m2,rfl⟩;refine⟨_,_,rfl,?_⟩;rw[c6]at m2;simp only[cond_false]at m2;refine zO d ?_;refine zb ?_;refine zr (k+1,Qf ((k:Int),-p.s) f,o2,v) [] ⟨hq,?_,m2⟩ EF (by simp[zu k EA]) rfl (by simp[a6]);simp only[a6];have:=g5 p rl;rw[d8]at this;exact(V3 _ _).trans ((hp.cons _).trans this.symm)
 simp at hq;obtain rfl:k=c.length:=EA;obtain⟨e9,f0,f1⟩:=MZ (x:=x) d7;rw[<-NJ]at e9 f0 f1;have t:=oB x c c.length (Af _);have f2:=NL (x9 x c c.length);rw[t]at f2;rw[f2];generalize x9 x c c.length=rows at *;refine zx (zj (xk (σ:=Nat × Store × List (List Pr) × zQ Int × (Ob × Ob × Ob) × Nat) (λs=>s.1<=(jK x c).length/\J s.1 s.2.1/\Rows' c s.2.2.1/\(∀r∈s.2.2.1,Sd vN r)/\s.2.2.1.flatten.Perm ((jK x c).drop s.1)/\s.2.2.2.1.Perm (qp 0 s.2.2.1)/\HX s.2.2.2.2.1 (nx+2) hv mv s.2.2.2.1) (λs=>[(0,xN l),(5,.ptr (nx+3) hv 0),(6,.sl (nx+5) s.2.2.2.2.2 1 0 c.length)]) (λs=>s.2.1) (λs=>[.dead,.dead,s.2.2.2.2.1.1,s.2.2.2.2.1.2.1,s.2.2.2.2.1.2.2,.cells s.2.2.2.2.2 424 (s.2.2.1.flatMap Enc.enc)]) (λs=>(jK x c).length-s.1) (yb (0,A0,rows,f,o,v) [] ⟨by simp,g3,e9,f0,by simpa using f1,hp,hm⟩ EB rfl EB) ?_));rintro⟨i,A,rows,f,o,v⟩ ⟨hi,hJ,c8,f3,d0,hp,hm⟩;simp only at hi hJ c8 f3 d0 hp hm ⊢;have t:rows.length=c.length:=c8.len;have hs:=hm.srt;refine zj (za (xZ [] EG EG λK Gc Gh hK u a0 X m hX=>?_));simp -implicitDefEqProofs [m,hX];try clear m hX X
 refine u _ _ _ _ _ _ _ λd=>((ME (j:=2) hm rfl rfl rfl).mono ?_).v;rintro _ T ⟨rfl,o2,m2,rfl⟩;refine⟨_,_,rfl,?_⟩;cases f with
 |nil =>
 clear u a0;clear Gc Gh;refine w8 d (D:=[]) EG λGc Gh u a0 X m hX=>?_;simp -implicitDefEqProofs [m,hX,XB,ye,um];clear m hX X;refine hK _ _ _ ?_;clear hK u a0;clear K Gc Gh;have h0:∀r∈rows,r=[]:=by
  intro r hr;cases r with
  |nil=>rfl
  |cons p tl =>
  obtain⟨j,hj⟩:=Bv.1 hr;have:=(WN rows 0 ((j:Int),-p.s)).2 ⟨j,p,tl,hj,by rw[A3]⟩;rw[List.nil_perm.1 hp]at this;cases this
 have f4:=MM d0 hi h0;repeat apply za
 refine ze [(2,61)] zE ?_;exact zm rfl (zg (Z6 (g2 _ _ hJ) rfl (by simpa[f4] using hJ)))
 |cons it r =>
 obtain⟨q,y,tl,e1,e2,e3,e4,e5,e6,e7⟩:=Na d7 c8 f3 d0 hs hp.symm;subst e1;have a4:=(Ad.1 e2).1;have w:q<c.length:=EA;obtain⟨y',tr,a1,a2,a3,e0⟩:=zF rfl rows q a4;rw[e2]at a1;cases a1;have c7:=(Ad.1 e4).1;have g7:((jK x c).map V7)[i]?=some (V7 y):=by rw[Ai,e4];rfl
 clear u a0;clear Gc Gh;refine w8 d (D:=[]) EG λGc Gh u a0 X m hX=>?_;simp -implicitDefEqProofs [m,hX,XB,ye,um];clear m hX X;refine hK _ _ _ ?_;clear hK u a0;clear K Gc Gh;repeat apply za
 refine ze [(2,61)] (zR e0 w t zE) ?_;refine λd=>WF rfl rfl rfl (hY _ _ _ _ g7 hJ) ?_;rintro _ ⟨A',f5,rfl⟩;refine⟨_,_,rfl,xA [(2,61)] trivial d ?_⟩;refine zk rfl (zh ?_);have g8:=NO rows q tl a4;have g:(rows.set q tl).length=c.length:=by simp[t]
 have f6:q<(rows.set q tl).length:=EA;obtain⟨y',h8,a1,a2,a3,f7⟩:=zF rfl (rows.set q tl) q f6;rw[A9 a4]at a1;cases a1;have c6:x8 (q:Int) r=false:=oF (rows:=rows.set q []) (by rw[List.getD_eq_getElem?_getD,A9 a4];rfl) e3;have h7:r.length<=1048576:=by rw[e3.length_eq];exact AF (cR _ _) EF
 have d1:=λp tz=>cQ rows 0 q p tz a4;refine aF [] (zR e0 w t g8) ?_;refine⟨by omega,?_⟩;refine aF [] (zD f7 w g) ?_;cases tl with
 |nil =>
 exact zk rfl (zh (zr (i+1,A',rows.set q [],r,o2,v) [] ⟨c7,f5,e5,e6,e7,e3,m2⟩ EF EB rfl EB))
 |cons z tz =>
 have g9:z∈(rows.set q (z::tz)).flatten:=Bd.2 ⟨z::tz,Aa (A9 a4),by simp⟩;have h4:z∈Z9 x c:=(XE x c).subset (BS (e7.subset g9));have n:=(cP.1 h4).2.2.2;have h5:IntKind.i64.wrap (-z.s)=-z.s:=by rw[n];have:=gy hx z.a z.b;exact wr _ EA EA
 refine aD ?_;refine ze [] (zR f7 w g h5) ?_;refine λd=>((oh (j:=2) m2 rfl rfl rfl (q:Int) (-z.s) EF).mono ?_).v;rintro _ T ⟨rfl,o3,m3,rfl⟩;refine⟨_,_,rfl,?_⟩;simp only[List.tail_cons]at m3;rw[c6]at m3;simp only[cond_false]at m3;refine zO d ?_;refine zr (i+1,A',rows.set q (z::tz),Qf ((q:Int),-z.s) r,o3,v) [] ⟨c7,f5,e5,e6,e7,?_,m3⟩ EF EB rfl EB;have:=d1 z tz;rw[A3]at this;exact(V3 _ _).trans ((e3.cons _).trans this.symm)
def NT{x:Inst}{c:List Int}(h:c.Nodup)(hc:c.length<=1000):(jK x c).length<=1000000:=by rw[MO h];exact AF (Nat.mul_le_mul hc (Nat.sub_le _ _)) (Cp 1000 hc)
def JF(x:Inst)(ss:List Stop)(i:Nat):zo × Int:=((jK x (ss.map (·.c))).take i).foldl (jR x) (ss.map λs=>[s],(ss.length:Int))
def NU(x:Inst)(ss:List Stop):JF x ss 0=(ss.map λs=>[s],(ss.length:Int)):=by simp[JF]
variable {x:Inst}
def NV{p:Pr}(h:(jK x (ss.map (·.c)))[i]?=some p):JF x ss (i+1)=jR x (JF x ss i) p:=by unfold JF;obtain⟨h1,e⟩:=Ad.1 h;rw[AU h1,e,BJ];rfl
def NW(x:Inst)(ss:List Stop):JF x ss (jK x (ss.map (·.c))).length=gz x ss:=by simp[JF,gz]
def NX(x:Inst)(T:zo)(c:Int)(p:Pr):c-1<=(jR x (T,c) p).2/\(jR x (T,c) p).2<=c:=by unfold jR V5;cases qZ x (T,c).2 p (Ya (T,c).1 p.a) (Ya (T,c).1 p.b) ((T,c).1.getD (Ya (T,c).1 p.a) []) ((T,c).1.getD (Ya (T,c).1 p.b) [])<;>simp<;>omega
def NY(x:Inst)(ss:List Stop)(hx:qG x)(a8:x.y.length<=1048576)(z:ss.length<=1000)(hs:∀s∈ss,qA s.c)(q:(ss.map (·.c)).Nodup):PP 308 [.agg (zB x),L ss] (.agg [L (uq x ss)]):=by
 have d5:=NT (x:=x) q (by simpa using z);have a0:KeyOk (.int .i64) jy:=XA .i64;have r:∀k s,ss[k]?=some s->s.c ∉ (ss.take k).map (·.c):=by
  intro k s h hm;obtain⟨s',h1,h2⟩:=Aj.1 hm;obtain⟨j,hj⟩:=Bv.1 h1;rw[BV]at hj;split at hj;rename_i a9;have e1:(ss.map (·.c))[j]?=some s.c:=by rw[Ai,hj,<-h2];rfl
  have e2:(ss.map (·.c))[k]?=some s.c:=by rw[Ai,h];rfl
  obtain⟨g1,g2⟩:=Ad.1 e1;obtain⟨g3,g4⟩:=Ad.1 e2;exact BI.1 q j k g1 g3 a9 (g2.trans g4.symm);cases hj
 refine zt func308 ntmps308 results308 λS nx hd=>?_;refine EK ?_;intro v0 v1;refine EK ?_;intro w v3 v4;refine qy 3 6 97 1 rfl rfl λv5=>?_;repeat apply za
 refine zb ?_;refine zj (zC (λs:Nat × zo × List (Value × PV) × (Int->Option Int) × Nat=>s.1<=ss.length/\s.2.1=(ss.take s.1).map (λs=>[s])/\MapIs jy I s.2.2.1 s.2.2.2.1/\JI (ss.take s.1) s.2.1 s.2.2.2.1) (λ(k,T,es,g,v5)=>[(1,L ss),(2,.ptr nx v0 0),(4,.ptr (nx+1) v1 0),(5,.ptr (nx+4) v4 0),(18,L ss),(19,I ss.length),(20,I k)])
  (λ(k,T,es,g,v5)=>[.cells v0 25 (zB x),.cells v1 96 [.sc (.slice none 0 0)],.map w es,.cells v3 382 (WO x (nx+5) v5 k ss.length (nx+2) w),.cells v4 378 [.ptr (nx+3) v3 0],.cells v5 97 (T.flatMap Enc.enc)]) (λs=>ss.length-s.1) (0,[],[],λ_=>none,v5) [] ⟨by simp,by simp,nU _ _,by simpa using JI.nil⟩ EB EB ?_)
 rintro⟨k,T,es,g,v5⟩ ⟨hk,u,hm,hI⟩;simp only at hk u hm hI ⊢;have d:T.length=k:=by rw[u];simp;omega
 refine EK ?_;refine za (zv rfl (λe=>?_) (λe=>?_));simp at e;obtain⟨s,tl,a1,a2,a3,e1,e0⟩:=el 2 rfl ss k e;obtain⟨rs,f1,_,_,f4,_⟩:=hm.find a0 s.c;have a4:=f4 (k:Int);have a5:=hI.snoc s (r k s a1);have b7:(ss.take k).length=k:=EF;rw[b7,<-a3]at a5;have b8:T++[[s]]=(ss.take (k+1)).map λs=>[s]:=by rw[a3,u];simp
 have c6:(T.flatMap Enc.enc).take k=T.flatMap Enc.enc:=Ae (by rw[jJ];omega);have c7:(T.flatMap Enc.enc).length=k:=by rw[jJ,d]
 refine zh (aA (aF [] (zD e1 e0 e) ?_));intro v6;refine aG (some [nx+4,nx+6]) (Row.pures [0,1,2,3,5,6,7] (.alt 4 (.alt 8 (Row.pures [9,10] (.alt 11 (.done) .stop)) .stop) .stop)) mixed (zn c6 c7) ?_;refine⟨⟨by omega,by omega⟩,?_⟩;refine zA (some [nx+3,nx+4,nx+6]) Rr mixed trivial ?_;refine⟨by rfl,(QU (.inl rfl) underlying379 underlying3 rfl rfl rfl EB f1 ?_)⟩;rw[yi _ EA EB,show nx+2-nx=2 from by omega];refine⟨by simp[yY],xl trivial ?_⟩;refine zb ?_;exact zr (k+1,T++[[s]],jD (jy s.c) (I k) es rs,jG g s.c (some (k:Int)),v5+1) [_] ⟨e,b8,a4,a5⟩ EF (by simp[zu k EA]) rfl EC;simp at e;obtain rfl:k=ss.length:=EA;rw[Ah]at u hI;refine zx ?_;repeat apply za
 refine zb ?_;refine zq (NR x ss) ?_;refine zj (Xw (xs:=(jK x (ss.map (·.c))).map V7) (σ:=zo × Int × List (Value × PV) × (Int->Option Int)) (λi s=>(s.1,s.2.1)=JF x ss i/\i<=(jK x (ss.map (·.c))).length/\MapIs jy I s.2.2.1 s.2.2.2/\JI ss s.1 s.2.2.2/\(ss.length:Int)-i<=s.2.1/\s.2.1<=ss.length) [(4,.ptr (nx+1) v1 0),(5,.ptr (nx+4) v4 0)] (λ_=>S)
  (λ(T,a,es,g)=>[.cells v0 25 (zB x),.cells v1 96 [.sc (.slice none 0 0)],.map w es,.cells v3 382 (WO x (nx+5) v5 ss.length a (nx+2) w),.cells v4 378 [.ptr (nx+3) v3 0],.cells v5 97 (T.flatMap Enc.enc)]) (T,(ss.length:Int),es,g)
  (NS x ss hx EA hs q) rfl (by intro x hx;obtain⟨y,_,rfl⟩:=Aj.1 hx;rfl) EH EB ⟨by rw[NU,u],by simp,hm,hI,by simp,by simp⟩ rfl EB EB ?_ ?_)
 clear hm hI u d;rintro l i ⟨T,a,es,g⟩ more y ⟨b,hi,hm,hI,c8,d0⟩ hy;simp only at b hi hm hI c8 d0 ⊢;rw[Ai]at hy;obtain⟨p,hp,rfl⟩:=An.1 hy;obtain⟨d6,d7⟩:=Ad.1 hp;have n:=cP.1 ((XE x _).subset (Aa hp));have f:=NV hp;rw[<-b]at f;obtain⟨d8,d9⟩:=NX x T a p;refine xZ [] EG EG λK Gc Gh hK d1 d2 X a6 hX=>?_;simp -implicitDefEqProofs [a6,hX,V7];try clear a6 hX X
 intro v6;refine hK _ _ _ ?_;clear hK d1 d2;clear K Gc Gh;refine zj (zb ?_);refine λa7=>((Nk x ss T g a es a8 z EA hI hm (jid:=nx+3) (tid:=nx+5) (mid:=nx+2) (by rw[zS];rfl) (by rw[zS];rfl) (by rw[zS];rfl) EA EA EA p n.1 n.2.1).mono ?_).v;rintro _ _ ⟨d3,g2,m2,i2,rfl⟩;refine⟨_,_,(by rw[yi _ EA EB,yi _ EA EB,yi _ EA EB]),xA [] (zD (show nx+3-nx=3 from by omega) (show nx+5-nx=5 from by omega) (show nx+2-nx=2 from by omega)) a7 ?_⟩;simp only[xh];exact vK ((jR x (T,a) p).1,(jR x (T,a) p).2,d3,g2) [_] ⟨f.symm,by omega,m2,i2,by simp only;omega,by simp only;omega⟩ rfl EC;clear hm hI u d;rintro⟨T,a,es,g⟩ ⟨b,-,hm,hI,-,-⟩;simp only[List.length_map]at b hI ⊢;rw[NW]at b;have d:=hI.len;have d4:uq x ss=T.filter λt=>!t.isEmpty:=by unfold uq;rw[<-b]
 rw[d4];refine EK ?_;intro v6;refine qy 6 0 99 1 rfl rfl λo=>?_;repeat apply za
 refine zb ?_;refine zj (zC (λs:Nat × zo × Nat=>s.1<=T.length/\s.2.1=(T.take s.1).filter λt=>!t.isEmpty) (λ(k,out,o)=>[(4,.ptr (nx+1) v1 0),(9,.ptr (nx+6) v6 0),(54,.sl (nx+5) v5 1 0 ss.length),(55,I ss.length),(56,I k)]) (λ(k,out,o)=>[.cells v0 25 (zB x),.cells v1 96 [.sc (.slice none 0 0)],.map w es,.cells v3 382 (WO x (nx+5) v5 ss.length a (nx+2) w),.cells v4 378 [.ptr (nx+3) v3 0],.cells v5 97 (T.flatMap Enc.enc),.cells v6 96 [.sl (nx+7) o 1 0 out.length],.cells o 99 (out.flatMap Enc.enc)]) (λs=>T.length-s.1) (0,[],o) [] ⟨by simp,by simp⟩ EB EB ?_);rintro⟨k,out,o⟩ ⟨hk,ho⟩;simp only at hk ho ⊢;have e3:out.length<=k:=by rw[ho];exact AF (BR _ _) EF
 refine EK ?_;refine za (zv rfl (λe=>?_) (λe=>?_))
 .simp at e;obtain⟨t,tl,a1,a2,a3,e0⟩:=zF rfl T k EA;have m:(T.take (k+1)).filter (λt=>!t.isEmpty)=out++(if t=[] then [] else [t]):=by rw[a3,BM,<-ho];cases t<;>simp
  refine zh (aA (aF [] (zD e0 e d) ?_));refine EK ?_;cases t with
  |nil =>
  rw[if_pos rfl,AA]at m;refine aC (zb ?_);exact zr (k+1,out,o) [] ⟨by omega,m.symm⟩ EF (by simp[zu k EA]) rfl EB
  |cons s t =>
  rw[if_neg EB]at m;refine aD ?_;refine zb ?_;refine⟨by omega,?_⟩;refine zb ?_;exact zr (k+1,out++[s::t],o+1) [] ⟨by omega,m.symm⟩ EF (by simp[zu k EA]) rfl EB
 simp at e;obtain rfl:k=T.length:=EA;rw[Ah]at ho;refine zx (zY 7 rfl ?_);refine EK ?_;exact zg (zi hd EC (by simp[zp,ho]))
abbrev yB:PV:=.sc (.slice none 0 0)
def XG(pl:PV):Prop:=pl=yB\/∃n cs,pl=.lst n cs
def XH(l:List Stop):XG (L l):=.inr ⟨_,_,rfl⟩
abbrev WP(x:Inst)(b:Int):PV:=.fn (.func 304) [] [.ip (zB x),.ip [I b]]
abbrev fsL(x:Inst)(pl:PV)(b:Int):List PV:=[.fn (.func 305) [] [.ip [pl]],.fn (.func 307) [] [.ip [WP x b],.ip (zB x),.ip [pl]],.fn (.func 309) [] [.ip [WP x b],.ip [pl]],.fn (.func 310) [] [.ip (zB x),.ip [pl],.ip [WP x b]]]
def NZ(x:Inst)(a:PV)(b:Int)(c:XG a):PP 287 [.agg (zB x),a,I b] (.fn (.func 312) [] [.ip [.lst 4 (fsL x a b)]]):=by
 obtain rfl|⟨n,cs,rfl⟩:=c;all_goals
  refine zt func287 ntmps287 results287 λS nx d=>?_;refine EK ?_;intro v0 v1 e;refine w9 0 rfl ?_;refine w9 1 rfl ?_;refine w9 2 rfl ?_;refine EK ?_;intro v3;refine w9 3 rfl ?_;refine EK ?_;intro v4;refine w9 4 rfl ?_;refine EK ?_;exact EL d
def Oa(a:PV)(d:zo)(b:XG a)(c:PP 306 [a] (.agg [L d])):PP 305 [.ip [a]] (.tup [.agg [L d],B true]):=by
 obtain rfl|⟨n,cs,rfl⟩:=b;all_goals
  refine zt func305 ntmps305 results305 λS nx e=>?_;refine EK ?_;intro v0;refine EK ?_;refine zq c ?_;exact EL e
def gD(x:Inst)(b:Int)(d e:zo)(n:Int)(hI:PP 264 [.agg (zB x),.agg [L d],I b] (.tup [.agg [L e],I n])):PP 304 [.agg [L d],.ip (zB x),.ip [I b]] (.agg [L e]):=by refine zt func304 ntmps304 results304 λS nx a=>?_;refine EK ?_;intro v0 v1;refine EK ?_;refine zq hI ?_;refine EK ?_;exact EL a
def Oc(x:Inst)(a:PV)(b:Int)(d e:zo)(n:Int)(c:XG a)(f:PP 308 [.agg (zB x),a] (.agg [L d]))(hI:PP 264 [.agg (zB x),.agg [L d],I b] (.tup [.agg [L e],I n])):PP 307 [.ip [WP x b],.ip (zB x),.ip [a]] (.tup [.agg [L e],B true]):=by
 have g:=gD x b d e n hI;obtain rfl|⟨n,cs,rfl⟩:=c;all_goals
  refine zt func307 ntmps307 results307 λS nx h=>?_;refine EK ?_;intro v0;refine aG (some []) Ro mixed trivial ?_;refine zJ (f) trivial ?_;refine zJ (g) trivial ?_;exact EL h
def Od(x:Inst)(a:PV)(b:Int)(d e:zo)(n:Int)(c:XG a)(f:PP 306 [a] (.agg [L d]))(hI:PP 264 [.agg (zB x),.agg [L d],I b] (.tup [.agg [L e],I n])):PP 309 [.ip [WP x b],.ip [a]] (.tup [.agg [L e],B true]):=by
 have g:=gD x b d e n hI;obtain rfl|⟨n,cs,rfl⟩:=c;all_goals
  refine zt func309 ntmps309 results309 λS nx h=>?_;refine EK ?_;intro v0;refine aG (some []) RQ mixed trivial ?_;refine zJ (f) trivial ?_;refine zJ (g) trivial ?_;exact EL h
def oG(x:Inst)(a:PV)(b:Int)(d e:zo)(ok:Bool)(n:Int)(g:XG a)(f:PP 311 [.agg (zB x),a] (.tup [.agg [L d],B ok]))(hI:ok=true->PP 264 [.agg (zB x),.agg [L d],I b] (.tup [.agg [L e],I n])):
  PP 310 [.ip (zB x),.ip [a],.ip [WP x b]] (.tup [.agg [bif ok then L e else yB],B ok]):=by
 obtain rfl|⟨n,cs,rfl⟩:=g;all_goals
  cases ok with
  |false =>
  refine zt func310 ntmps310 results310 λS nx c=>?_;refine EK ?_;intro v0;refine EK ?_;refine zq f ?_;intro v1;repeat apply za
  refine zb ?_;refine zm rfl (EK ?_);exact EL c
  |true =>
  have h:=gD x b d e _ (hI rfl);refine zt func310 ntmps310 results310 λS nx c=>?_;refine EK ?_;intro v0;refine EK ?_;refine zq f ?_;intro v1;repeat apply za
  refine zb ?_;refine zk rfl (zh (EK ?_));refine zq h ?_;exact EL c
def Oe(fs:List PV)(rs:List (Option zo))(hl:rs.length=fs.length)(hn:fs.length<=1000)
  (h:∀(k:Nat) f,fs[k]?=some f->∃n a p,f=.fn (.func n) [] a/\Pure prog n a (.tup [.agg [p],B (rs.getD k none).isSome])/\∀d,rs.getD k none=some d->p=L d) :
  JA prog 312 [.ip [.lst fs.length fs]] ((rs.filterMap id).map λd=>[.agg [L d]]):=by
 refine VR func312 EG rfl ntmps312 (congrArg Array.toList results312) EB λl V keep nx J o v A0 q=>?_;refine EK ?_;refine zj (xk (σ:=Nat × Store) (λs=>s.1<=fs.length/\J ((rs.take s.1).filterMap id).length s.2) (λs=>[(0,xN l),(7,.lst fs.length fs),(8,I fs.length),(9,I s.1)]) (λs=>s.2) (λs=>[]) (λs=>fs.length-s.1) (yb (0,A0) [] (by simp[q]) EB rfl EB) ?_);rintro⟨k,A⟩ ⟨w,i⟩;simp only at w i ⊢;refine EK ?_;refine za (zv rfl (λhc=>?_) (λhc=>?_))
 .simp at hc;have t:fs.drop k=fs[k]::fs.drop (k+1):=AG hc;obtain⟨n,a,p,hf,e,u⟩:=h k fs[k] (Ac hc);rw[hf]at t;have g:k<rs.length:=EA;have c:rs.take (k+1)=rs.take k++[rs[k]]:=AU g;have x:rs.getD k none=rs[k]:=by rw[List.getD_eq_getElem?_getD,Ac g];rfl
  rw[x]at e u;refine zh (aA (aF [] (zn t hc) ?_));cases m:rs[k] with
  |none =>
  rw[m]at e c;simp only[DE]at e;have b:((rs.take (k+1)).filterMap id).length=((rs.take k).filterMap id).length:=by rw[c];simp
  refine EK ?_;refine zq e ?_;intro v0;refine aF [(1,19)] zE ?_;refine zk rfl (zh (zb ?_));exact zr (k+1,A) [_] ⟨hc,by rw[b];exact i⟩ EF (by simp[zu k EA]) rfl EC
  |some d =>
  obtain rfl:=u d m;rw[m]at e c;simp only[Option.isSome_some]at e;have b:((rs.take (k+1)).filterMap id).length=((rs.take k).filterMap id).length+1:=by rw[c];simp
  have hx:((rs.filterMap id).map λd=>[PV.agg [L d]])[((rs.take k).filterMap id).length]?=some [PV.agg [L d]]:=by
   have y:rs.filterMap id=(rs.take k).filterMap id++(d::(rs.drop (k+1)).filterMap id):=by
    conv=>lhs;rw[<-List.take_append_drop k rs,AG g,m]
    simp
   rw[Ai,y,Am (Af _),Bs];rfl
  refine EK ?_;refine zq e ?_;intro v0;refine aF [(1,19)] trivial ?_;refine λj=>WF rfl rfl rfl (v _ _ _ _ hx i) ?_;rintro _ ⟨A',r,rfl⟩;refine⟨_,_,rfl,xA [(1,19)] trivial j ?_⟩;refine zk rfl (zh (zb ?_));exact zr (k+1,A') [_] ⟨hc,by rw[b];exact r⟩ EF (by simp[zu k EA]) rfl EC
 simp at hc;obtain rfl:k=fs.length:=EA;rw[<-hl,Ah]at i;refine zx (Z6 (o _ _ i) rfl ?_);simpa using i
def uR(x:Inst)(st:zo × Int × Bool)(d:zo):zo × Int × Bool:=if yu x d=0 then (if st.2.2=false\/W (yf x d)<st.2.1 then (d,W (yf x d),true) else st) else st
def JG(x:Inst)(ds:List zo):zo × Int × Bool:=ds.foldl (uR x) ([],0,false)
def Of{K:(Nat->PV)->Store->Prop}(h:Q (.exit i) F S):QQ K Q (.exit i) F S:=h
def Og(h:Q .normal F S):xh i Q (.exit i) F S:=by simp[xh,h]
def uS(x:Inst)(e:Int)(ds:List zo):zo × Int:=if e=0 then (bif (JG x ds).2.2 then ((JG x ds).1,0) else ([],14)) else ([],e)
def oH(x:Inst)(o:PV)(b e:Int)(ds:List zo)(hp:XG o)(hx:x.y.length<=1048576)(hF:PP 286 [.agg (zB x),o] (I e))
  (hit:e=0->JA prog 312 [.ip [.lst 4 (fsL x o b)]] (ds.map λd=>[.agg [L d]])) (k:e=0->∀d∈ds,DayOk d/\d.flatten.length<=1048576) :
  PP 261 [.agg (zB x),o,I b] (.tup [.agg [L (uS x e ds).1],I (uS x e ds).2]):=by
 have hT:=NZ x o b hp;refine zt func261 ntmps261 results261 λS nx r=>?_;refine EK ?_;intro v0 v1;repeat apply za
 refine zb ?_;refine zq hF ?_;by_cases t:e=0;case neg =>
  refine EK ?_;refine zm (by simp[t]) ?_;refine EK ?_;refine yn 1 0 rfl rfl ?_;exact zg (zi r EC (by simp[uS,t,zp]))
 subst t;have hit:=hit rfl;have k:=k rfl;refine EK ?_;refine aC (EK ?_);intro z v3 v4;refine yn 2 0 rfl rfl ?_;repeat apply za
 refine zb ?_;refine zq hT ?_;refine zj (Xw (xs:=ds.map λd=>[PV.agg [L d]]) (σ:=zo × Int × Bool) (λi s=>s=(ds.take i).foldl (uR x) ([],0,false)/\i<=ds.length) [(3,.ptr nx v0 0),(6,.ptr (nx+1) v1 0),(7,I 0),(9,.ptr (nx+2) z 0),(10,.ptr (nx+3) v3 0),(11,.ptr (nx+4) v4 0)] (λ_=>S)
  (λ(h,f,g)=>[.cells v0 25 (zB x),.cells v1 96 [yB],.cells z 96 [L h],.cells v3 3 [I f],.cells v4 4 [B g]]) ([],0,false)
  hit rfl (by intro x hx;obtain⟨y,_,rfl⟩:=Aj.1 hx;rfl) EH EB ⟨by simp,by simp⟩ rfl EB EB ?_ ?_)
 rintro l i ⟨h,f,g⟩ more y ⟨j,hi⟩ hy;simp only at j hi ⊢;rw[Ai]at hy;obtain⟨d,p,rfl⟩:=An.1 hy;obtain⟨u,v⟩:=Ad.1 p;obtain⟨m,w⟩:=k d (Aa p);have q:=gg x d hx m.1 m.2 w;have n:=WM x d m;have a:(ds.take (i+1)).foldl (uR x) ([],0,false)=uR x (h,f,g) d:=by rw[AU u,v,BJ,<-j];rfl
 unfold uR at a;simp only at a;refine zb ?_;intro v5;refine zj ?_;repeat apply za
 refine zb ?_;refine zq q ?_;by_cases h1:yu x d=0
 .rw[if_pos h1]at a;refine zk (by simp[h1]) ?_;refine zh (EK ?_);refine zq n ?_;generalize W (yf x d)=c at *;cases g with
  |false =>
  rw[if_pos (.inl rfl)]at a;refine aF [(2,36)] zE ?_;refine zm rfl (zb ?_);simp only[xh];exact vK (d,c,true) [_] ⟨a.symm,by omega⟩ rfl EC
  |true =>
  by_cases h2:c<f;rw[if_pos (.inr h2)]at a;refine aF [(2,36)] (zn h2 zE) ?_;refine zm rfl (zb ?_);simp only[xh];exact vK (d,c,true) [_] ⟨a.symm,by omega⟩ rfl EC;rw[if_neg (by simp[h2])]at a;refine aF [(2,36)] (zn h2 zE) ?_;refine zk rfl (zh ?_);simp only[xh];exact vK (h,f,true) [_] ⟨a.symm,by omega⟩ rfl EC
 rw[if_neg h1]at a;refine zm (by simp[h1]) ?_;refine zx (Of (Og ?_));exact vK (h,f,g) [_] ⟨a.symm,by omega⟩ rfl EC;rintro⟨h,f,g⟩ ⟨j,-⟩;simp only[List.length_map,Ah]at j ⊢;have hz:JG x ds=(h,f,g):=j.symm;cases g with
 |false =>
 repeat apply za
 refine zb ?_;refine zm rfl (EK ?_);refine yn 1 0 rfl rfl ?_;exact zg (zi r EC (by simp[uS,hz,zp]))
 |true =>
 repeat apply za
 refine zb ?_;refine zk rfl (zh (EK ?_));exact zg (zi r EC (by simp[uS,hz,zp]))
def oI(a:List PV)(s:Stop)(hl:a.length=13):PP 327 [.agg a,.agg [I s.c,I s.q]] (.fn (.func 343) [] [.ip [I s.c,I s.q],.ip a]):=by refine zt func327 ntmps327 results327 λS nx b=>?_;refine aF [] hl ?_;intro v0 v1;refine EK ?_;refine w9 0 rfl ?_;refine w9 1 rfl ?_;exact EL b
open Go.Proofs
def XI:ElemOk prog 97 101 (.agg #[.int .i64 0,.int .i64 0]) 16 :=
 ⟨underlying97,by simp,by simp,by simp,by simp,by omega⟩
def oJ(a:Addr)(n c:Nat)(w W2:World)(u:Value)(b:∀ty,(Builtin.append_ #[97,97] ty #[.slice (some ⟨w.heap.size,0,none⟩) 0 0,.slice (some a) n c]).run prog (w.alloc (.cells #[] 101))=.ok u W2):
  Calls prog 292 #[.slice (some a) n c] w λe w'=>e=.returned u/\w'=W2:=by
 have mixed:prog.follows .mixedOrders=true:=ED;have g:∀(w:World) (a:Option Addr) (n c d f:Nat),(binOp .eql 97 (.slice a n c) (.slice none d f)).run prog w=.ok (.bool a.isNone) w:=λw a n c d f=>Lib.run_eql_slice_nil w _ _ a n c d f underlying97
 go_enter func292,ntmps292
 go_wp2_with (at_builtin;refine Lib.wpList_append_run _ rfl _ _ _ _ rfl _ _ rfl rfl _ _ (b _) ?_)
 go_wp2
 go_ret
 exact⟨rfl,rfl⟩
def Oh(n c:Nat)(w:World):
  Calls prog 292 #[.slice none n c] w λe w'=>e=.returned (.slice none 0 0)/\w'=w:=by
 have mixed:prog.follows .mixedOrders=true:=ED;have f:∀(w:World) (a:Option Addr) (n c b d:Nat),(binOp .eql 97 (.slice a n c) (.slice none b d)).run prog w=.ok (.bool a.isNone) w:=λw a n c b d=>Lib.run_eql_slice_nil w _ _ a n c b d underlying97
 go_enter func292,ntmps292
 go_wp2
 go_ret
 exact⟨rfl,rfl⟩
def gE(l:List Stop)(h0:0<l.length)(hn:l.length<=1048576)(S:Store)(nx:Nat)(t:S nx=.dead):
  SP 292 [L l] S (λp S'=>∃v,p=.sl nx v 2 0 l.length/\S'=S.set nx (.cells v 101 (l.flatMap Enc.enc))):=by
 refine⟨qL func292 EG rfl,?_⟩;intro C w vs x hl y;obtain⟨u,rfl⟩:=fZ hl;have j:Rel C S w (.lst l.length (l.flatMap Enc.enc)) u:=y 0 _ u rfl rfl;obtain⟨a,cap,rfl⟩:∃a cap,u=.slice (some a) l.length cap:=by
  generalize hq:l.flatMap Enc.enc=cs at j;generalize l.length=n at *;cases j with
  |lst0=>omega
  |lst1=>exact⟨_,_,rfl⟩
 obtain⟨k1,r,m1⟩:=x.alloc (.cells #[] 101);have hc:prog.cellsOf 101=2:=EB;obtain⟨news,c,h,_⟩:=ck (P:=prog) (sz:=2) (m:=l.length) (ds:=l.flatMap Enc.enc) k1 (by simp[Y5]) (j.mono r);rw[<-hc]at c;have f:=λty=>cj (P:=prog) (ty:=ty) (b:=some ⟨w.heap.size,0,none⟩) (k:=0) (cap:=0) (olds:=[]) XI.ty XI.pos XI.zero XI.bytes c (run_firstCells_some _ _ 0 ⟨w.heap.size,0,none⟩ 0 0 [] EB EB) EA EA XI.bpos;simp only[A3]at f;refine(oJ a l.length cap w _ _ f).mono ?_;rintro e w' ⟨rfl,rfl⟩;have o:=grownCap_ge (w.alloc (.cells #[] 101)) l.length 0 101;obtain⟨z,s⟩:=k1.drew;have q:Fresh C S nx C.clock:=.clock C t;have d:=Wt (cs:=[]) (vs:=[]) (by simp[RelL]) h (Builtin.zeroCells (Value.agg #[.int .i64 0,.int .i64 0]).cells (grownCap (w.alloc (.cells #[] 101)) l.length 0 101-l.length)).toList;simp only[AI]at d;have g:∀i:Nat,(([]:List Value).toArray++news.toArray++Builtin.zeroCells (Value.agg #[.int .i64 0,.int .i64 0]).cells (grownCap (w.alloc (.cells #[] 101)) l.length 0 101-l.length):Array Value)[i]?=(news++(Builtin.zeroCells (Value.agg #[.int .i64 0,.int .i64 0]).cells (grownCap (w.alloc (.cells #[] 101)) l.length 0 101-l.length)).toList)[i]?:=by intro i;rw[<-Array.getElem?_toList];simp
 obtain⟨t1,t2⟩:=z.object' q 101 (([]:List Value).toArray++news.toArray++Builtin.zeroCells (Value.agg #[.int .i64 0,.int .i64 0]).cells (grownCap (w.alloc (.cells #[] 101)) l.length 0 101-l.length)) (l.flatMap Enc.enc) (by have:=d.1;simp at this ⊢;omega) (λi v hi hv=>d.2.1 i v hi (by rw[<-g];exact hv)) (λi p v hp hv=>(d.2.2 i p v hp (by rw[<-g];exact hv)).mono s);refine⟨_,_,_,_,rfl,⟨C.clock,rfl,rfl⟩,VM C S _ _ _ _ _ _ _ _ _ rfl o (AF hn (by unfold xx;omega)) (grownCap_le_maxLen _ _ _ _ (by unfold maxLen;omega)) ?_,t1,r.trans (s.trans t2)⟩;have:=c.size;simp only[Cz,size_zeroCells,B1,this,hc];simp[Value.cells];omega
def cU(l:List Stop)(hn:l.length<=1048576):PP 292 [L l] (L l):=by
 by_cases h0:0<l.length;exact cy 0 (λS nx n=>gE l h0 hn S nx (n nx (Af _))) EB;obtain rfl:l=[]:=Av EA;intro S;refine⟨qL func292 EG rfl,?_⟩;intro C w vs g hl o;obtain⟨u,rfl⟩:=fZ hl;have h:Rel C S w (.lst 0 []) u:=o 0 _ u rfl rfl;obtain⟨a,cap,rfl⟩:∃a cap,u=.slice a 0 cap:=by
  cases h with
  |lst0=>exact⟨_,_,rfl⟩
  |lst1=>exact⟨_,_,rfl⟩
 cases a with
 |none =>
 refine(Oh 0 cap w).mono ?_;rintro e w' ⟨rfl,rfl⟩;exact⟨_,_,_,_,rfl,⟨rfl,rfl⟩,.lst0,g,.refl _ _ _⟩
 |some a =>
 obtain⟨k1,i,p⟩:=g.alloc (.cells #[] 101);have hc:prog.cellsOf 101=2:=EB;obtain⟨news,c,j,_⟩:=ck (P:=prog) (sz:=2) (m:=0) (ds:=[]) k1 (by simp[Y5]) (h.mono i);have f:news=[]:=Av (by rw[c.size,Dh]);subst f;rw[<-hc]at c;have d:=λty=>fA (P:=prog) (ty:=ty) (b:=some ⟨w.heap.size,0,none⟩) (k:=0) (cap:=0) XI.ty XI.pos c (Af 0);refine(oJ a 0 cap w _ _ d).mono ?_;rintro e w' ⟨rfl,rfl⟩;exact⟨_,_,_,_,rfl,⟨rfl,rfl⟩,.lst0,k1,i⟩
def Oi{id ver:Nat}(cs:List Stop)(s:Stop)(hn:cs.length<=1000000)(hid:S id=.cells ver 101 (cs.flatMap Enc.enc)):
  SP 329 [.sl id ver 2 0 cs.length,I cs.length,L [s]] S (λp S'=>p=.sl id (ver+1) 2 0 (cs.length+1)/\S'=S.set id (.cells (ver+1) 101 ((cs++[s]).flatMap Enc.enc))):=by
 refine yr func329 ntmps329 results329 λnx d=>?_;have b:id<nx:=by obtain h|h:=Bo id nx;exact h;have:=d id h;rw[hid]at this;cases this
 have hx:=λobs=>(zG (S:=S) (obs:=obs) b).trans hid;have a:¬nx<=id:=EA;refine aF [] hx ?_;refine aF [] hx ?_;refine aF [] hx ?_;repeat apply za
 refine ze [] hx ?_;refine zk rfl (zh (aF [] hx ?_));repeat apply za
 refine ze [] hx ?_;refine zm rfl (aF [] (zn hx a) ?_);refine⟨by omega,?_⟩;have c:∀(o:Ob),yd nx (S.set id o):=by intro o q e;rw[q10 _ _ _ _ EA];exact d q e
 exact zg ⟨_,_,by simp;rfl,⟨by simp[zp],by simp⟩,zV (c _)⟩
def Oj{id ver:Nat}(cs:List Stop)(i:Nat)(s:Stop)(hi:i<=cs.length)(hn:cs.length<=1000000)(hid:S id=.cells ver 101 (cs.flatMap Enc.enc)):
  SP 329 [.sl id ver 2 0 cs.length,I i,L [s]] S (λp S'=>p=.sl id (ver+1) 2 0 (cs.length+1)/\S'=S.set id (.cells (ver+1) 101 ((cs.take i++s::cs.drop i).flatMap Enc.enc))):=by
 by_cases h:i=cs.length;subst h;rw[Ah,Bz];exact Oi cs s hn hid;exact LJ cs i s EA hn hid
def XJ(d:zo)(t nx:Nat)(k:Nat)(ts:List PV)(ob:Ob):Prop :=
 ts.length=k/\(k<=t->ts=(d.take k).flatMap Enc.enc/\ob=.dead) /\
 (t<k->∃v l,d[t]?=some l/\ts=((d.take k).flatMap Enc.enc).set t (.sl (nx+4) v 2 0 l.length)/\ob=.cells v 101 (l.flatMap Enc.enc))
variable {ts:List PV}
def Ol{d:zo}{t:Nat}(h:XJ d t nx k ts o)(g:k<d.length)(i:k≠t):XJ d t nx (k+1) (ts++[L d[k]]) o:=by obtain⟨h1,h2,h3⟩:=h;have e:d.take (k+1)=d.take k++[d[k]]:=AU g;refine⟨by simp[h1],λf=>?_,λf=>?_⟩;obtain⟨a,b⟩:=h2 EA;exact⟨by rw[e,a,Ar];rfl,b⟩;obtain⟨v,l,a,b,c⟩:=h3 EA;refine⟨v,l,a,?_,c⟩;rw[b,e,Ar,List.set_append_left _ _ (by rw[jJ];simp;omega)];rfl
def Om{d:zo}{t:Nat}(h:XJ d t nx t ts o)(b:t<d.length)(v:Nat):XJ d t nx (t+1) (ts++[.sl (nx+4) v 2 0 d[t].length]) (.cells v 101 (d[t].flatMap Enc.enc)):=by
 obtain⟨h1,h2,h3⟩:=h;have e:d.take (t+1)=d.take t++[d[t]]:=AU b;refine⟨by simp[h1],λc=>by omega,λ_=>⟨v,d[t],Ac b,?_,rfl⟩⟩;obtain⟨a,-⟩:=h2 (Af _);have hl:((d.take t).flatMap Enc.enc).length=t:=by rw[jJ];simp;omega
 rw[a,e,Ar,BQ _ _ EA,hl,Bs];rfl
def gF(d:zo)(t:Nat)(q:d.length<=1048576)(g:∀l∈d,l.length<=1048576)(r:∀l,d[t]?=some l->0<l.length)(S:Store)(nx:Nat)(m:yd nx S):
  SP 328 [.agg [L d]] S (λp S'=>∃v ts ob,XJ d t nx d.length ts ob/\p=.agg [.sl (nx+3) v 1 0 d.length]/\S'=(S.set (nx+3) (.cells v 99 ts)).set (nx+4) ob):=by
 refine Z7 m func328 ntmps328 results328 ?_;refine EK ?_;intro v0 v1;refine EK ?_;intro e;refine qy 2 0 99 1 rfl rfl λv3=>?_;repeat apply za
 refine zb ?_;show PW _ _ _ _ _ _ _ (ext _ _ _);rw[mZ 1];refine zj (zC (λ(s:Nat × List PV × Ob × Nat × Nat)=>s.1<=d.length/\XJ d t nx s.1 s.2.1 s.2.2.1) (λ(k,ts,ob,e,v3)=>[(2,.ptr (nx+1) v1 0),(3,.ptr (nx+2) e 0),(7,L d),(8,I d.length),(9,I k)]) (λ(k,ts,ob,e,v3)=>[.cells v0 96 [L d],.cells v1 96 [yB],.cells e 96 [.sl (nx+3) v3 1 0 k],.cells v3 99 ts,ob]) (λs=>d.length-s.1) (0,[],.dead,e,v3) [] ⟨by simp,by simp[XJ]⟩ EB EB ?_);rintro⟨k,ts,ob,e,v3⟩ ⟨u,hI⟩;simp only at u hI ⊢;have a:=hI.1;have b:ts.take k=ts:=Ae EA;refine EK ?_;refine za (zv rfl (λhc=>?_) (λhc=>?_))
 .simp at hc;obtain⟨l,tl,n,x,a3,w⟩:=zF rfl d k hc;obtain⟨c,rfl⟩:=Ad.1 n;have i:1<=d.length-k:=EA;refine zh (aA (aF [] (zD hc w i) ?_));intro v5;by_cases h:k=t
  .subst h;have f:=gE d[k] (r _ n) (g _ (AZ c));obtain rfl:=(hI.2.1 (Af _)).2;refine zA (some [nx+5]) R5 mixed (zn a b) ?_;refine⟨?_,?_⟩;all_goals
    skip;refine((f _ (nx+4) EB).mono ?_).v;rintro _ _ ⟨v4,rfl,rfl⟩;rw[yi _ EA EB,AM];refine⟨by simp[yY],xl (zn a b) ?_⟩;refine⟨by omega,?_⟩;refine zb ?_;exact zr (k+1,_,_,e,v3+1) [_] ⟨hc,Om hI c v4⟩ EF (by simp[zu k EA]) rfl EC
  have f:=cU d[k] (g _ (AZ c));refine zA (some [nx+5]) Rw mixed (zn a b) ?_;refine zJ (f) (zn a b) ?_;refine⟨by omega,?_⟩;refine zb ?_;exact zr (k+1,_,_,e,v3+1) [_] ⟨hc,Ol hI c h⟩ EF (by simp[zu k EA]) rfl EC
 simp at hc;obtain rfl:k=d.length:=EA;refine zx (EK ?_);refine zg ⟨_,(S.set (nx+3) (.cells v3 99 ts)).set (nx+4) ob,by simp;rfl,⟨v3,ts,ob,hI,rfl,rfl⟩,?_⟩;intro o;by_cases j:o=nx+4;subst j;exact .inl (by rw[q11];simp);by_cases h3:o=nx+3;subst h3;exact .inl (by rw[q10 _ _ _ _ j,q11];simp);rw[q10 _ _ _ _ j,q10 _ _ _ _ h3];exact zV m o
def On(d:zo)(a:d.length<=1048576)(b:∀l∈d,l.length<=1048576):PP 328 [.agg [L d]] (.agg [L d]):=by refine mY (k:=d.length) (sz:=1) (e:=99) (cs:=d.flatMap Enc.enc) 3 (λS nx c=>(gF d d.length a b EB S nx c).mono ?_) EB;rintro _ _ ⟨v,ts,ob,⟨h1,h2,-⟩,rfl,rfl⟩;obtain⟨rfl,rfl⟩:=h2 (Af _);rw[Ah];refine⟨v,rfl,?_⟩;funext o;by_cases f:o=nx+4;subst f;rw[q11,q10 _ _ _ _ EA,c _ EA];rw[q10 _ _ _ _ f]
def Oo(d:zo)(t:Nat)(l:zM)(a:d.length<=1048576)(b:∀l∈d,l.length<=1048576)(c:d[t]?=some l)(hl:0<l.length)(S:Store)(nx:Nat)(e:yd nx S):
  SP 328 [.agg [L d]] S (λp S'=>∃v w,p=.agg [.sl (nx+3) v 1 0 d.length] /\
   S'=(S.set (nx+3) (.cells v 99 ((d.flatMap Enc.enc).set t (.sl (nx+4) w 2 0 l.length)))).set (nx+4) (.cells w 101 (l.flatMap Enc.enc))):=by
 refine(gF d t a b (λm hm=>by rw[c]at hm;cases hm;exact hl) S nx e).mono ?_;rintro _ _ ⟨v,ts,ob,⟨h1,-,h3⟩,rfl,rfl⟩;obtain⟨w,m,hm,rfl,rfl⟩:=h3 (Ad.1 c).1;rw[c]at hm;cases hm;rw[Ah];exact⟨v,w,rfl,rfl⟩
def xp(x:Inst)(t:zM):Int:=W (yJ x (t.map (·.c)))
def jZ(t:zM):Int:=W (yc t)
def qC(x:Inst)(d:zo):Nat:=(d.filter λt=>decide (zX x t≠0)).length
def Oq(x:Inst)(d e:zo):qC x (d++e)=qC x d+qC x e:=by simp[qC]
def Ot(x:Inst)(t:zM):qC x [t]=if zX x t=0 then 0 else 1:=by by_cases h:zX x t=0<;>simp[qC,h]
def oK(x:Inst)(d:zo):qC x d<=d.length:=BR _ _
abbrev YB(x:Inst)(d:zo):List PV:=[I x.days,I x.X,I x.Q,I x.len,L x.y,L x.O,L d,L (qt (d.flatten.map (·.c))),B (decide (¬(qt (d.flatten.map (·.c))).Nodup)),L (d.map (zX x)),I (qC x d),L (d.map jZ),L (d.map (xp x))]
def oL(x:Inst)(d:zo)(hx:x.y.length<=1048576)(a:DayOk d)(hf:d.flatten.length<=1048576):PP 324 [.agg (zB x),.agg [L d]] (.agg (YB x d)):=by
 have h1:=nL d a.1 hf;have h2:=nT d.flatten hf;have h3:=nS (qt (d.flatten.map (·.c))) (by rw[JB,List.length_map];exact hf) (VY _);generalize i:qt (d.flatten.map (·.c))=on at *;generalize j:decide (¬on.Nodup)=tw at *;refine zt func324 ntmps324 results324 λS nx q=>?_;refine EK ?_;intro v0 v1 g;refine aG (some [nx,nx+1]) (Row.pures [0,1,2,3,4,5] (.alt 6 (.alt 7 (.done) .stop) .stop)) mixed trivial ?_;refine zJ (h1) trivial ?_;refine zJ (h2) trivial ?_;intro v3;refine EK ?_;refine zq h3 ?_;repeat apply za
 refine zb ?_;refine qy 3 9 49 1 rfl rfl λv4=>?_;refine qy 3 11 3 1 rfl rfl λv5=>?_;refine qy 3 12 3 1 rfl rfl λb=>?_;refine zj (zC (λ(k,v4,v5,b)=>k<=d.length) (λ(k,v4,v5,b)=>[(2,.ptr nx v0 0),(4,.ptr (nx+2) g 0),(5,.ptr (nx+3) v3 0),(20,L d),(21,I d.length),(22,I k)])
  (λ(k,v4,v5,b)=>[.cells v0 25 (zB x),.cells v1 96 [L d],.cells g 390 [I 0,I 0,I 0,I 0,yB,yB,yB,yB,B false,yB,I 0,yB,yB],
   .cells v3 390 [I x.days,I x.X,I x.Q,I x.len,L x.y,L x.O,L d,L on,B tw,.sl (nx+4) v4 1 0 k,I (qC x (d.take k)),.sl (nx+5) v5 1 0 k,.sl (nx+6) b 1 0 k],
   .cells v4 49 (((d.map (zX x)).take k).flatMap Enc.enc),.cells v5 3 (((d.map jZ).take k).flatMap Enc.enc),.cells b 3 (((d.map (xp x)).take k).flatMap Enc.enc)]) (λs=>d.length-s.1) (0,v4,v5,b) [] EB EB (by simp[qC]) ?_)
 rintro⟨k,v4,v5,b⟩ r;simp only at r ⊢;refine EK ?_;refine za (zv rfl (λhc=>?_) (λhc=>?_));simp at hc;obtain⟨t,tl,u,a2,a3,v⟩:=zF rfl d k hc;have l:1<=d.length-k:=EA;have e:=Aa u;have hm:=V1 x t hx (a.t t e);have hl:=nJ t (a.t t e);have w:=VX x t (a.t t e) (a.s t e);have b1:qC x (d.take (k+1))=qC x (d.take k)+if zX x t=0 then 0 else 1:=by rw[a3,Oq,Ot]
 have b2:=oK x (d.take k);rw[Az]at b2;have b3:=a.n;have b4:=Nat.min_le_left k d.length;have y:(((d.map (zX x)).take (k+1)).flatMap Enc.enc:List PV)=((d.map (zX x)).take k).flatMap Enc.enc++[I (zX x t)]:=by rw[<-List.map_take,<-List.map_take,a3];simp
 have z:(((d.map jZ).take (k+1)).flatMap Enc.enc:List PV)=((d.map jZ).take k).flatMap Enc.enc++[I (W (yc t))]:=by rw[<-List.map_take,<-List.map_take,a3];simp[jZ]
 have f3:(((d.map (xp x)).take (k+1)).flatMap Enc.enc:List PV)=((d.map (xp x)).take k).flatMap Enc.enc++[I (W (yJ x (t.map (·.c))))]:=by rw[<-List.map_take,<-List.map_take,a3];simp[xp]
 have l1:(((d.map (zX x)).take k).flatMap Enc.enc:List PV).length=k:=by rw[jY,Az,List.length_map];omega
 have l2:(((d.map jZ).take k).flatMap Enc.enc:List PV).length=k:=by rw[jY,Az,List.length_map];omega
 have m:(((d.map (xp x)).take k).flatMap Enc.enc:List PV).length=k:=by rw[jY,Az,List.length_map];omega
 generalize ((d.map (zX x)).take k).flatMap Enc.enc=c1 at *;generalize ((d.map jZ).take k).flatMap Enc.enc=c2 at *;generalize ((d.map (xp x)).take k).flatMap Enc.enc=c3 at *;have t1:c1.take k=c1:=Ae EA;have o:c2.take k=c2:=Ae EA;have t3:c3.take k=c3:=Ae EA;generalize qC x (d.take k)=h at *;have wb:IntKind.i64.wrap ((h:Int)+1)=((h+1:Nat):Int):=zu h EA;generalize zX x t=mt at *;generalize W (yc t)=lt at *;generalize W (yJ x (t.map (·.c)))=wt at *;refine zh (aA (aF [] (zD hc v l) ?_));intro p;refine EK ?_;refine zq hm ?_;repeat apply za
 refine zb ?_;refine qT (nx:=nx) (λ_:Unit=>True) (λ_=>[(2,.ptr nx v0 0),(4,.ptr (nx+2) g 0),(5,.ptr (nx+3) v3 0),(7,.ptr (nx+7) p 0),(8,I mt),(20,L d),(21,I d.length),(22,I k)]) (λ_=>S) (λ_=>[.cells v0 25 (zB x),.cells v1 96 [L d],.cells g 390 [I 0,I 0,I 0,I 0,yB,yB,yB,yB,B false,yB,I 0,yB,yB],
  .cells v3 390 [I x.days,I x.X,I x.Q,I x.len,L x.y,L x.O,L d,L on,B tw,.sl (nx+4) v4 1 0 k,I (h+(if mt=0 then 0 else 1):Nat),.sl (nx+5) v5 1 0 k,.sl (nx+6) b 1 0 k],
  .cells v4 49 c1,.cells v5 3 c2,.cells b 3 c3,.cells p 99 [L t]]) ?_ ?_
 repeat apply za
 refine zv rfl (λf=>?_) (λf=>?_);simp at f;rw[if_neg f];refine ze [] wb ?_;exact yb () [] trivial EB rfl EB;simp at f;rw[if_pos f];exact zh (yb () [] trivial EB rfl EB);rintro⟨⟩ -;refine aF [] (zn t1 l1) ?_;refine⟨by omega,?_⟩;refine aG (some [nx+7]) RC mixed (zn o l2) ?_;refine zJ (hl) (zn o l2) ?_;refine⟨by omega,?_⟩;refine zA (some [nx,nx+7]) (Row.pures [0,2,3,4,5] (.alt 1 (.alt 6 (Row.pures [7] (.alt 8 (.done) .stop)) .stop) .stop)) mixed (zn t3 m) ?_;refine zJ (w) (zn t3 m) ?_;refine⟨by omega,?_⟩;refine zb ?_;exact zr (k+1,v4+1,v5+1,b+1) [_] EF EF (by simp[zu k EA]) rfl (by simp only[y,z,f3,b1];simp;rfl);simp at hc;obtain rfl:k=d.length:=EA;refine zx (EK ?_);refine zY 6 rfl ?_;refine zY 5 rfl ?_;refine zY 4 rfl ?_;have g1:(d.map (zX x)).take d.length=d.map (zX x):=Ae EB;have g2:(d.map jZ).take d.length=d.map jZ:=Ae EB;have g3:(d.map (xp x)).take d.length=d.map (xp x):=Ae EB;exact zg (zi q EC (by simp[zp,g1,g2,g3];simp[<-i,<-j]))
def cV(P:Program)(k:FuncId)(args:Nat->List PV)(xs:List (List PV))(ret:PV):Prop :=
 qS P k/\∀(l:Nat) (V:Ctx->Store->World->Prop) (_:∀{C C':Ctx} {S S':Store} {w w':World},Step C S w C' S' w'->V C S w->V C' S' w') (m:Nat) (J:Nat->Store->Prop),(∀i A,J i A->yd m A) ->
  (∀i A obs x,xs[i]?=some x->J i A->PYield P V l x (ext A m obs) (λT=>∃A',J (i+1) A'/\T=ext A' m obs)) ->
  ∀A,J 0 A->PCallsV P V k (args l) A (λp T=>p=ret/\J xs.length T)
def oM {P : Program} {N : Nat} {f : FuncId} {fn : Func} {c : Code} {rs : List ResultVar} {args : Nat → List PV} {xs : List (List PV)} {ret : PV} (hf : P.funcs[f]? = some fn) (hname : (fn.name == "runtime.NumGoroutine") = false) (hb : fn.body = some c) (hN : fn.ntmps = N) (hrs : fn.results.toList = rs) (hargs : ∀ l, (args l).length ≤ N)
  (h:∀(l:Nat) (V:Ctx->Store->World->Prop) (keep:∀{C C':Ctx} {S S':Store} {w w':World},Step C S w C' S' w'->V C S w->V C' S' w') (nx:Nat) (J:Nat->Store->Prop),(∀i A,J i A->yd nx A) ->
   (∀i A obs x,xs[i]?=some x->J i A->PYield P V l x (ext A nx obs) (λT=>∃A',J (i+1) A'/\T=ext A' nx obs)) ->
   ∀A,J 0 A->PW P ⟨none,V,keep⟩ 0 N c (Yu P rs (λp T=>p=ret/\J xs.length T)) (ZD (args l)) (ext A nx [])):cV P f args xs ret:=by
 refine⟨qL hf hname hb,λl V keep m J a d A b=>?_⟩;have:=h l V keep m J a d A b;rw[jm (a 0 A b)]at this;exact fu hf hb hN hrs (hargs l) this
theorem PYield.mono{V:Ctx->Store->World->Prop}{l:Nat}{args:List PV}{Q Q':Store->Prop}(h:PYield P V l args S Q)(d:∀T,Q T->Q' T):PYield P V l args S Q':=by intro C w vs h1 h2 h3 f;obtain⟨fn,tmps,assign,body,g,i⟩:=h C w vs h1 h2 h3 f;refine⟨fn,tmps,assign,body,g,i.mono ?_⟩;rintro e w' ⟨S',C',a,b,c⟩;exact⟨S',C',a,d _ b,c⟩
variable {A:Store}
def oN{k:FuncId}{args:Nat->List PV}{xs:List (List PV)}{ret:PV}(h:cV P k args xs ret){V:Ctx->Store->World->Prop}(keep:∀{C C':Ctx} {S S':Store} {w w':World},Step C S w C' S' w'->V C S w->V C' S' w')
  {l:Nat} {J:Nat->Store->Prop} {d:List (List PV)} (e:∀i A obs x,d[i]?=some x->J i A->PYield P V l x (ext A nx obs) (λT=>∃A',J (i+1) A'/\T=ext A' nx obs))
  (off:Nat) (b:∀i x,xs[i]?=some x->d[off+i]?=some x)  (f:J off A) (obs:List Ob) :
  SpecV P V k (args l) (ext A nx obs) (λp T=>∃A',p=ret/\J (off+xs.length) A'/\T=ext A' nx obs):=by
 refine⟨h.1,(h.2 l V keep (nx+obs.length) (λi T=>∃A',J (off+i) A'/\T=ext A' nx obs) ?_ ?_ (ext A nx obs) ⟨A,f,rfl⟩).mono ?_⟩;rintro i T ⟨A',_,rfl⟩;exact xM;rintro i T more x hx ⟨A1,c,rfl⟩;rw[cB _ _ rfl];refine(e (off+i) A1 (obs++more) x (b i x hx) c).mono ?_;rintro T ⟨A',a,rfl⟩;exact⟨ext A' nx obs,⟨A',a,rfl⟩,(cB _ _ rfl).symm⟩;rintro p T ⟨rfl,A',a,rfl⟩;exact⟨A',rfl,a,rfl⟩
variable {obs:List Ob}
def cW{rs:List ResultVar}{J:Store->Prop}(a:yd nx A)(h1:vJ P F (ext A nx obs) rs=some cs)(h2:zp cs=p)(b:J A):
  ∃cs S',vJ P F (ext A nx obs) rs=some cs/\(zp cs=p/\J S')/\∀o,S' o=ext A nx obs o\/S' o=.dead:=⟨cs,A,h1,⟨h2,b⟩,zV a⟩
def oO{f:Nat->Option α}{v:α}(a:k<n)(hf:f k=some v):((List.range n).filterMap f)[((List.range k).filterMap f).length]?=some v:=by obtain⟨m,rfl⟩:∃m,n=k+(m+1):=⟨n-k-1,by omega⟩;rw[DG,Cd,Am (Af _),Bs,Da];simp[hf]
def oP{f:Nat->Option α}(hf:f k=none):((List.range (k+1)).filterMap f).length=((List.range k).filterMap f).length:=by rw[AC,Cd];simp[hf]
def oQ{f:Nat->Option α}{v:α}(hf:f k=some v):((List.range (k+1)).filterMap f).length=((List.range k).filterMap f).length+1:=by rw[AC,Cd];simp[hf]
structure Spot where
 t:Nat
 p:Nat
 m:Int
abbrev YC(s:Spot):List PV:=[.agg [I s.t,I s.p,I s.m]]
def uT(l:zM)(i:Nat):Int:=if i=0 then 0 else (l.getD (i-1) default).c+1
def ZI(l:zM)(i:Nat):Int:=if i<l.length then (l.getD i default).c+1 else 0
def ZJ(x:Inst)(l:zM)(s:Stop)(i:Nat):Int:=W (W (arc x (uT l i) (s.c+1)+arc x (s.c+1) (ZI l i))-arc x (uT l i) (ZI l i))
def ZK(x:Inst)(t:Nat)(l:zM)(w:Int)(s:Stop)(i:Nat):Option Spot:=if W (w+ZJ x l s i)<=x.len then some ⟨t,i,ZJ x l s i⟩ else none
def Yb(x:Inst)(t:Nat)(l:zM)(fl bad ll w:Int)(s:Stop):List Spot :=
 if 0<bad-(if fl=13 then 1 else 0)\/x.Q<W (ll+s.q) then [] else (List.range (l.length+1)).filterMap (ZK x t l w s)
abbrev ZL(x:Inst)(d:zo)(on:List Int)(tw:Bool)(fs:List Int)(bad:Int)(ls ws:List Int):List PV:=[I x.days,I x.X,I x.Q,I x.len,L x.y,L x.O,L d,L on,B tw,L fs,I bad,L ls,L ws]
def Ou(x:Inst)(d:zo)(on:List Int)(tw:Bool)(fs:List Int)(bad:Nat)(ls ws:List Int)(t:Nat)(l:zM)(s:Stop)(r u w:Int)(d3:bad<=1048576)(d4:d.length<=1048576)(hd:d[t]?=some l)(b7:fs[t]?=some r)(b8:ls[t]?=some u)(c6:ws[t]?=some w)
  (d5:fs.length=d.length) (d6:ls.length=d.length) (d7:ws.length=d.length) (hb:r=13->0<bad) (d8:l.length<=1048576) (a7:∀s∈l,qA s.c) (a8:qA s.c) :
  cV prog 345 (λy=>[.agg (ZL x d on tw fs bad ls ws),I t,.agg [I s.c,I s.q],xN y]) ((Yb x t l r bad u w s).map YC) (B true):=by
 refine oM func345 EG rfl ntmps345 (congrArg Array.toList results345) EB λy V keep nx J v hY A0 g=>?_;have ht:t<d.length:=(Ad.1 hd).1;obtain⟨c7,tf,a1,-,-,ef⟩:=zF rfl fs t EA;obtain⟨c8,tl,a2,-,-,a9⟩:=zF rfl ls t EA;obtain⟨w',d9,a3,-,-,ew⟩:=zF rfl ws t EA;obtain⟨l',td,a4,-,-,ed⟩:=zF rfl d t ht;obtain rfl:r=c7:=by rw[b7]at a1;exact Option.some.inj a1
 obtain rfl:u=c8:=by rw[b8]at a2;exact Option.some.inj a2
 obtain rfl:w=w':=by rw[c6]at a3;exact Option.some.inj a3
 obtain rfl:l=l':=by rw[hd]at a4;exact Option.some.inj a4
 have h1:1<=fs.length-t:=EA;have h2:1<=ls.length-t:=EA;have h3:1<=ws.length-t:=EA;have h4:1<=d.length-t:=EA;have g1:t<fs.length:=EA;have g2:t<ls.length:=EA;have g3:t<ws.length:=EA;refine EK ?_;intro v0 v1;refine EK ?_;repeat apply za
 refine ze [] (zD ef h1 g1) ?_;obtain⟨e,b⟩:∃e:Int,e=bad-(if r=13 then 1 else 0):=⟨_,rfl⟩;refine qT (nx:=nx) (λ_:Unit=>True) (λ_=>[(1,I t),(3,xN y),(4,.ptr nx v0 0),(6,.ptr (nx+1) v1 0),(9,I e)]) (λ_=>A0) (λ_=>[.cells v0 390 (ZL x d on tw fs bad ls ws),.cells v1 101 [I s.c,I s.q]]) ?_ ?_;repeat apply za
 refine zv rfl (λhq=>?_) (λhq=>?_);simp at hq;have e0:=hb hq;rw[if_pos hq]at b;have wb:IntKind.i64.wrap ((bad:Int)-1)=e:=by rw[b,wr _ EA EA]
 refine ze [] wb ?_;exact yb () [] trivial EB rfl EB;simp at hq;rw[if_neg hq]at b;obtain rfl:e=bad:=EA;exact zh (yb () [] trivial EB rfl EB);rintro⟨⟩ -;have i:∀(h:0<e\/x.Q<W (u+s.q)),Yb x t l r bad u w s=[]:=λh=>by unfold Yb;rw[if_pos (by rw[b]at h;exact h)]
 by_cases ho:0<e;rw[i (.inl ho)]at hY ⊢;repeat apply za
 refine zA (some [nx,nx+1]) R3 mixed (zn ho zE) ?_;refine zm rfl (EK ?_);exact zg (cW (v _ _ g) EC (by simp[zp]) g);by_cases f:x.Q<W (u+s.q);rw[i (.inr f)]at hY ⊢;repeat apply za
 refine zA (some [nx,nx+1]) R3 mixed (zU ho f a9 h2 g2 zE) ?_;refine zm rfl (EK ?_);exact zg (cW (v _ _ g) EC (by simp[zp]) g);have hz:Yb x t l r bad u w s=(List.range (l.length+1)).filterMap (ZK x t l w s):=by unfold Yb;rw[if_neg (by rw[<-b];simp[ho,f])]
 clear i;rw[hz]at hY ⊢;repeat apply za
 refine zA (some [nx,nx+1]) R3 mixed (yx ho f a9 h2 g2) ?_;refine zk rfl (zh ?_);have wc:IntKind.i64.wrap (s.c+1)=s.c+1:=wr _ (by unfold qA at a8;omega) (by unfold qA at a8;omega);refine aG (some [nx,nx+1]) Rk mixed (zR ed h4 ht wc) ?_;have wl:IntKind.i64.wrap ((l.length:Int)+1)=((l.length+1:Nat):Int):=zu _ EA;repeat apply za
 refine ze [] wl ?_;refine zj (xk (σ:=Nat × Store) (λs'=>s'.1<=l.length+1/\J ((List.range s'.1).filterMap (ZK x t l w s)).length s'.2) (λs'=>[(1,I t),(3,xN y),(4,.ptr nx v0 0),(6,.ptr (nx+1) v1 0),(10,L l),(11,I (s.c+1)),(54,I ((l.length+1:Nat):Int)),(55,I s'.1)]) (λs'=>s'.2)
  (λ_=>[.cells v0 390 (ZL x d on tw fs bad ls ws),.cells v1 101 [I s.c,I s.q]]) (λs'=>l.length+1-s'.1) (yb (0,A0) [] (by simpa using g) EB rfl EB) ?_)
 rintro⟨k,A⟩ ⟨hk,hJ⟩;simp only at hk hJ ⊢;refine EK ?_;refine za (zv rfl (λhc=>?_) (λhc=>?_));simp at hc;refine zh (aA (EK ?_));refine EK ?_;repeat apply za
 refine zb ?_;refine qT (nx:=nx) (λ_:Unit=>True) (λ_=>[(1,I t),(3,xN y),(4,.ptr nx v0 0),(6,.ptr (nx+1) v1 0),(10,L l),(11,I (s.c+1)),(12,I k),(13,I (uT l k)),(14,I 0),(54,I ((l.length+1:Nat):Int)),(55,I k)]) (λ_=>A) (λ_=>[.cells v0 390 (ZL x d on tw fs bad ls ws),.cells v1 101 [I s.c,I s.q]]) ?_ ?_;repeat apply za
 refine zv rfl (λa=>?_) (λa=>?_);simp at a;obtain⟨j,rfl⟩:∃j,k=j+1:=⟨k-1,by omega⟩;obtain⟨p,tp,p1,-,-,-,ep⟩:=el 2 rfl l j EA;have wj:IntKind.i64.wrap (j:Int)=(j:Int):=wr _ EA EA;have d0:j<l.length:=EA;have z:2<=l.length*2-j*2:=EA;have m:=a7 p (Aa p1);have wp:IntKind.i64.wrap (p.c+1)=p.c+1:=wr _ (by unfold qA at m;omega) (by unfold qA at m;omega);have a0:uT l (j+1)=p.c+1:=by unfold uT;rw[if_neg EA,B5,List.getD_eq_getElem?_getD,p1];rfl
 refine ze [] (yx wj ep wp d0 z) ?_;exact yb () [] trivial (by simp[a0]) rfl EB;simp at a;subst a;exact zh (yb () [] trivial (by simp[uT]) rfl EB);rintro⟨⟩ -;repeat apply za
 refine zb ?_;refine qT (nx:=nx) (λ_:Unit=>True) (λ_=>[(1,I t),(3,xN y),(4,.ptr nx v0 0),(6,.ptr (nx+1) v1 0),(10,L l),(11,I (s.c+1)),(12,I k),(13,I (uT l k)),(14,I (ZI l k)),(54,I ((l.length+1:Nat):Int)),(55,I k)]) (λ_=>A) (λ_=>[.cells v0 390 (ZL x d on tw fs bad ls ws),.cells v1 101 [I s.c,I s.q]]) ?_ ?_;repeat apply za
 refine zv rfl (λa=>?_) (λa=>?_);simp at a;obtain⟨p,tp,p1,-,-,-,ep⟩:=el 2 rfl l k a;have z:2<=l.length*2-k*2:=EA;have m:=a7 p (Aa p1);have wp:IntKind.i64.wrap (p.c+1)=p.c+1:=wr _ (by unfold qA at m;omega) (by unfold qA at m;omega);have a0:ZI l k=p.c+1:=by unfold ZI;rw[if_pos a,List.getD_eq_getElem?_getD,p1];rfl
 refine ze [] (zR ep wp a z) ?_;exact yb () [] trivial (by simp[a0]) rfl EB;simp at a;exact zh (yb () [] trivial (by simp[ZI];omega) rfl EB);rintro⟨⟩ -;have q1:=un x (uT l k) (s.c+1);have q2:=un x (s.c+1) (ZI l k);have q3:=un x (uT l k) (ZI l k);have a5:W (W (arc x (uT l k) (s.c+1)+arc x (s.c+1) (ZI l k))-arc x (uT l k) (ZI l k))=ZJ x l s k:=rfl;refine aG (some [nx,nx+1]) RO mixed trivial ?_;refine zJ (q1) trivial ?_;refine zJ (q2) trivial ?_;refine zJ (q3) a5 ?_;by_cases hf:W (w+ZJ x l s k)<=x.len;have o:ZK x t l w s k=some ⟨t,k,ZJ x l s k⟩:=by unfold ZK;rw[if_pos hf]
 have d1:=oO (n:=l.length+1) EA o;have a6:=oQ o;have hy:(((List.range (l.length+1)).filterMap (ZK x t l w s)).map YC)[((List.range k).filterMap (ZK x t l w s)).length]?=some (YC ⟨t,k,ZJ x l s k⟩):=by rw[Ai,d1];rfl
 refine aG (some [nx,nx+1]) (Row.pures [0,1,2,3,4,5,6,7,8,9,10,11,12,13,14,15,16] (.alt 17 (Row.pures [18,19] .done) .stop)) mixed (yx a5 ew h3 g3 hf) ?_;refine⟨by rfl,(WF rfl rfl rfl (hY _ _ _ _ hy hJ) ?_)⟩;rintro _ ⟨A',d2,rfl⟩;refine⟨by simp[yY],xl trivial ?_⟩;refine zk rfl (zh (zb ?_));exact zr (k+1,A') [] ⟨by show k+1<=_;omega,by rw[a6];exact d2⟩ EF (by simp[zu k EA]) rfl EB;have o:ZK x t l w s k=none:=by unfold ZK;rw[if_neg hf]
 have a6:=oP o;refine aG (some [nx,nx+1]) Ra mixed (zU a5 ew h3 g3 hf zE) ?_;refine zk rfl (zh (zb ?_));exact zr (k+1,A) [] ⟨by show k+1<=_;omega,by rw[a6];exact hJ⟩ EF (by simp[zu k EA]) rfl EB;simp at hc;obtain rfl:k=l.length+1:=EA;refine zx (EK ?_);exact zg (cW (v _ _ hJ) EC (by simp[zp]) (by simpa using hJ))
def gG(x:Inst):(yW x).y.length<=6:=by simp[yW];omega
theorem cX:∀(d:zo),(∀t∈d,t≠[])->d.length<=d.flatten.length
 |[],_=>by simp
 |t::d,h=>by
  have:=cX d λt a=>h t (by simp[a]);have h1:t.length≠0:=by simpa using h t EB
  rw[Bh,Ak,Ab];omega
def QY{d:zo}(h:t∈d):t.Sublist d.flatten:=by obtain⟨a,b,rfl⟩:=List.append_of_mem h;rw[List.flatten_append,Bh];exact(List.sublist_append_left t b.flatten).trans (List.sublist_append_right a.flatten _)
def Ov{a b:List Int}(h:a.Perm b):a.sum=b.sum:=by
 induction h with
 |nil=>rfl
 |cons x _ e=>simp[e]
 |swap x y l=>simp;omega
 |trans _ _ c d=>exact c.trans d
theorem wG(x:Inst)(d:zo):yu x d=0<->(∀t∈d,zX x t=0)/\(d.flatten.map (·.c)).Nodup/\(d.length:Int)<=x.X:=by
 unfold yu;cases hf:d.find? (λt=>zX x t != 0) with
 |some t =>
 have h1:=List.find?_some hf;have h2:=List.mem_of_find?_eq_some hf;simp only;constructor;intro e;simp[e]at h1;rintro⟨h,_⟩;exact h t h2
 |none =>
 rw[List.find?_eq_none]at hf;simp only;constructor;intro e;refine⟨λt a=>by simpa using hf t a,?_⟩;split at e;cases e;split at e;cases e;rename_i h1 h2;exact⟨by simpa using h1,by omega⟩;rintro⟨_,h1,h2⟩;rw[if_neg (by simpa using h1),if_neg EA]
theorem QZ(x:Inst)(t:zM):zX x t=0<->jF x t=true/\(t.map (·.c)).Nodup/\W (yc t)<=x.Q/\W (yJ x (t.map (·.c)))<=x.len:=by unfold zX;constructor;intro e;split at e;cases e;split at e;cases e;split at e;cases e;split at e;cases e;rename_i h1 h2 h3 a;exact⟨by simpa using h1,by simpa using h2,by omega,by omega⟩;rintro⟨h1,h2,h3,a⟩;rw[if_neg (by simp[h1]),if_neg (by simpa using h2),if_neg EA,if_neg EA]
def gH(h:∀s∈t,0<=s.q/\s.q<=2147483648):0<=yc t/\yc t<=2147483648*t.length:=by
 induction t with
 |nil=>simp[yc]
 |cons s t b =>
 have:=b λa c=>h a (by simp[c]);have:=h s EB;simp only[yc,Ap,AL,Ab]at *;omega
def Ow(a b:zM):yc (a++b)=yc a+yc b:=by simp[yc]
def qP(x:Inst)(d:zo)(s:Stop):List Spot :=
 if zX x [s]=1\/s.c∈d.flatten.map (·.c)\/¬(d.flatten.map (·.c)).Nodup\/x.X<d.length then []
 else ((List.range d.length).flatMap λt=>Yb x t (d.getD t []) (zX x (d.getD t [])) (qC x d) (jZ (d.getD t [])) (xp x (d.getD t [])) s) ++
  (if qC x d=0/\zX x [s]=0/\(d.length:Int)<x.X then [⟨d.length,0,W (yJ x [s.c])⟩] else [])
def Q0(st:Spot × Bool)(b:Spot):Spot × Bool:=if st.2=false\/b.m<st.1.m then (b,true) else st
def YD(l:List Spot):Spot × Bool:=l.foldl Q0 (⟨0,0,0⟩,false)
def wd(l:zM)(i:Nat)(s:Stop):zM:=l.take i++s::l.drop i
def xB(d:zo)(b:Spot)(s:Stop):zo:=if b.t=d.length then d++[[s]] else d.set b.t (wd (d.getD b.t []) b.p s)
def qf(x:Inst)(d:zo)(s:Stop):zo × Bool:=bif (YD (qP x d s)).2 then (xB d (YD (qP x d s)).1 s,true) else (d,false)
theorem oR:∀(l:List Spot) (st:Spot × Bool),(l.foldl Q0 st).2=true->(l.foldl Q0 st)=st\/(l.foldl Q0 st).1∈l
 |[],st,_=>.inl rfl
 |b::l,st,h=>by rw[A6]at h ⊢;obtain e|e:=oR l _ h;by_cases a:st.2=false\/b.m<st.1.m;right;rw[e];unfold Q0;rw[if_pos a];simp;left;rw[e];unfold Q0;rw[if_neg a];simp_all
theorem cY{l:List Spot}(h:(YD l).2=true):(YD l).1∈l:=by grind[oR,YD]
def Ox{t:Nat}{l:zM}{a bad c w:Int}{s:Stop}{b:Spot}(h:b∈Yb x t l a bad c w s):¬(0<bad-(if a=13 then 1 else 0))/\W (c+s.q)<=x.Q/\b∈(List.range (l.length+1)).filterMap (ZK x t l w s):=by simp_all[Yb]
def V8{d:zo}{s:Stop}{b:Spot}(h:b∈qP x d s):
  zX x [s]≠1/\s.c ∉ d.flatten.map (·.c)/\(d.flatten.map (·.c)).Nodup/\(d.length:Int)<=x.X /\
  ((∃l,d[b.t]?=some l/\b.p<=l.length/\¬(0<(qC x d:Int)-(if zX x l=13 then 1 else 0))/\W (jZ l+s.q)<=x.Q/\b.m=ZJ x l s b.p/\W (xp x l+b.m)<=x.len) \/
   (b=⟨d.length,0,W (yJ x [s.c])⟩/\qC x d=0/\zX x [s]=0/\(d.length:Int)<x.X)):=by
 unfold qP at h;split at h;cases h;rename_i g;have k:zX x [s]≠1:=λe=>g (.inl e);have n:s.c ∉ d.flatten.map (·.c):=λe=>g (.inr (.inl e));have o:(d.flatten.map (·.c)).Nodup:=Classical.byContradiction λe=>g (.inr (.inr (.inl e)));have r:(d.length:Int)<=x.X:=by obtain e|e:=Int.lt_or_le x.X d.length;exact absurd (.inr (.inr (.inr e))) g;exact e
 refine⟨k,n,o,r,?_⟩;rw[AB]at h;obtain h|h:=h;left;obtain⟨t,j,hb⟩:=By.1 h;rw[AN]at j;have u:d[t]?=some (d.getD t []):=by rw[List.getD_eq_getElem?_getD,Ac j];rfl
 obtain⟨v,w2,hb⟩:=Ox hb;obtain⟨i,hi,f⟩:=Cv.1 hb;rw[AN]at hi;unfold ZK at f;by_cases a:W (xp x (d.getD t [])+ZJ x (d.getD t []) s i)<=x.len;rw[if_pos a]at f;cases f;exact⟨_,u,by simp only;omega,v,w2,rfl,a⟩;rw[if_neg a]at f;cases f;simp_all
def qH(a:Int):List Int->Int
 |[]=>a
 |c::l=>qH (c+1) l
def cZ:List Int->Int
 |[]=>0
 |c::_=>c+1
theorem oS(x:Inst)(c:Int)(r:List Int):∀(p:List Int) (a:Int),jQ x a (p++c::r)=jQ x a (p++r)+(arc x (qH a p) (c+1)+arc x (c+1) (cZ r)-arc x (qH a p) (cZ r))
 |[],a=>by cases r<;>grind[jQ,qH,cZ]
 |e::p,a=>by simp only[List.cons_append,jQ,qH];rw[oS x c r p (e+1)];omega
theorem oT:∀(p:List Int) (a:Int),qH a p=if p.length=0 then a else (p.getD (p.length-1) 0)+1
 |[],a=>by simp[qH]
 |[c],a=>by simp[qH]
 |c::e::p,a=>by simp only[qH];rw[show qH (e+1) p=qH (c+1) (e::p) from rfl,oT (e::p) (c+1)];simp
def Oy(l:zM)(i:Nat)(h:i<l.length):(l.map (·.c)).getD i 0=(l.getD i default).c:=EJ
theorem Oz(x:Inst)(l:zM)(s:Stop)(i:Nat)(h0:l≠[])(hi:i<=l.length):
  yJ x ((wd l i s).map (·.c))=yJ x (l.map (·.c))+(arc x (uT l i) (s.c+1)+arc x (s.c+1) (ZI l i)-arc x (uT l i) (ZI l i)):=by
 unfold yJ wd;rw[if_neg EB,if_neg (by simpa using h0)];rw[List.map_append,Ap,oS,<-List.map_append,List.take_append_drop];have b:qH 0 ((l.take i).map (·.c))=uT l i:=by rw[oT];unfold uT;rw[List.length_map,Az];by_cases a:i=0;rw[if_pos EA,if_pos a];rw[if_neg EA,if_neg a,Oy _ _ (by rw[Az];omega)];rw[List.getD_eq_getElem?_getD,List.getD_eq_getElem?_getD,AP EA,show min i l.length-1=i-1 from by omega]
 grind[cZ,ZI,List.drop_eq_getElem_cons]
def oU(x:Inst)(l:zM)(s:Stop)(i:Nat)(h0:l≠[])(hi:i<=l.length):xp x (wd l i s)=W (xp x l+ZJ x l s i):=by unfold xp ZJ;grind[Oz,IntKind.wrap_i64]
def oV(l:zM)(s:Stop)(i:Nat):jZ (wd l i s)=W (jZ l+s.q):=by grind[jZ,uN,yc,wd,List.take_append_drop]
theorem V9(l:zM)(s:Stop)(i:Nat):(wd l i s).Perm (s::l):=by grind[wd,List.take_append_drop]
theorem gI:∀(d:List (List α)) (t:Nat) (l m:List α) (s:α),d[t]?=some l->m.Perm (s::l)->(d.set t m).flatten.Perm (s::d.flatten)
 |[],t,l,m,s,h,_=>by simp at h
 |a::d,0,l,m,s,h,hm=>by simp at h;subst h;simp only[AW,Bh];exact(hm.append_right _)
 |a::d,t+1,l,m,s,h,hm=>by simp only[Bk]at h;simp only[AO,Bh];exact((gI d t l m s h hm).append_left a).trans List.perm_middle
theorem gJ{d:zo}{s:Stop}{b:Spot}(h:b∈qP x d s):(xB d b s).flatten.Perm (s::d.flatten):=by obtain⟨-,-,-,-,h⟩:=V8 h;unfold xB;grind[gI,V9]
def gK{d:zo}{s:Stop}(h:(qf x d s).2=true):(qf x d s).1.flatten.Perm (s::d.flatten):=by grind[qf,gJ,cY]
def oW{d:zo}{s:Stop}(h:(qf x d s).2=false):(qf x d s).1=d:=by grind[qf]
def OA(h:a.Perm b):jF x a=jF x b:=by
 unfold jF;have h1:a.all (qn x)=b.all (qn x):=by rw[D9,Ay,Ay];exact⟨λq s hs=>q s (h.symm.subset hs),λq s hs=>q s (h.subset hs)⟩
 have h2:a.isEmpty=b.isEmpty:=by
  cases a with
  |nil=>simp_all
  |cons a l =>
  grind
 rw[h1,h2]
def am(h:jF x t=true):t≠[]:=by simp_all[jF]
theorem gL(h:jF x t=false):zX x t=1:=by simp_all[zX]
def oX{s:Stop}(h:zX x [s]≠1):qn x s=true:=by grind[jF,gL]
theorem JH{d:zo}:qC x d=0<->∀t∈d,zX x t=0:=by simp[qC]
def gM{d:zo}{s:Stop}{b:Spot}(h:b∈qP x d s):yu x (xB d b s)=0:=by
 have hp:=gJ h;obtain⟨q1,q2,q3,q4,h⟩:=V8 h;rw[wG];have hg:=oX q1;have hn:((xB d b s).flatten.map (·.c)).Nodup:=by rw[(hp.map _).nodup_iff,Ap,Cr];exact⟨q2,q3⟩
 refine⟨?_,hn,?_⟩;rcases h with ⟨l,hl,hi,ho,r,hm,u⟩|⟨rfl,hb,hs,hv⟩
 obtain⟨v,a2⟩:=Ad.1 hl;have w:xB d b s=d.set b.t (wd l b.p s):=by unfold xB;rw[if_neg EA,List.getD_eq_getElem?_getD,hl];rfl
 have y:∀j m,j≠b.t->d[j]?=some m->zX x m=0:=by
  intro j m q k;refine Classical.byContradiction λf=>?_;have a3:0<qC x d:=by obtain e|e:=Ch (qC x d);exact absurd (JH.1 e m (Aa k)) f;exact e
  by_cases hf:zX x l=13;rw[if_pos hf]at ho;have h2:2<=qC x d:=by
   unfold qC;obtain⟨a0,a4⟩:=Ad.1 k;have key:∀(i j:Nat),i<j->∀(a c:zM),d[i]?=some a->d[j]?=some c->zX x a≠0->zX x c≠0->2<=(d.filter λt=>decide (zX x t≠0)).length:=by intro i j a5 a c ha hc na nc;obtain⟨a6,rfl⟩:=Ad.1 ha;obtain⟨a0,rfl⟩:=Ad.1 hc;have e:d=d.take (i+1)++d.drop (i+1):=(List.take_append_drop _ _).symm;rw[e,BM,Ak];have m1:d[i]∈(d.take (i+1)).filter λt=>decide (zX x t≠0):=AX.2 ⟨Aa (i:=i) (by rw[AP EA];exact ha),by simp[na]⟩;have m2:d[j]∈(d.drop (i+1)).filter λt=>decide (zX x t≠0):=AX.2 ⟨Aa (i:=j-(i+1)) (by rw[AV,show i+1+(j-(i+1))=j from by omega];exact hc),by simp[nc]⟩;have:=D2 m1;have:=D2 m2;omega
   have nl:zX x l≠0:=by rw[hf];decide
   obtain h3|h3:=Bo j b.t;exact key j b.t h3 m l k hl f nl;exact key b.t j EA l m hl k nl f
  omega;rw[if_neg hf]at ho;omega
 have g:zX x l=0\/zX x l=13:=by by_cases hf:zX x l=13;exact .inr hf;rw[if_neg hf]at ho;exact .inl (JH.1 EA l (Aa hl))
 have n:jF x l=true:=by
  cases e:jF x l with
  |true=>rfl
  |false=>rw[gL e]at g;obtain h|h:=g<;>cases h
 have a1:=am n;intro t ht;rw[w]at ht;obtain⟨j,q⟩:=Bv.1 ht;rw[BG]at q;by_cases o:b.t=j;rw[if_pos o,if_pos v]at q;cases q;rw[QZ];refine⟨?_,?_,?_,?_⟩;rw[OA (V9 l s b.p)];unfold jF at n ⊢;simp only[CZ,List.isEmpty_cons,Aw]at n ⊢;exact⟨⟨hg,n.1⟩,rfl⟩;have z:(wd l b.p s).Sublist (xB d b s).flatten:=by rw[w];exact QY ht
 exact hn.sublist (z.map _);have:=oV l s b.p;unfold jZ at this;rw[this];exact r;have:=oU x l s b.p a1 hi;unfold xp at this;rw[this,<-hm];exact u;rw[if_neg o]at q;exact y j t (λe=>o e.symm) q;grind[xB,JH];obtain⟨l,hl,-⟩|⟨rfl,-,-,hv⟩:=h;have v:=(Ad.1 hl).1;unfold xB;rw[if_neg EA,BP];exact q4;grind[xB]
def vf(c:Int)(t:zM):zM:=t.filter λs=>decide (s.c≠c)
def we(c:Int)(d:zo):zo:=(d.map (vf c)).filter λt=>!t.isEmpty
def oY(c:Int)(d:zo):Int:=W ((d.flatten.filter λs=>decide (s.c=c)).map (·.q)).sum
def OB(c:Int)(a b:zo):we c (a++b)=we c a++we c b:=by simp[we]
theorem JI.begin:∀(l pre:List Stop) (T:zo) (g:Int->Option Int),JI pre T g->((pre++l).map (·.c)).Nodup->∃g',JI (pre++l) (T++l.map λs=>[s]) g'
 |[],pre,T,g,h,_=>⟨g,by simpa using h⟩
 |s::l,pre,T,g,h,hn=>by
  have hs:s.c ∉ pre.map (·.c):=by rw[List.map_append,DP]at hn;exact λhm=>hn.2.2 _ hm s.c EB rfl
  obtain⟨g',h'⟩:=JI.begin l (pre++[s]) (T++[[s]]) _ (h.snoc s hs) (by simpa using hn);exact⟨g',by simpa using h'⟩
theorem gN(f:α->Int):∀(T:List α) (i:Nat) (a b:α),T[i]?=some a->((T.set i b).map f).sum=(T.map f).sum-f a+f b
 |[],i,a,b,h=>by simp at h
 |t::T,0,a,b,h=>by simp at h;subst h;simp;omega
 |t::T,i+1,a,b,h=>by simp only[Bk]at h;simp only[AO,Ap,AL];rw[gN f T i a b h];omega
theorem oZ(h:qG x):∀(l:List Int) (a:Int),0<=jQ x a l/\jQ x a l<=2147483648*((l.length:Int)+1)
 |[],a=>by have:=h a 0;simp_all[jQ]
 |c::l,a=>by have h1:=h a (c+1);have h2:=oZ h l (c+1);grind[jQ]
def WQ(h:qG x)(l:List Int):0<=yJ x l/\yJ x l<=2147483648*((l.length:Int)+1):=by unfold yJ;split<;>simp_all[oZ]
theorem da(h:qG x):∀d:zo,0<=yf x d/\yf x d<=2147483648*((d.flatten.length:Int)+d.length)
 |[]=>by simp[yf]
 |t::d=>by have h1:=WQ h (t.map (·.c));have h2:=da h d;grind[yf]
def JJ(d:zo):List (Nat × Nat):=(List.range (d.length+1)).flatMap λt=>(List.range ((d.getD t []).length+1)).map λp=>(t,p)
def Qh(d:zo)(s:Stop)(c:Nat × Nat):zo:=xB d ⟨c.1,c.2,0⟩ s
def gO(x:Inst)(d:zo)(s:Stop)(c:Nat × Nat):Int:=if c.1=d.length then W (yJ x [s.c]) else ZJ x (d.getD c.1 []) s c.2
def XK(x:Inst)(d:zo)(s:Stop)(c:Nat × Nat):Option Spot:=if yu x (Qh d s c)=0 then some ⟨c.1,c.2,gO x d s c⟩ else none
theorem pd(d:zo)(s:Stop)(b:Spot):xB d b s=Qh d s (b.t,b.p):=rfl
def pg{d:zo}{c:Nat × Nat}:c∈JJ d<->c.1<=d.length/\c.2<=(d.getD c.1 []).length:=by grind[JJ]
abbrev de(x:Inst)(d:zo)(s:Stop):Prop:=zX x [s]=1\/s.c∈d.flatten.map (·.c)\/¬(d.flatten.map (·.c)).Nodup\/x.X<d.length
def ph{d:zo}{s:Stop}{t p:Nat}{l:zM}(hl:d[t]?=some l):Qh d s (t,p)=d.set t (wd l p s):=by grind[Qh,xB]
theorem pi(d:zo)(s:Stop)(p:Nat):Qh d s (d.length,p)=d++[[s]]:=by simp[Qh,xB]
def OC{d:zo}{s:Stop}{c:Nat × Nat}(hc:c∈JJ d):(Qh d s c).flatten.Perm (s::d.flatten):=by
 obtain⟨t,p⟩:=c;obtain⟨h1,h2⟩:=pg.1 hc;simp only at h1 h2;by_cases a:t=d.length;simp_all[pi];have hl:d[t]?=some (d.getD t []):=by rw[List.getD_eq_getElem?_getD,Ac EA];rfl
 rw[ph hl];grind[gI,V9]
def OD{d:zo}{s:Stop}(f:yu x d=0){c:Nat × Nat}(hc:c∈JJ d)(h:yu x (Qh d s c)=0):¬de x d s:=by have b:=OC (s:=s) hc;obtain⟨g1,e,g3⟩:=(wG x _).1 h;obtain⟨i,e2,j⟩:=(wG x _).1 f;rw[(b.map _).nodup_iff,Ap,Cr]at e;rintro(q|q|q|q);obtain⟨u,k,g⟩:=Bd.1 (b.symm.subset (Ck (a:=s)));grind[jF,zX];exact e.1 q;exact q e2;omega
theorem pj{d:zo}{s:Stop}(m:yu x d=0)(ho:¬de x d s){t p:Nat}{l:zM}(hl:d[t]?=some l)(n:p<=l.length):
  yu x (Qh d s (t,p))=0<->W (jZ l+s.q)<=x.Q/\W (xp x l+ZJ x l s p)<=x.len:=by
 obtain⟨k,e2,r⟩:=(wG x _).1 m;have g:=Aa hl;have c:=(Ad.1 hl).1;have e:=k l g;have j:l≠[]:=am ((QZ x l).1 e).1;have hb:qC x d=0:=JH.2 k;have o:d.getD t []=l:=by rw[List.getD_eq_getElem?_getD,hl];rfl
 constructor;intro h;obtain⟨g1,-,-⟩:=(wG x _).1 h;rw[ph hl]at g1;have:=g1 (wd l p s) (Aa (i:=t) (by simp[c]));obtain⟨-,-,a,b⟩:=(QZ x _).1 this;have u:=oV l s p;have v:=oU x l s p j n;simp_all[jZ,xp];rintro⟨a,b⟩;have f:(⟨t,p,ZJ x l s p⟩:Spot)∈qP x d s:=by unfold qP;rw[if_neg ho];refine List.mem_append_left _ (By.2 ⟨t,AN.2 c,?_⟩);rw[o,hb,e];unfold Yb;rw[if_neg EF];refine Cv.2 ⟨p,AN.2 EA,?_⟩;unfold ZK;rw[if_pos b]
 have:=gM f;simp_all[pd]
def OE{d:zo}{s:Stop}(f:yu x d=0)(ho:¬de x d s):yu x (Qh d s (d.length,0))=0<->zX x [s]=0/\(d.length:Int)<x.X:=by
 obtain⟨g,e2,h⟩:=(wG x _).1 f;have hb:qC x d=0:=JH.2 g;constructor;grind[wG,pi];rintro⟨a,b⟩;have e:(⟨d.length,0,W (yJ x [s.c])⟩:Spot)∈qP x d s:=by unfold qP;rw[if_neg ho,if_pos ⟨hb,a,b⟩];exact List.mem_append_right _ EB
 have:=gM e;simp_all[pd]
variable {β:Type}
def pn{f:α->Option β}{l:List α}(h:∀a∈l,f a=none):l.filterMap f=[]:=EJ
theorem po{f g:α->List β}:∀{l:List α},(∀a∈l,f a=g a)->l.flatMap f=l.flatMap g
 |[],_=>rfl
 |a::l,h=>by rw[Ax,Ax,h a EB,po λb hb=>h b (by simp[hb])]
theorem pq{f g:α->Option β}:∀{l:List α},(∀a∈l,f a=g a)->l.filterMap f=l.filterMap g
 |[],_=>rfl
 |a::l,h=>by have c:=pq (f:=f) (g:=g) (l:=l) λb hb=>h b (by simp[hb]);grind
def Q1(x:Inst)(d:zo)(s:Stop)(t:Nat):List Spot:=((List.range ((d.getD t []).length+1)).map λp=>(t,p)).filterMap (XK x d s)
def pu{d:zo}{s:Stop}(b:yu x d=0):qP x d s=(List.range (d.length+1)).flatMap (Q1 x d s):=by
 by_cases ho:de x d s;unfold qP;rw[if_pos ho];symm;rw[List.flatMap_eq_nil_iff];intro t e;rw[AN]at e;refine pn λc hc=>?_;obtain⟨p,f,rfl⟩:=Aj.1 hc;rw[AN]at f;unfold XK;rw[if_neg];intro h;exact OD b (pg.2 ⟨by omega,by simp only;omega⟩) h ho;unfold qP;obtain⟨i,e2,j⟩:=(wG x _).1 b;have hb:qC x d=0:=JH.2 i;rw[if_neg ho,AC,Ar];congr 1;refine po λt e=>?_;rw[AN]at e;have hl:d[t]?=some (d.getD t []):=by rw[List.getD_eq_getElem?_getD,Ac e];rfl
 have g:=i _ (Aa hl);unfold Q1 Yb;rw[g,hb,List.filterMap_map];by_cases a:x.Q<W (jZ (d.getD t [])+s.q);rw[if_pos (.inr a)];symm;refine pn λp f=>?_;rw[AN]at f;simp only[Function.comp_apply];unfold XK;rw[if_neg];rw[pj b ho hl EA];omega;rw[if_neg (show ¬(0<((0:Nat):Int)-(if (0:Int)=13 then 1 else 0)\/x.Q<W (jZ (d.getD t [])+s.q)) from by rintro(q|q);exact absurd q EH;exact a q)];refine pq λp f=>?_;grind[pj,XK,ZK,gO];have hi:=OE b ho;simp only[Ax,Cu,AA];unfold Q1;rw[show d.getD d.length []=([]:zM) from by rw[List.getD_eq_getElem?_getD,Ao (Af _)];rfl];grind[XK,gO]
theorem py{γ:Type}(f:α->List β)(g:β->Option γ):∀l:List α,(l.flatMap f).filterMap g=l.flatMap λa=>(f a).filterMap g
 |[]=>rfl
 |a::l=>by rw[Ax,Cd,py f g l,Ax]
def OF{d:zo}{s:Stop}(a:yu x d=0):qP x d s=(JJ d).filterMap (XK x d s):=by rw[pu a];unfold JJ;rw[py];rfl
def pz{d:zo}(h:yu x d=0):∀t∈d,t≠[]:=λt a=>am ((QZ x t).1 (((wG x d).1 h).1 t a)).1
def JK(st:Int × Bool)(m:Int):Int × Bool:=if st.2=false\/m<st.1 then (m,true) else st
def JL(l:List Int):Int × Bool:=l.foldl JK (0,false)
def WR(x:Inst)(d:zo)(s:Stop)(n:Nat):List Int:=(List.range n).filterMap λt=>bif (JL ((Q1 x d s t).map (·.m))).2 then some (JL ((Q1 x d s t).map (·.m))).1 else none
def WS(x:Inst)(d:zo)(s:Stop):List Int:=qt (WR x d s (d.length+1))
theorem gP:∀(l:List Int) (m:Int),(l.foldl JK (m,true)).2=true
 |[],_=>rfl
 |a::l,m=>by rw[A6];unfold JK;split;exact gP l a;exact gP l m
theorem OG:JL []=(0,false):=rfl
theorem OH(a:Int)(l:List Int):JL (a::l)=l.foldl JK (a,true):=by simp[JL,JK]
def ut(st:List Int × Int)(p:Spot):List Int × Int :=
 if (p.t:Int)≠st.2 then (st.1++[p.m],(p.t:Int)) else (st.1.set (st.1.length-1) (if p.m<st.1.getD (st.1.length-1) 0 then p.m else st.1.getD (st.1.length-1) 0),st.2)
theorem pA(t:Nat):∀(g:List Spot) (l:List Int) (m:Int),(∀p∈g,p.t=t)->g.foldl ut (l++[m],(t:Int))=(l++[((g.map (·.m)).foldl JK (m,true)).1],(t:Int))
 |[],l,m,_=>rfl
 |p::g,l,m,h=>by
  have a:=h p EB;have hs:ut (l++[m],(t:Int)) p=(l++[if p.m<m then p.m else m],(t:Int)):=by unfold ut;rw[a,if_neg EB];simp
  have hm:JK (m,true) p.m=(if p.m<m then p.m else m,true):=by unfold JK;by_cases q:p.m<m<;>simp[q]
  rw[A6,hs,Ap,A6,hm];exact pA t g l _ λq b=>h q (by simp[b])
def OI{t:Nat}{g:List Spot}(b:∀p∈g,p.t=t)(l:List Int)(a:Int)(hl:a<t):
  g.foldl ut (l,a)=(l++(bif (JL (g.map (·.m))).2 then [(JL (g.map (·.m))).1] else []),if g=[] then a else (t:Int)):=by cases g<;>grind[OG,ut,pA,OH,gP]
def OJ{d:zo}{s:Stop}{t:Nat}:∀p∈Q1 x d s t,p.t=t:=by grind[Q1,XK]
theorem pB(x:Inst)(d:zo)(s:Stop):∀n:Nat,∃a:Int,a<n/\((List.range n).flatMap (Q1 x d s)).foldl ut ([],-1)=(WR x d s n,a)
 |0=>⟨-1,by omega,rfl⟩
 |n+1=>by obtain⟨a,h1,h2⟩:=pB x d s n;rw[AC,Ar,BJ,h2];simp only[Ax,Cu,AA];rw[OI OJ _ _ h1];refine⟨_,?_,by congr 1;unfold WR;rw[AC,Cd];congr 1;cases hm:(JL ((Q1 x d s n).map (·.m))).2<;>simp[hm]⟩;omega
def OL{d:zo}{s:Stop}(b:yu x d=0):((qP x d s).foldl ut ([],-1)).1=WR x d s (d.length+1):=by rw[pu b];obtain⟨a,-,h⟩:=pB x d s (d.length+1);rw[h]
theorem pC:∀{a b:List Int},a.Perm b->a.Pairwise (·<=·)->b.Pairwise (·<=·)->a=b
 |[],b,h,_,_=>(List.nil_perm.1 h).symm
 |x::a,[],h,_,_=>absurd h.symm EB
 |x::a,y::b,h,c,hb=>by
  rw[Bl]at c hb;have d:x=y:=by
   have h1:x∈y::b:=h.subset EB;have h2:y∈x::a:=h.symm.subset EB;have f:y<=x:=by obtain e|e:=Al.1 h1;omega;exact hb.1 x e
   have g:x<=y:=by obtain e|e:=Al.1 h2;omega;exact c.1 y e
   omega
  subst d;rw[pC ((List.perm_cons x).1 h) c.2 hb.2]
def OM(x:Inst)(d:zo)(s:Stop)(t:Nat):(WR x d s t).length<=t:=by unfold WR;exact AF (CX _ _) EB
theorem Sim.drewN(h:Sim C S w):∀q:Nat,Sim C S (w.drewN q)/\Step C S w C S (w.drewN q)
 |0=>by have e:w.drewN 0=w:=rfl;rw[e];exact⟨h,.refl _ _ _⟩
 |q+1=>by
  obtain⟨a,b⟩:=Sim.drewN h q;obtain⟨c,d⟩:=a.drew;have e:w.drewN (q+1)=(w.drewN q).drew:=by unfold World.drewN World.drew;simp[Nat.add_assoc]
  rw[e];exact⟨c,b.trans d⟩
def ON(zs:List Int)(c:Int)(hn:zs.length<=1048576)(hs:zs.Pairwise (·<=·)):PP 344 [L zs,I c] (.tup [I (zs.countP (·<c):Nat),B (zs.contains c)]):=by
 intro S;refine⟨qL func344 EG rfl,?_⟩;intro C w vs g hl m;obtain⟨u,v,rfl⟩:∃u v,vs=#[u,v]:=oq hl;obtain rfl:=Xz (m 1 _ v rfl rfl);have h0:Rel C S w (.lst zs.length (zs.flatMap Enc.enc)) u:=m 0 _ u rfl rfl;have a:∀(k:Int) (b:Bool),Rel C S w (.tup [I k,B b]) (.tuple #[.int .i64 k,.bool b]):=by
  intro k b;refine .tup rfl ?_;intro i p v hc hv
  match i with
  |0=>have hc:some (I k)=some p:=hc;have hv:some (Value.int .i64 k)=some v:=hv;cases hc;cases hv;exact .sc _
  |1=>have hc:some (B b)=some p:=hc;have hv:some (Value.bool b)=some v:=hv;cases hc;cases hv;exact .sc _
  |i+2=>simp at hc
 rw[cK]at h0;generalize h:zs.map I=cs at h0;generalize d:zs.length=n at h0 hn;cases h0 with
 |lst0 =>
 obtain rfl:zs=[]:=Av d;refine(slices_BinarySearch_int_empty _ _ c w).mono ?_;rintro e w' ⟨rfl,rfl⟩;exact⟨_,_,_,_,rfl,⟨rfl,rfl⟩,a 0 false,g,.refl _ _ _⟩
 |lst1 g1 g2 g3 g4 t g6 x =>
 rename_i cap b o r e fz;by_cases s:zs=[];subst s;simp at d;subst d;refine(slices_BinarySearch_int_empty _ _ c w).mono ?_;rintro e w' ⟨rfl,rfl⟩;exact⟨_,_,_,_,rfl,⟨rfl,rfl⟩,a 0 false,g,.refl _ _ _⟩;subst h;have l:=t (by simpa using s);rw[List.length_map]at l;have f:∀j,j<zs.length->w.cell? ⟨b,o+j,none⟩=some (.int .i64 (zs.getD j 0)):=by
  intro j y;have e2:r[o+j]?=some r[o+j]:=by rw[Ba]
  have z:=Xz (x j (I (zs.getD j 0)) _ (by simp[y]) e2);rw[z]at e2;simp[World.cell?,g3,e2]
 refine(slices_BinarySearch_int b o n cap zs c w EA EA f (hs.sublist (List.take_sublist _ _))).mono ?_;rintro e w' ⟨rfl,q,rfl⟩;obtain⟨s1,s2⟩:=g.drewN q;rw[Ae EA];exact⟨_,_,_,_,rfl,⟨rfl,rfl⟩,(a _ _).mono s2,s1,s2⟩
def OO(a:k<n)(W:Nat->List Spot)(E:List Spot)(i:Nat)(x:List PV)(h:((W k).map YC)[i]?=some x):(((List.range n).flatMap W++E).map YC)[((List.range k).flatMap W).length+i]?=some x:=by
 obtain⟨m,rfl⟩:∃m,n=k+(m+1):=⟨n-k-1,by omega⟩;rw[Ai]at h ⊢;rw[DG,Ar,List.append_assoc,Am (Dp _ _),AM,Da];have hi:i<(W k).length:=by obtain e|e:=Bo i (W k).length;exact e;rw[Ao e]at h;cases h
 rw[As EF];simp only[Ap,Ax,BK];rw[As EA];exact h
def OP(W:Nat->List Spot)(k:Nat):((List.range (k+1)).flatMap W).length=((List.range k).flatMap W).length+(W k).length:=by rw[AC,Ar,Ak];simp
def OQ(l:List Int)(c:Int):(qt l).contains c=l.contains c:=by rw[D9,CL,CL];exact(Cq l _).mem_iff
def pD{s:Stop}(hx:x.y.length<=1048576)(h:zX x [s]≠1):qA s.c:=by have:=oX h;unfold qn at this;simp only[Aw,decide_eq_true_eq]at this;unfold qA;omega
def pE(x:Inst)(d:zo)(s:Stop)(hx:x.y.length<=1048576)(v:DayOk d)(hf:d.flatten.length<=1048576):JA prog 343 [.ip [I s.c,I s.q],.ip (YB x d)] ((qP x d s).map YC):=by
 have p:=V1 x [s] hx EB;have g:=ON (qt (d.flatten.map (·.c))) s.c (by rw[JB,List.length_map];exact hf) (VY _);rw[OQ]at g;generalize ((qt (d.flatten.map (·.c))).countP (·<s.c):Nat)=cnt at g;obtain⟨r,a0⟩:∃r,r=decide (¬(qt (d.flatten.map (·.c))).Nodup):=⟨_,rfl⟩;have u:r=decide (¬(d.flatten.map (·.c)).Nodup):=by rw[a0];exact decide_eq_decide.2 (not_congr (Cq _ _).nodup_iff)
 obtain⟨th,w⟩:∃th,th=(d.flatten.map (·.c)).contains s.c:=⟨_,rfl⟩;rw[<-w]at g;have a6:YB x d=ZL x d (qt (d.flatten.map (·.c))) r (d.map (zX x)) (qC x d) (d.map jZ) (d.map (xp x)):=by rw[a0]
 rw[a6];obtain⟨on,a7⟩:∃on,on=qt (d.flatten.map (·.c)):=⟨_,rfl⟩;rw[<-a7]at g ⊢;obtain⟨y,h⟩:∃y,y=zX x [s]:=⟨_,rfl⟩;rw[<-h]at p;have a1:=v.n;refine VR func343 EG rfl ntmps343 (congrArg Array.toList results343) EB λl V keep nx J f hY A0 b=>?_;refine aG (some []) (Row.pures [0,1,2,3,4,5] (.alt 6 (.alt 7 U6 .stop) .stop)) mixed trivial ?_;refine zJ (gh s) trivial ?_;intro v0;refine EK ?_;refine zq p ?_;refine EK ?_;refine zq g ?_;by_cases a:zX x [s]=1\/s.c∈d.flatten.map (·.c)\/¬(d.flatten.map (·.c)).Nodup\/x.X<d.length
 .have hz:qP x d s=[]:=by unfold qP;rw[if_pos a]
  rw[hz]at hY ⊢;by_cases h1:y=1;repeat apply za
  refine ze [(2,30),(5,33),(9,37)] (zn h1 zE) ?_;exact zm rfl (zg (Z6 (f _ _ b) rfl (by simpa using b)));cases h2:th with
  |true =>
  repeat apply za
  refine ze [(2,30),(5,33),(9,37)] (zn h1 zE) ?_;exact zm rfl (zg (Z6 (f _ _ b) rfl (by simpa using b)))
  |false =>
  cases h3:r with
  |true =>
  repeat apply za
  refine ze [(2,30),(5,33),(9,37)] (zn h1 zE) ?_;exact zm rfl (zg (Z6 (f _ _ b) rfl (by simpa using b)))
  |false =>
  have h4:x.X<d.length:=by
   obtain e|e|e|e:=a;exact absurd (h.trans e) h1;have:th=true:=by rw[w,CL];exact e
   rw[h2]at this;cases this;have:r=true:=by rw[u];exact decide_eq_true e
   rw[h3]at this;cases this;exact e
  repeat apply za
  refine ze [(2,30),(5,33),(9,37)] (zD h1 h4 zE) ?_;exact zm rfl (zg (Z6 (f _ _ b) rfl (by simpa using b)))
 have h1:¬y=1:=λe=>a (.inl (h ▸ e));have h2:th=false:=by
  cases e:th with
  |false=>rfl
  |true=>rw[w,CL]at e;exact absurd (.inr (.inl e)) a
 have h3:r=false:=by
  cases e:r with
  |false=>rfl
  |true=>rw[u]at e;exact absurd (.inr (.inr (.inl (of_decide_eq_true e)))) a
 have h4:¬x.X<d.length:=λe=>a (.inr (.inr (.inr e)));have a2:=pD hx (s:=s) (λe=>a (.inl e));obtain⟨WW,a3⟩:∃WW:Nat->List Spot,WW=λt=>Yb x t (d.getD t []) (zX x (d.getD t [])) (qC x d) (jZ (d.getD t [])) (xp x (d.getD t [])) s:=⟨_,rfl⟩;obtain⟨EE,z⟩:∃EE:List Spot,EE=if qC x d=0/\zX x [s]=0/\(d.length:Int)<x.X then [⟨d.length,0,W (yJ x [s.c])⟩] else []:=⟨_,rfl⟩;have hz:qP x d s=(List.range d.length).flatMap WW++EE:=by unfold qP;rw[if_neg a,a3,z]
 rw[hz]at hY ⊢;subst h2 h3;repeat apply za
 refine ze [(2,30),(5,33),(9,37)] (zD h1 h4 zE) ?_;refine zk rfl (zh ?_);repeat apply za
 refine zb ?_;refine zj (xk (σ:=Nat × Store) (λs'=>s'.1<=d.length/\J ((List.range s'.1).flatMap WW).length s'.2) (λs'=>[(0,xN l),(1,.ip [I s.c,I s.q]),(2,.ip (ZL x d on false (d.map (zX x)) (qC x d) (d.map jZ) (d.map (xp x)))),(4,.ptr nx v0 0),(5,I d.length),(6,I y),(44,I d.length),(45,I s'.1)]) (λs'=>s'.2)
  (λ_=>[.cells v0 99 [L [s]]]) (λs'=>d.length-s'.1) (yb (0,A0) [] (by simpa using b) EB rfl EB) ?_)
 rintro⟨k,A⟩ ⟨hk,hJ⟩;simp only at hk hJ ⊢;refine EK ?_;refine za (zv rfl (λhc=>?_) (λhc=>?_));simp at hc;have i:d[k]?=some d[k]:=Ac hc;have hg:d.getD k []=d[k]:=by rw[List.getD_eq_getElem?_getD,i];rfl
 have hb:zX x d[k]=13->0<qC x d:=by intro e;obtain q|q:=Ch (qC x d);rw[JH.1 q _ (AZ hc)]at e;cases e;exact q
 have hw:=Ou x d on false (d.map (zX x)) (qC x d) (d.map jZ) (d.map (xp x)) k d[k] s (zX x d[k]) (jZ d[k]) (xp x d[k]) (AF (oK x d) a1) a1 i (by rw[Ai,i];rfl) (by rw[Ai,i];rfl) (by rw[Ai,i];rfl) EB EB EB hb (v.t _ (AZ hc)) (v.s _ (AZ hc)) a2;have a8:WW k=Yb x k d[k] (zX x d[k]) (qC x d) (jZ d[k]) (xp x d[k]) s:=by rw[a3];simp only[hg]
 rw[<-a8]at hw;have a4:=OP WW k;refine zh (aA (EK ?_));refine EK ?_;refine λj=>((oN hw keep hY _ (OO hc WW EE) hJ _).mono ?_);rintro _ _ ⟨A',rfl,m,rfl⟩;rw[List.length_map,<-a4]at m;refine⟨_,_,rfl,zO j ?_⟩;refine zk rfl (zh (zb ?_));exact zr (k+1,A') [] ⟨hc,m⟩ EF (by simp[zu k EA]) rfl EB;simp at hc;obtain rfl:k=d.length:=EA;refine zx ?_;by_cases he:qC x d=0/\zX x [s]=0/\(d.length:Int)<x.X;have hE:EE=[⟨d.length,0,W (yJ x [s.c])⟩]:=by rw[z,if_pos he]
 obtain⟨e1,e2,e3⟩:=he;have a5:=VX x [s] EB (by simpa using a2);have h5:y=0:=h.trans e2;have hy:(((List.range d.length).flatMap WW++EE).map YC)[((List.range d.length).flatMap WW).length]?=some (YC ⟨d.length,0,W (yJ x [s.c])⟩):=by rw[Ai,Am (Af _),Bs,hE];rfl
 simp only[Ap,A8]at a5;refine aF [(3,58),(7,62)] (zR e1 h5 e3 zE) ?_;refine zm rfl (zb ?_);refine zq a5 ?_;refine λj=>WF rfl rfl rfl (hY _ _ _ _ hy hJ) ?_;rintro _ ⟨A',m,rfl⟩;refine⟨_,_,rfl,zO j ?_⟩;exact Z6 (f _ _ m) rfl (by rw[List.length_map,Ak,hE];exact m);have hE:EE=[]:=by rw[z,if_neg he]
 have o:J (((List.range d.length).flatMap WW++EE).map YC).length A:=by rw[hE,AA,List.length_map];exact hJ
 by_cases e1:qC x d=0;by_cases e2:y=0;have e3:¬(d.length:Int)<x.X:=λe=>he ⟨e1,h ▸ e2,e⟩;refine aF [(3,58),(7,62)] (zR e1 e2 e3 zE) ?_;exact zk rfl (zh (Z6 (f _ _ hJ) rfl o));refine aF [(3,58),(7,62)] (zD e1 e2 zE) ?_;exact zk rfl (zh (Z6 (f _ _ hJ) rfl o));refine aF [(3,58),(7,62)] (zn e1 zE) ?_;exact zk rfl (zh (Z6 (f _ _ hJ) rfl o))
def OR(id v:Nat)(cs:List PV)(d:zo):(d.flatMap Enc.enc).map (qz id v cs)=(d.flatMap Enc.enc:List PV):=EB
def OS(id v:Nat)(cs:List PV)(d:zo)(t:Nat)(p:PV):((d.flatMap Enc.enc).set t p).map (qz id v cs)=(d.flatMap Enc.enc:List PV).set t (qz id v cs p):=EB
theorem pF:∀(d:zo) (t:Nat) (l:zM),(d.flatMap Enc.enc:List PV).set t (L l)=(d.set t l).flatMap Enc.enc
 |[],t,l=>rfl
 |m::d,0,l=>rfl
 |m::d,t+1,l=>by rw[AO,Ax,Ax,<-pF d t l];rfl
def OT{m:Nat}(x y:Ob)(hm:m=nx+obs.length):((ext S nx obs).set (m+3) x).set (m+4) y=ext S nx (obs++[.dead,.dead,.dead,x,y]):=by subst hm;rw[VT 3];have:=jE (S:=S) (nx:=nx) (obs:=obs++List.replicate 3 .dead++[x]) y;grind
def OU(d:zo)(a:d.length<=1048576)(b:∀l∈d,l.length<=1048576)(S:Store)(nx:Nat)(c:yd nx S):
  SP 328 [.agg [L d]] S (λp S'=>∃v,p=.agg [.sl (nx+3) v 1 0 d.length]/\S'=S.set (nx+3) (.cells v 99 (d.flatMap Enc.enc))):=by
 refine(gF d d.length a b EB S nx c).mono ?_;rintro _ _ ⟨v,ts,ob,⟨h1,h2,-⟩,rfl,rfl⟩;obtain⟨rfl,rfl⟩:=h2 (Af _);rw[Ah];refine⟨v,rfl,?_⟩;funext o;by_cases e:o=nx+4;subst e;rw[q11,q10 _ _ _ _ EA,c _ EA];simp_all[q10]
def OV(cs:List PV)(i:Nat)(p q:PV)(h:i<cs.length):yl (cs.set i p) i [q]=cs.set i q:=by
 unfold yl;rw[AK,if_pos h,AK,if_pos h];have hl:(cs.take i).length=i:=by rw[Az];omega
 simp_all[CG]
def pG(id v sz k:Nat)(cs:List PV)(h:k*sz=cs.length):qz id v cs (.sl id v sz 0 k)=.lst k cs:=by simp[qz,h]
def gQ{f:β->α->β}{b:β}{l:List α}{a:α}(h:l[i]?=some a):(l.take (i+1)).foldl f b=f ((l.take i).foldl f b) a:=by grind[List.take_succ_eq_append_getElem]
def OW{d:zo}{s:Stop}{b:Spot}(h:b∈qP x d s)(hb:b.t≠d.length):∃l,d[b.t]?=some l/\0<l.length/\b.p<=l.length:=by
 obtain⟨-,-,-,-,h⟩:=V8 h;obtain⟨l,hl,hi,ho,-⟩|⟨rfl,-⟩:=h;refine⟨l,hl,?_,hi⟩;have a:zX x l=0\/zX x l=13:=by by_cases hf:zX x l=13;exact .inr hf;rw[if_neg hf]at ho;exact .inl (JH.1 EA l (Aa hl))
 have c:jF x l=true:=by
  cases e:jF x l with
  |true=>rfl
  |false=>rw[gL e]at a;obtain h|h:=a<;>cases h
 exact BD.2 (am c);exact absurd rfl hb
def OX{d:zo}{s:Stop}{b:Spot}(h:b∈qP x d s):b.t<=d.length:=by obtain⟨-,-,-,-,h⟩:=V8 h;obtain⟨l,hl,-⟩|⟨rfl,-⟩:=h;exact D8 (Ad.1 hl).1;exact Af _
def gR(x:Inst)(d:zo)(s:Stop)(hx:x.y.length<=1048576)(z:DayOk d)(hf:d.flatten.length<=1000000):PP 315 [.agg (zB x),.agg [L d],.agg [I s.c,I s.q]] (.tup [.agg [L (qf x d s).1],B (qf x d s).2]):=by
 have hit:=pE x d s hx z EA;have a5:=oL x d hx z EA;have k:=λh=>cY (l:=qP x d s) h;have a7:∀b∈qP x d s,b.t<=d.length:=λb hb=>OX hb;have a0:∀b∈qP x d s,b.t≠d.length->∃l,d[b.t]?=some l/\0<l.length/\b.p<=l.length:=λb hb=>OW hb;have w:qf x d s=bif (YD (qP x d s)).2 then (xB d (YD (qP x d s)).1 s,true) else (d,false):=rfl;have a8:=oI (YB x d) s rfl;rw[w];clear w;generalize qP x d s=xs at *;generalize d1:YB x d=lk at *;have a1:=z.n;have u:∀l∈d,l.length<=1000000:=λl hl=>AF (QY hl).length_le hf;refine zt func315 ntmps315 results315 λS nx hd=>?_;refine EK ?_;intro v0 v1 v2 v3;refine EK ?_;intro v4 v5;repeat apply za
 refine zA none RR mixed trivial ?_;refine zJ (a5) trivial ?_;refine zJ (a8) trivial ?_;refine zj (Xw (xs:=xs.map YC) (σ:=Spot × Bool) (λi st=>st=(xs.take i).foldl Q0 (⟨0,0,0⟩,false)) [(3,.ptr nx v0 0),(4,.ptr (nx+1) v1 0),(5,.ptr (nx+2) v2 0),(6,.ptr (nx+3) v3 0),(8,.ptr (nx+4) v4 0),(9,.ptr (nx+5) v5 0)] (λ_=>S)
  (λ(b,g)=>[.cells v0 25 (zB x),.cells v1 96 [L d],.cells v2 101 [I s.c,I s.q],.cells v3 96 [yB],.cells v4 395 [I b.t,I b.p,I b.m],.cells v5 4 [B g]]) (⟨0,0,0⟩,false)
  hit rfl (by intro x hx;obtain⟨y,_,rfl⟩:=Aj.1 hx;rfl) EH EB EB rfl EB EB ?_ ?_)
 .rintro l i ⟨b,g⟩ more y o hy;simp only at o ⊢;rw[Ai]at hy;obtain⟨p,hp,rfl⟩:=An.1 hy;have a:=gQ (f:=Q0) (b:=(⟨0,0,0⟩,false)) hp;rw[<-o]at a;unfold Q0 at a;simp only at a;refine zb ?_;intro v6;refine zj ?_;cases g with
  |false =>
  rw[if_pos (.inl rfl)]at a;refine aF [(2,21)] zE ?_;refine zm rfl (zb ?_);simp only[xh];exact vK (p,true) [_] a.symm rfl EC
  |true =>
  by_cases hm:p.m<b.m;rw[if_pos (.inr hm)]at a;refine aF [(2,21)] (zn hm zE) ?_;refine zm rfl (zb ?_);simp only[xh];exact vK (p,true) [_] a.symm rfl EC;rw[if_neg (by simp[hm])]at a;refine aF [(2,21)] (zn hm zE) ?_;refine zk rfl (zh ?_);simp only[xh];exact vK (b,true) [_] a.symm rfl EC
 rintro⟨b,g⟩ o;simp only[List.length_map,Ah]at o ⊢;have a9:YD xs=(b,g):=o.symm;rw[a9]at k ⊢;simp only at k ⊢;cases g with
 |false =>
 simp only[cond_false];refine EK ?_;refine zq (On d a1 (λl hl=>AF (u l hl) EH)) ?_;refine aA (EK ?_);refine zm rfl (EK ?_);exact zg (zi hd EC (by simp[zp]))
 |true =>
 have hb:=k rfl;have d2:=a7 b hb;simp only[cond_true];by_cases a2:b.t=d.length;have a3:xB d b s=d++[[s]]:=by unfold xB;rw[if_pos a2]
 rw[a3];have a4:(d.flatMap Enc.enc:List PV).length=d.length:=jJ d;have a6:(d.flatMap Enc.enc:List PV).take d.length=d.flatMap Enc.enc:=Ae EA;have d3:((d++[[s]]).flatMap Enc.enc:List PV)=d.flatMap Enc.enc++[L [s]]:=by rw[Ar];rfl
 refine EK ?_;refine λr=>((OU d a1 (λl hl=>AF (u l hl) EH) _ _ xM).mono ?_).v;rintro _ _ ⟨v7,rfl,rfl⟩;refine⟨_,_,VT 3 _,xA [] Nat.add_assoc r ?_⟩;generalize b7:(d.flatMap Enc.enc:List PV)=ds at *;refine aA (EK ?_);refine zk rfl (EK ?_);refine zm EF ?_;refine zA (some [nx+2]) RC mixed (zn a4 a6) ?_;refine zJ (gh s) (zn a4 a6) ?_;refine⟨by omega,?_⟩;refine zY 9 rfl ?_;refine EK ?_;exact zg (zi hd EC (by simp[zp,a4,b7]));obtain⟨l,hl,b8,hp⟩:=a0 b hb a2;have j:b.t<d.length:=EA;have a3:xB d b s=d.set b.t (wd l b.p s):=by unfold xB;rw[if_neg a2,List.getD_eq_getElem?_getD,hl];rfl
 have c6:=u l (Aa hl);rw[a3];refine EK ?_;refine λr=>((Oo d b.t l a1 (λl hl=>AF (u l hl) EH) hl b8 _ _ xM).mono ?_).v;rintro _ _ ⟨v7,w7,rfl,rfl⟩;refine⟨_,_,OT _ _ rfl,xA [] Nat.add_assoc r ?_⟩;refine aA (EK ?_);refine zk rfl (EK ?_);refine zk EF ?_;refine aF [] j ?_;refine zA (some [nx+4,nx+2]) (Row.pures [0,1,2,3,5,6,7,8] (.alt 4 (.alt 9 RS .stop) .stop)) mixed j ?_;skip;refine((Oj l b.p s hp c6 EB).mono ?_).v;rintro _ _ ⟨rfl,rfl⟩;have c7:((wd l b.p s).flatMap Enc.enc:List PV).length=(l.length+1)*2:=by have e:=(V9 l s b.p).length_eq;rw[Qa,e];simp
 have c8:L (wd l b.p s)=.lst (l.length+1) ((wd l b.p s).flatMap Enc.enc):=by have e:=(V9 l s b.p).length_eq;show PV.lst _ _=_;rw[e];rfl
 rw[show l.take b.p++s::l.drop b.p=wd l b.p s from rfl];generalize d4:((wd l b.p s).flatMap Enc.enc:List PV)=cs at *;rw[yi _ EA EB,AM];refine⟨by simp[yY],xl j ?_⟩;refine⟨by omega,?_⟩;rw[OV _ _ _ _ (by rw[jJ];exact j)];have d0:qz (nx+10) (w7+1) cs (.sl (nx+10) (w7+1) 2 0 (l.length+1))=L (wd l b.p s):=by rw[pG _ _ _ _ _ c7.symm,c8]
 have e9:qz (nx+9) v7 ((d.set b.t (wd l b.p s)).flatMap Enc.enc) (.sl (nx+9) v7 1 0 d.length)=L (d.set b.t (wd l b.p s)):=by rw[pG _ _ _ _ _ (by rw[jJ];simp)];show _=PV.lst _ _;rw[BP]
 have n9:qz (nx+10) (w7+1) cs (.sl (nx+9) v7 1 0 d.length)=.sl (nx+9) v7 1 0 d.length:=by simp only[qz];rw[if_neg EA]
 refine zY 10 rfl ?_;simp only[Ap,A8,AO,AW,xy,OS,d0,pF,n9];refine zY 9 rfl ?_;simp only[Ap,A8,AO,AW,xy,e9];refine aF [] (zn e9 n9) ?_;exact zg (zi hd EC (by simp[zp]))
theorem pH(f:Nat->List α)(m:Nat):∀n,(∀t,t<n->(f t).length<=m)->((List.range n).flatMap f).length<=n*m
 |0,_=>by simp
 |n+1,h=>by rw[AC,Ar,Ak];have h1:=pH f m n λt a=>h t EA;have h2:=h n EA;simp only[Ax,Cu,AA];rw[Nat.add_mul,Ei];omega
def OY{d:zo}(h1:d.length<=1000000)(h2:d.flatten.length<=1000000):(JJ d).length<=1000001*1000001:=by
 unfold JJ;refine AF (pH _ 1000001 _ λt _=>?_) (Cx _ EA);rw[List.length_map,DR,List.getD_eq_getElem?_getD];cases a:d[t]? with
 |none=>simp
 |some l =>
 have:=(QY (Aa a)).length_le;simp only[Option.getD_some];omega
def OZ{d:zo}{s:Stop}(a:yu x d=0)(h1:d.length<=1000000)(h2:d.flatten.length<=1000000):(qP x d s).length<=1000001*1000001:=by rw[OF a];exact AF (CX _ _) (OY h1 h2)
def Pa(cs:List PV)(v:PV)(h:0<cs.length):yl cs (cs.length-1) [v]=cs.set (cs.length-1) v:=by unfold yl;rw[AK,if_pos EA];simp
theorem pI:∀(l:List Int) (k:Nat) (v:Int),(l.flatMap Enc.enc:List PV).set k (I v)=(l.set k v).flatMap Enc.enc
 |[],k,v=>rfl
 |a::l,0,v=>rfl
 |a::l,k+1,v=>by rw[AO,Ax,Ax,<-pI l k v];rfl
def Pb(st:List Int × Int)(p:Spot):(ut st p).1.length<=st.1.length+1:=by unfold ut;split<;>simp
def gS(st:List Int × Int):Prop:=st.2=-1\/0<st.1.length
def Pd{st:List Int × Int}(h:gS st)(p:Spot):gS (ut st p):=by unfold ut;split;exact .inr EB;rename_i e;obtain h|h:=h;exfalso;simp only[ne_eq]at e;omega;exact .inr (by simpa using h)
def Pe(x:Inst)(d:zo)(s:Stop)(hx:x.y.length<=1048576)(a9:DayOk d)(h0:yu x d=0)(h1:d.length<=1000000)(h2:d.flatten.length<=1000000):PP 342 [.agg (YB x d),.agg [I s.c,I s.q]] (L (WS x d s)):=by
 have hit:=pE x d s hx a9 EA;have n:=OL (s:=s) h0;have d0:=OZ (s:=s) h0 h1 h2;have a0:=OM x d s (d.length+1);have a3:=oI (YB x d) s rfl;unfold WS;rw[<-n]at a0 ⊢;clear n;generalize qP x d s=xs at *;obtain⟨on,tw,fs,bd,ls,ws,a4⟩:∃on tw fs bd ls ws,YB x d=ZL x d on tw fs bd ls ws:=⟨_,_,_,_,_,_,rfl⟩;rw[a4]at hit a3 ⊢;clear a4;refine zt func342 ntmps342 results342 λS nx hd=>?_;refine EK ?_;intro v0 v1;refine EK ?_;intro v2;refine EK ?_;intro v3;repeat apply za
 refine zb ?_;refine zq a3 ?_;refine qy 2 0 3 1 rfl rfl λv4=>?_;refine zj (Xw (xs:=xs.map YC) (σ:=(List Int × Int) × Nat) (λi st=>st.1=(xs.take i).foldl ut ([],-1)/\gS st.1/\st.1.1.length<=i/\i<=xs.length) [(2,.ptr nx v0 0),(3,.ptr (nx+1) v1 0),(5,.ptr (nx+2) v2 0),(6,.ptr (nx+3) v3 0)] (λ_=>S)
  (λ((l,a),v4)=>[.cells v0 390 (ZL x d on tw fs bd ls ws),.cells v1 101 [I s.c,I s.q],.cells v2 26 [.sl (nx+4) v4 1 0 l.length],.cells v3 3 [I a],.cells v4 3 (l.flatMap Enc.enc)]) (([],-1),v4)
  hit rfl (by intro x hx;obtain⟨y,_,rfl⟩:=Aj.1 hx;rfl) EH EB ⟨rfl,.inl rfl,by simp,by simp⟩ rfl EB EB ?_ ?_)
 .rintro lp i ⟨⟨l,a⟩,v4⟩ more y ⟨o,a1,b7,hi⟩ hy;simp only at o a1 b7 hi ⊢;rw[Ai]at hy;obtain⟨p,hp,rfl⟩:=An.1 hy;have h:=gQ (f:=ut) (b:=([],-1)) hp;rw[<-o]at h;have k:=Pd a1 p;have w:=Pb (l,a) p;simp only at w;have d1:=(Ad.1 hp).1;have g:ut (l,a) p=ut (l,a) p:=rfl;conv at g=>rhs;unfold ut
  simp only at g;have j:(l.flatMap Enc.enc:List PV).length=l.length:=jY l;have b8:(l.flatMap Enc.enc:List PV).take l.length=l.flatMap Enc.enc:=Ae EA;refine zb ?_;intro v5;refine zj ?_;repeat apply za
  refine zb ?_;by_cases u:(p.t:Int)=a;have d2:0<l.length:=by obtain e|e:=a1;simp only at e;omega;exact e
  obtain⟨m,hm⟩:∃m,l.length=m+1:=⟨l.length-1,by omega⟩;obtain⟨z,tz,z1,z2,z3,z0⟩:=zF rfl l m EA;rw[if_neg (by simp[u])]at g;have c6:l.getD (l.length-1) 0=z:=by rw[hm,B5,List.getD_eq_getElem?_getD,z1];rfl
  rw[c6]at g;have wm:IntKind.i64.wrap ((l.length:Int)-1)=(m:Int):=by rw[wr _ EA EA];omega
  have a5:m<l.length:=EA;have a6:1<=l.length-m:=EA;have a2:=Pa (l.flatMap Enc.enc) (I (if p.m<z then p.m else z)) EA;rw[j,pI]at a2;have r:qj z p.m=if p.m<z then p.m else z:=rfl;refine zk (by simp[u]) ?_;refine zh ?_;rw[show l.length-1=m by omega]at a2;refine zA (some [nx+2,nx+(more.length+5)]) Rv mixed (zU wm a5 a6 z0 r j) ?_;refine⟨by omega,?_⟩;simp only[xh];rw[hm,B5]at g;rw[g]at h k;refine vK ((l.set m (if p.m<z then p.m else z),a),v4) [_] ⟨h.symm,k,by simp;omega,by omega⟩ rfl (by simp[a2];rfl);rw[if_pos u]at g;rw[g]at h k w;have w0:IntKind.i64.wrap (l.length:Int)=(l.length:Int):=wr _ EA EA;have w2:(l.length:Int)<(l.length:Int)+1:=EA;have r:qj p.m p.m=p.m:=by unfold qj;split<;>rfl
  have c7:(l.flatMap Enc.enc++[I p.m]:List PV)[l.length]?=some (I p.m):=by rw[Am EA,j,Bs];rfl
  have d3:(l.flatMap Enc.enc++[I p.m]:List PV).drop l.length=[I p.m]:=by rw[<-j,List.drop_left]
  have a7:yl (l.flatMap Enc.enc++[I p.m]:List PV) l.length [I p.m]=l.flatMap Enc.enc++[I p.m]:=by unfold yl;rw[<-j,List.take_left,AT EB];simp
  refine zm (by simp[u]) ?_;refine zA (some [nx+(more.length+5)]) (Row.pures [1,2,3,5,6] (.alt 0 (.alt 4 (.alt 7 (.alt 8 (.done) .stop) .stop) .stop) .stop)) mixed (zn j b8) ?_;refine⟨by omega,?_⟩;refine zA (some [nx+2,nx+(more.length+5)]) Rv mixed (yx w0 w2 r c7 j) ?_;simp only[xh];refine vK ((l++[p.m],(p.t:Int)),v4+1) [_] ⟨h.symm,k,by simp;omega,by omega⟩ rfl (by simp[a7];rfl)
 rintro⟨⟨l,a⟩,v4⟩ ⟨o,-⟩;simp only[List.length_map,Ah]at o ⊢;rw[<-o]at a0 ⊢;simp only at a0 ⊢;have c8:=JB l;refine EK ?_;refine λa8=>((cL l EB EA).mono ?_).v;rintro _ _ rfl;refine⟨_,_,yi _ EA EB,xA [] (show nx+4-nx=4 by omega) a8 ?_⟩;generalize qt l=c at *;rw[<-c8];refine zY 4 rfl ?_;refine EK ?_;exact EL hd
def Pf{P:Program}(b o:Nat)(vs:List Value)(w:World)(cur:Array Value)(t:TypeId)(d:w.heap[b]?=some (.cells cur t (0,0)))(hl:o+vs.length<=cur.size)(h1:∀v∈vs,v.oneCell'=true):
  w.setCells b o vs=w.setRow b (cur.toList.take o++vs++cur.toList.drop (o+vs.length)).toArray:=by
 have a:=run_storeCells_cells (P:=P) b o vs 0 w (λj e=>by simp[World.cell?,d];omega) (λj _=>by simp[World.frozen?,d]) h1;have c:=run_storeCells_at (P:=P) b o t vs 0 cur w d (by simpa using hl) h1;rw[a]at c;simpa using c
def Pg(a:Array Value):(Builtin.zeroCells a 1).toList=a.toList:=by apply Bi;simp[Builtin.zeroCells];intro i h1 h2;simp[Builtin.zeroCells,Dn (show i<a.size by simpa using h2)];exact getElem!_pos a i (by simpa using h2)
def Ph(w:World)(t e ty:TypeId)(a:Array Value)(d:P.underlying t=some (.slice e))(hv:∀w,(zeroValue e).run P w=.ok (.agg a) w)(h1:∀v∈a.toList,v.oneCell'=true)(b o c:Nat)(cur:Array Value)(t':TypeId)(f:w.heap[b]?=some (.cells cur t' (0,0)))(hl:o+a.size<=cur.size):
  (Builtin.clear_ #[t] ty #[.slice (some ⟨b,o,none⟩) 1 c]).run P w=.ok (.tuple #[]) (w.setRow b (cur.toList.take o++a.toList++cur.toList.drop (o+a.size)).toArray):=by
 have c:=run_storeCells_at (P:=P) b o t' a.toList 0 cur w f (by simpa using hl) h1;simp only[BK,Array.length_toList]at c;simp[Builtin.clear_,run_underlying d,hv,Pg,c]
def Pi(b n c i:Nat)(V:List Value)(w:World)(i0:TypeInfo)(y:prog.info? 101=some i0)(z:i0.size=2)(cur:Array Value)(d:w.heap[b]?=some (.cells cur 101 (0,0)))(p:cur.size=c*2)
  (hi:i<n) (a1:n<=c) (a0:c<=9223372036854775807) (hn:n<=1048576) (hV:V.length=n*2) (q:cur.toList.take (n*2)=V) (h1:∀v∈V,v.oneCell'=true) (R1 R2:Array Value)
  (m:R1=(cur.toList.take (i*2)++V.drop ((i+1)*2)++cur.toList.drop (i*2+(V.drop ((i+1)*2)).length)).toArray) (r:R2=(R1.toList.take ((i+(n-(i+1)))*2)++([.int .i64 0,.int .i64 0]:List Value)++R1.toList.drop ((i+(n-(i+1)))*2+2)).toArray) :
  Calls prog 326 #[.slice (some ⟨b,0,none⟩) n c,.int .i64 i,.int .i64 ((i:Int)+1)] w λe w' =>
   e=.returned (.slice (some ⟨b,0,none⟩) (i+(n-(i+1))) c)/\w'=(w.drew.setRow b R1).setRow b R2:=by
 obtain⟨news,a⟩:∃news,news=V.drop ((i+1)*2):=⟨_,rfl⟩;have f:news.length=(n-(i+1))*2:=by rw[a,Bq,hV];omega
 have k:∀t u,news[t]?=some u->w.drew.cell? ⟨b,(i+1)*2+t,none⟩=some u:=by intro t u g;rw[a,AV,<-q,BV]at g;split at g;rw[Array.getElem?_toList]at g;show w.cell? _=_;simp[World.cell?,d,g];cases g
 obtain⟨A,hA,s⟩:∃A:Addr,(if c=i+1 then some (⟨b,0,none⟩:Addr) else some ⟨b,(i+1)*2,none⟩)=some A/\Hid (∀t u,news[t]?=some u->w.drew.cell? (A.add t)=some u):=by
  by_cases h:c=i+1;refine⟨⟨b,0,none⟩,by simp[h],λt u g=>?_⟩;have h0:news.length=0:=by rw[f];omega
  rw[CD.1 h0]at g;simp at g;refine⟨⟨b,(i+1)*2,none⟩,by simp[h],λt u g=>?_⟩;rw[Addr.add_lit];exact k t u g
 have s1:Hid (news.length=(n-(i+1))*2):=f;have s2:Hid (∀u∈news,u.oneCell'=true):=λu g=>h1 u (by rw[a]at g;exact BS g);have s3:Hid (∀t,t<news.length->(w.drew.cell? ⟨b,0+i*2+t,none⟩).isSome=true/\w.drew.frozen? ⟨b,0+i*2+t,none⟩=false):=by intro t ht;rw[f]at ht;refine⟨?_,?_⟩;show (w.cell? _).isSome=true;simp[World.cell?,d];omega;show w.frozen? _=false;simp[World.frozen?,d]
 obtain⟨W1,o⟩:∃W1,W1=w.drew.setCells b (0+i*2) news:=⟨_,rfl⟩;have j:W1=w.drew.setRow b R1:=by rw[o,Pf (P:=prog) b (0+i*2) news w.drew cur 101 d (by rw[f,p];omega) s2,m,a,A3]
 have l:W1.heap[b]?=some (.cells R1 101 (0,0)):=by rw[j];exact setRow_heap _ _ _ _ _ _ d
 have x:R1.size=c*2:=by rw[m,<-a];simp[f];omega
 have a2:∀ty,(Builtin.clear_ #[97] ty #[.slice (some ⟨b,(i+(n-(i+1)))*2,none⟩) (n-(i+(n-(i+1)))) (c-(i+(n-(i+1))))]).run prog W1=.ok (.tuple #[]) (W1.setRow b R2):=λty=>by have:=Ph (P:=prog) W1 97 101 ty #[.int .i64 0,.int .i64 0] underlying97 zeroValue101 (by intro v hv;simp at hv;obtain rfl|rfl:=hv<;>rfl) b ((i+(n-(i+1)))*2) (c-(i+(n-(i+1)))) R1 101 l EF;rw[show n-(i+(n-(i+1)))=1 by omega,this,r];simp
 have hW:Hid (W1=w.drew.setCells b (0+i*2) news):=o;have hX:Hid (W1=w.drew.setRow b R1):=j;clear o j l m r x d q k a f h1 hV p;have a3:i<=c:=EA;have a4:i+1<=c:=EA;have a5:i<=n:=EA;have a6:i+1<=n:=EA;have a7:¬(i:Int)=(i:Int)+1:=EA;have a8:(0:Int)<=(i:Int)+1:=EA;have a9:((i:Int)+1).toNat=i+1:=EA;have b7:(i:Int)+1<=(n:Int):=EA;have b8:(i:Int)<=(i:Int)+1:=EA;have c6:¬c=i+(n-(i+1)):=EA;have c7:i+(n-(i+1))<=n:=EA;have mixed:prog.follows .mixedOrders=true:=ED
 go_enter func326,ntmps326
 go_wp2_with fail
 go_region_law_o (refine step_append_room rfl (.tmp 22) (.tmp 25) 97 rfl 101 i0 2 underlying97 y z b 0 i c (by simp[Act.eval,Act.put]) A (n-(i+1)) (c-(i+1)) news (by simp[Act.eval,Act.put]) s1.out s.out s2.out EA s3.out ?_;rw[<-hW.out])
 go_wp2
 go_ret
 exact⟨rfl,by rw[hX.out]⟩
def Pj(l:List Stop)(i:Nat)(h:i<l.length):yy (l.eraseIdx i)=(yy l).take (i*2)++(yy l).drop ((i+1)*2):=by rw[Dd,gc,nF l i EA,nG l (i+1) EA]
def Pl{id ver:Nat}(cs:List Stop)(i:Nat)(hi:i<cs.length)(hn:cs.length<=1000000)(hid:S id=.cells ver 101 (cs.flatMap Enc.enc)):
  SP 326 [.sl id ver 2 0 cs.length,I i,I ((i:Int)+1)] S (λp S'=>p=.sl id (ver+1) 2 0 (cs.eraseIdx i).length/\S'=S.set id (.cells (ver+1) 101 ((cs.eraseIdx i).flatMap Enc.enc))):=by
 refine⟨qL func326 EG rfl,?_⟩;intro C w vs hS hl hr;obtain⟨u,v,x,rfl⟩:=nH hl;obtain rfl:=Xz (hr 1 _ v rfl rfl);obtain rfl:=Xz (hr 2 _ x rfl rfl);have hu:=hr 0 _ u rfl rfl;have a:(yy cs).length=cs.length*2:=WK cs;have o:(cs.eraseIdx i).length=i+(cs.length-(i+1)):=by rw[B8 hi];omega
 have q:=Pj cs i hi;have m:(yy (cs.eraseIdx i)).length=(i+(cs.length-(i+1)))*2:=by rw[WK,o]
 rw[nE]at hid ⊢;rw[o];generalize cs.eraseIdx i=es at *;obtain⟨i0,r⟩:=Cj.1 fS;have hc:=fR;simp only[Program.cellsOf,r,AR,Option.getD_some]at hc;cases hu with
 |sl h1 h2 h3 =>
 obtain⟨ad,cap,rfl,q1,q2,q3,q4⟩:=h1;have s:=(h3 ver (by rw[hid];rfl)).2 rfl;obtain⟨c6,t⟩|⟨b,k,c,g1,g2,g3,g4,g5,g6⟩:=hS.cells id ver _ _ hid;have:=congrArg List.length t;simp[a]at this;exfalso;omega;obtain⟨z1,_⟩|⟨b',k',c7,b8,z1,z2,z3,z4⟩:=s;rw[g1]at z1;cases z1;rw[g1]at z1;cases z1;cases z2;obtain⟨rfl,z⟩:=z3 rfl;rw[List.length_map,a]at g4;have d:∀(j:Nat) v,(yy cs)[j]?=some v->c[j]?=some v:=by intro j v hj;have c8:=(Ad.1 hj).1;have e2:c[j]?=some c[j]:=Ba EA;have:=g6 j (.sc v) _ (by rw[Ai,hj];rfl) e2;rw[e2];generalize c[j]=y at this;cases this;rfl
 have f:c.toList.take (cs.length*2)=yy cs:=by apply Bg;intro j;by_cases hj:j<cs.length*2;rw[AP hj,Array.getElem?_toList];have e:(yy cs)[j]?=some (yy cs)[j]:=Ac EA;rw[e,d j _ e];rw[Ao EF,Ao EA]
 have a0:c.size=cap*2:=g3.trans z.symm;have a7:((yy cs).drop ((i+1)*2)).length=(cs.length-(i+1))*2:=by rw[Bq,a];omega
 obtain⟨R1,n⟩:∃R1:Array Value,R1=(c.toList.take (i*2)++(yy cs).drop ((i+1)*2)++c.toList.drop (i*2+((yy cs).drop ((i+1)*2)).length)).toArray:=⟨_,rfl⟩;obtain⟨R2,a1⟩:∃R2:Array Value,R2=(R1.toList.take ((i+(cs.length-(i+1)))*2)++([.int .i64 0,.int .i64 0]:List Value)++R1.toList.drop ((i+(cs.length-(i+1)))*2+2)).toArray:=⟨_,rfl⟩;have a8:c.toList.take (i*2)=(yy cs).take (i*2):=by rw[<-f,DH,Bt EA]
 have a2:R1.toList.take ((i+(cs.length-(i+1)))*2)=yy es:=by rw[n];simp only[];rw[a8,<-q,<-m,List.take_left]
 have a3:R1.size=cap*2:=by rw[n];simp[a7];omega
 have g:R2.toList=yy es++(([.int .i64 0,.int .i64 0]:List Value)++R1.toList.drop ((i+(cs.length-(i+1)))*2+2)):=by rw[a1,a2];simp
 have a4:R2.size=cap*2:=by rw[<-Array.length_toList,g];simp[m,a3];omega
 refine(Pi b cs.length cap i (yy cs) w i0 r hc c g2 a0 hi q1 (by unfold maxLen at q3;omega) EA a f (WL cs) R1 R2 n a1).mono ?_;rintro e w' ⟨rfl,rfl⟩;obtain⟨r1,r2⟩:=ge (C:=C) (S:=S) (w:=w) g (WL _);have a9:=setRow_heap w.drew b c R1 _ _ g2;obtain⟨t1,t2⟩:=hS.turn (l:=some (b,cap*2)) (ver':=ver+1) (cs':=(yy es).map .sc) hid EA (λh=>absurd h EA) (w':=(w.drew.setRow b R1).setRow b R2)
  (by rw[g1];refine⟨⟨rfl,rfl,rfl,by simp[World.setRow],λj hj b7=>?_⟩,Db _⟩;have a5:j≠b:=λe=>b7 (by rw[e];rfl);rw[setRow_other _ _ _ _ a5,setRow_other _ _ _ _ a5];rfl)
  (.inr ⟨b,cap*2,R2,rfl,.inr (by rw[g1];rfl),setRow_heap _ _ _ _ _ _ a9,a4,by rw[List.length_map,m];omega,r1,r2⟩)
 refine⟨_,_,_,_,rfl,⟨rfl,rfl⟩,?_,t1,t2⟩;refine .sl ⟨_,_,rfl,by omega,by unfold xx;omega,q3,λ_=>⟨_,_,rfl⟩⟩ ⟨h2.1,by simp only[Ctx.at];omega⟩ λv0 a6=>?_;rw[q11]at a6;cases a6;exact⟨Af _,λ_=>.inr ⟨b,_,_,_,by simp[Ctx.at],rfl,λ_=>⟨rfl,rfl⟩,λ_=>rfl⟩⟩
def XL(c:Int)(l:List Stop):Int:=((l.filter λs=>decide (s.c=c)).map (·.q)).sum
theorem Pm(c:Int)(d:zo):oY c d=W (XL c d.flatten):=rfl
def Pn(c:Int)(l:List Stop)(s:Stop):XL c (l++[s])=XL c l+if s.c=c then s.q else 0:=by unfold XL;rw[BM,List.map_append,Bb];by_cases h:s.c=c<;>simp[h]
def Po(c:Int)(l:List Stop)(s:Stop):vf c (l++[s])=vf c l++if s.c=c then [] else [s]:=by unfold vf;rw[BM];by_cases h:s.c=c<;>simp[h]
def Pp(c:Int)(d:zo)(t:zM):we c (d++[t])=we c d++if (vf c t).length=0 then [] else [vf c t]:=by rw[OB];congr 1;unfold we;rw[Ap,A8];generalize vf c t=u;cases u<;>simp
def gT(c:Int)(t:zM):(vf c t).length<=t.length:=BR _ _
def pJ(c:Int)(d:zo):(we c d).length<=d.length:=by unfold we;exact AF (BR _ _) EB
def Pq(d:zo)(c:Int)(a6:d.length<=1048576)(o:∀t∈d,t.length<=1048576):PP 313 [.agg [L d],I c] (.tup [.agg [L (we c d)],I (oY c d)]):=by
 rw[Pm];refine zt func313 ntmps313 results313 λS nx hd=>?_;refine EK ?_;intro v0 v1;refine EK ?_;intro n;refine qy 2 0 99 1 rfl rfl λv3=>?_;refine EK ?_;repeat apply za
 refine zb ?_;refine zj (zC (λ(s:Nat × Nat)=>s.1<=d.length) (λ(k,v3)=>[(1,I c),(4,.ptr (nx+1) v1 0),(6,.ptr (nx+2) n 0),(7,I (W (XL c (d.take k).flatten))),(14,L d),(15,I d.length),(16,I k)]) (λ(k,v3)=>[.cells v0 96 [L d],.cells v1 96 [yB],.cells n 96 [.sl (nx+3) v3 1 0 (we c (d.take k)).length],.cells v3 99 ((we c (d.take k)).flatMap Enc.enc)]) (λs=>d.length-s.1) (0,v3) [] EB (by simp[XL]) (by simp[we]) ?_);rintro⟨k,v3⟩ hk;simp only at hk ⊢;refine EK ?_;refine za (zv rfl (λhc=>?_) (λhc=>?_));simp at hc;obtain⟨t,tl,a1,a2,a3,e0⟩:=zF rfl d k hc;have p:1<=d.length-k:=EA;have r:=Aa a1;have w:=o t r;have e:=Pp c (d.take k) t;rw[<-a3]at e;have h:(d.take (k+1)).flatten=(d.take k).flatten++t:=by rw[a3,List.flatten_append];simp
 generalize (d.take k).flatten=pre at *;have a7:(we c (d.take k)).length<=1048576:=AF (pJ _ _) (by rw[Az];omega);refine zh (aA ?_);generalize a8:we c (d.take k)=rk at *;have x:∀id v cs,(rk.flatMap Enc.enc).map (qz id v cs)=(rk.flatMap Enc.enc:List PV):=λid v cs=>OR id v cs rk;have y:(rk.flatMap Enc.enc:List PV).length=rk.length:=jJ rk;have z:(rk.flatMap Enc.enc:List PV).take rk.length=rk.flatMap Enc.enc:=Ae EA;refine aF [] (zD hc e0 p) ?_;intro v4;refine EK ?_;refine qO 10 101 2 rfl λv5=>?_;repeat apply za
 refine zb ?_;refine zj (zC (λ(s:Nat × Nat)=>s.1<=t.length) (λ(j,v5)=>[(1,I c),(4,.ptr (nx+1) v1 0),(6,.ptr (nx+2) n 0),(7,I (W (XL c (pre++t.take j)))),(10,.sl (nx+5) v5 2 0 (vf c (t.take j)).length),(14,L d),(15,I d.length),(16,I k),(21,L t),(22,I t.length),(23,I j)]) (λ(j,v5)=>[.cells v0 96 [L d],.cells v1 96 [yB],.cells n 96 [.sl (nx+3) v3 1 0 rk.length],.cells v3 99 (rk.flatMap Enc.enc),.cells v4 99 [L t],.cells v5 101 ((vf c (t.take j)).flatMap Enc.enc)]) (λs=>t.length-s.1) (0,v5) [] EB (by simp[vf]) (by simp[vf]) ?_);rintro⟨j,v5⟩ hj;simp only at hj ⊢;refine EK ?_;refine za (zv rfl (λf=>?_) (λf=>?_));simp at f;obtain⟨s,ts,b1,b2,b3,b4,b5⟩:=el 2 rfl t j f;have a0:2<=t.length*2-j*2:=EA;have a:=Pn c (pre++t.take j) s;rw[List.append_assoc,<-b3]at a;have b:=Po c (t.take j) s;rw[<-b3]at b;have a4:(vf c (t.take j)).length<=1048576:=AF (gT _ _) (by rw[Az];omega);generalize vf c (t.take j)=u at *;have i:(u.flatMap Enc.enc:List PV).length=u.length*2:=Qa u;have a5:(u.flatMap Enc.enc:List PV).take (u.length*2)=u.flatMap Enc.enc:=Ae EA;refine zh (aA (aF [] (zD f b5 a0) ?_));intro v6;refine EK ?_;refine zv rfl (λg=>?_) (λg=>?_);simp at g;rw[if_pos g]at a b;rw[AA]at b;refine zb ?_;refine zb ?_;exact zr (j+1,v5) [_] EF EF (by simp[zu j EA,a,uN,b]) rfl (by simp[b];rfl);simp at g;rw[if_neg g]at a b;rw[CY]at a;have l:((vf c (t.take (j+1))).flatMap Enc.enc:List PV)=u.flatMap Enc.enc++[I s.c,I s.q]:=by rw[b,Ar];rfl
 refine ze [] (zn i a5) ?_;refine⟨by omega,?_⟩;refine zb ?_;exact zr (j+1,v5+1) [_] EF EF (by simp[zu j EA,a,b]) rfl (by simp[l];rfl);simp at f;obtain rfl:j=t.length:=EA;refine zx ?_;rw[Ah];have a4:(vf c t).length<=1048576:=AF (gT _ _) w;generalize vf c t=u at *;have i:(u.flatMap Enc.enc:List PV).length=u.length*2:=Qa u;refine zY 5 rfl ?_;simp only[Ap,A8,AO,AW,xy,x];refine EK ?_;refine zv rfl (λg=>?_) (λg=>?_);simp at g;rw[if_neg EA]at e;have m:((rk++[u]).flatMap Enc.enc:List PV)=rk.flatMap Enc.enc++[L u]:=by rw[Ar];rfl
 refine ze [] (zn y z) ?_;refine⟨by omega,?_⟩;refine zb ?_;exact zr (k+1,v3+1) [_,_] EF EF (by simp[zu k EA,h]) rfl (by simp[e,m];exact⟨rfl,rfl⟩);simp at g;rw[if_pos (by rw[g];rfl),AA]at e;refine zh (zb ?_);exact zr (k+1,v3) [_,_] EF EF (by simp[zu k EA,h]) rfl (by simp[e];exact⟨rfl,rfl⟩);simp at hc;obtain rfl:k=d.length:=EA;refine zx (zY 3 rfl ?_);have g1:d.take d.length=d:=Ah;refine EK ?_;exact zg (zi hd EC (by simp[zp,g1]))
def Pt(h:∀row∈x.O,∀d∈row,0<=d/\d<=2147483648):qG x:=by
 intro a b;unfold arc;split;omega;rw[List.getD_eq_getElem?_getD,List.getD_eq_getElem?_getD];cases c:x.O[a.toNat]? with
 |none=>simp
 |some row =>
 simp only[Option.getD_some];cases e:row[b.toNat]? with
 |none=>simp
 |some d=>exact h row (Aa c) d (Aa e)
def WT{a b:List α}{x y:α}(hx:a[k]?=some x)(c:b[k]?=some y)(h:x≠y):a≠b:=by rintro rfl;rw[hx]at c;cases c;exact h rfl
def pK{d:zo}{s:Stop}(hx:x.y.length<=1048576)(b:DayOk d)(g:d.length<=1000000)(hf:d.flatten.length<=1000000):DayOk (qf x d s).1:=by
 unfold qf;cases hb:(YD (qP x d s)).2 with
 |false=>exact b
 |true =>
 have hm:=cY hb;have f:=gJ hm;have hs:=pD hx (V8 hm).1;simp only[cond_true];have i:(xB d (YD (qP x d s)).1 s).flatten.length<=1000001:=by rw[f.length_eq,Ab];omega
 refine⟨?_,λt c=>?_,λt c a j=>?_⟩;unfold xB;split;simp;omega;simp;omega;have:=(QY c).length_le;omega;have:=f.subset ((QY c).subset j);rw[Al]at this;obtain rfl|h:=this;exact hs;obtain⟨u,k,e⟩:=Bd.1 h;exact b.s u k a e
def YE(l:List Int):Int:=if 1<l.length then W (l.getD 1 0-l.getD 0 0) else 1099511627776
def Zp(c:Stop->List Int):List Stop->Nat->Int->Int->Int
 |[],_,place,_=>place
 |s::l,i,place,most=>if (c s).length=0 then (i:Int) else if place<0\/most<YE (c s) then Zp c l (i+1) (i:Int) (YE (c s)) else Zp c l (i+1) place most
def Qi(x:Inst)(d:zo)(l:List Stop):Int:=Zp (WS x d) l 0 (-1) 0
theorem gU(c:Stop->List Int):∀(l:List Stop) (i:Nat) (place most:Int),(l≠[]\/0<=place)->place<i->0<=Zp c l i place most/\Zp c l i place most<(i+l.length:Nat)
 |[],i,place,most,h,a=>by obtain h|h:=h;exact absurd rfl h;simp only[Zp,Ag];omega
 |s::l,i,place,most,_,a=>by unfold Zp;split;simp only[Ab];omega;split;have:=gU c l (i+1) i (YE (c s)) (.inr EA) EA;simp only[Ab];omega;rename_i hc;have:=gU c l (i+1) place most (.inr EA) EA;simp only[Ab];omega
def pL{d:zo}{l:List Stop}(h:l≠[]):∃k:Nat,Qi x d l=k/\k<l.length:=by have:=gU (WS x d) l 0 (-1) 0 (.inl h) EA;exact⟨(Qi x d l).toNat,by unfold Qi;omega,by unfold Qi;omega⟩
def Zq(x:Inst):Nat->zo->List Stop->zo × Bool
 |0,d,_=>(d,true)
 |n+1,d,l=>bif (qf x d (l.getD (Qi x d l).toNat default)).2 then Zq x n (qf x d (l.getD (Qi x d l).toNat default)).1 (l.eraseIdx (Qi x d l).toNat) else (d,false)
def j4(x:Inst)(l:List Stop):zo × Bool:=Zq x l.length [] l
structure RgOk (x:Inst) (d:zo) (l:List Stop):Prop where
 ok:DayOk d
 ab:yu x d=0
 len:d.flatten.length+l.length<=1000
theorem RgOk.dl{d:zo}{l:List Stop}(h:RgOk x d l):d.length<=1000:=by have h1:=cX d (pz h.ab);have h2:=h.len;omega
theorem RgOk.step{d:zo}{l:List Stop}(hx:x.y.length<=1048576)(h:RgOk x d l)(hi:i<l.length){s:Stop}(hs:(qf x d s).2=true):RgOk x (qf x d s).1 (l.eraseIdx i):=by
 have hf:=h.len;have hl:=h.dl;refine⟨pK hx h.ok EA EA,?_,?_⟩
 .unfold qf at hs ⊢;cases hb:(YD (qP x d s)).2 with
  |false=>rw[hb]at hs;cases hs
  |true=>exact gM (cY hb)
 rw[(gK hs).length_eq,Ab,B8 hi];omega
def pM(hv:0<=x.X){l:List Stop}(hl:l.length<=1000):RgOk x [] l :=
 ⟨⟨by simp,by simp,by simp⟩,(wG x []).2 ⟨by simp,by simp,by simpa using hv⟩,by simpa using hl⟩
def Pu{c:Stop->List Int}{l:List Stop}{s:Stop}{place most:Int}(a:l.drop k=s::l.drop (k+1)):
  Zp c (l.drop k) k place most=if (c s).length=0 then (k:Int) else if place<0\/most<YE (c s) then Zp c (l.drop (k+1)) (k+1) (k:Int) (YE (c s)) else Zp c (l.drop (k+1)) (k+1) place most:=by
 rw[a];rfl
def Pw(x:Inst)(d:zo)(l:List Stop)(hx:x.y.length<=1048576)(h:RgOk x d l){id ver:Nat}(hid:S id=.cells ver 101 (l.flatMap Enc.enc)):
  SP 325 [.agg (YB x d),.sl id ver 2 0 l.length] S (λp S'=>p=I (Qi x d l)/\S'=S):=by
 have hf:=h.len;have hl:=h.dl;have m:=λs=>Pe x d s hx h.ok h.ab EA EA;have hu:Qi x d l=Zp (WS x d) (l.drop 0) 0 (-1) 0:=rfl;rw[hu];clear hu;obtain⟨t,u,fs,bd,ls,ws,n⟩:∃t u fs bd ls ws,YB x d=ZL x d t u fs bd ls ws:=⟨_,_,_,_,_,_,rfl⟩;rw[n]at m ⊢;clear n;generalize a6:WS x d=cz at *;refine yr func325 ntmps325 results325 λnx v=>?_;have w:id<nx:=qB v hid EB;have y:=λobs=>zG (S:=S) (obs:=obs) w;refine EK ?_;intro v0;refine EK ?_;repeat apply za
 refine zb ?_;refine zj (zC (λs':Nat × Int × Int=>s'.1<=l.length/\Zp cz (l.drop s'.1) s'.1 s'.2.1 s'.2.2=Zp cz (l.drop 0) 0 (-1) 0) (λ(k,place,most)=>[(2,.ptr nx v0 0),(5,I place),(6,I most),(11,.sl id ver 2 0 l.length),(12,I l.length),(13,I k)]) (λ_=>[.cells v0 390 (ZL x d t u fs bd ls ws)]) (λs'=>l.length-s'.1) (0,-1,0) [] ⟨by simp,rfl⟩ EB EB ?_);rintro⟨k,place,most⟩ ⟨hk,o⟩;simp only at hk o ⊢;rw[<-o];refine EK ?_;refine za (zv rfl (λhc=>?_) (λhc=>?_));simp at hc;obtain⟨s,tl,a1,a2,a3,e1,e0⟩:=el 2 rfl l k hc;have z:2<=l.length*2-k*2:=EA;have f:=Pu (c:=cz) (place:=place) (most:=most) a2;have a0:=m s;generalize a7:cz s=c at *;have wk:=zu k EA;refine zh (aA (aF [] (yx y hid e0 hc z) ?_));intro v1;refine EK ?_;refine zq a0 ?_;by_cases h0:c.length=0;rw[if_pos h0]at f;repeat apply za
 refine ze [] h0 ?_;refine zm rfl (EK ?_);exact zg ⟨_,S,EC,⟨by simp[zp,f],rfl⟩,zV v⟩;rw[if_neg h0]at f;repeat apply za
 refine zb ?_;refine zk (by simp;exact λe=>h0 (by rw[e];rfl)) ?_;refine zh ?_;repeat apply za
 refine zb ?_;refine qT (nx:=nx) (λ_:Unit=>True) (λ_=>[(2,.ptr nx v0 0),(5,I place),(6,I most),(7,I k),(10,I (YE c)),(11,.sl id ver 2 0 l.length),(12,I l.length),(13,I k)]) (λ_=>S) (λ_=>[.cells v0 390 (ZL x d t u fs bd ls ws)]) ?_ ?_;by_cases h1:1<c.length;obtain⟨a,ta,q1,-,-,q0⟩:=zF rfl c 1 h1;obtain⟨b,tb,r1,-,-,r0⟩:=zF rfl c 0 EA;have i:YE c=W (a-b):=by unfold YE;rw[if_pos h1,List.getD_eq_getElem?_getD,List.getD_eq_getElem?_getD,q1,r1];rfl
 have g1:1<=c.length-1:=EA;have g2:0<c.length:=EA;have g3:1<=c.length:=EA;have j:(c.flatMap Enc.enc:List PV)=Enc.enc b++tb:=by simpa using r0
 have a4:(1:Int)<c.length:=EA;refine zm EF ?_;rw[j]at q0;have a5:tb=I a::ta:=by simpa using q0
 rw[a5]at j;refine zA none RE mixed (zU j h1 a4 g1 g2 g3) ?_;exact yb () [_] trivial (by simp[i]) rfl EC;have i:YE c=1099511627776:=by unfold YE;rw[if_neg h1]
 refine zk EF ?_;exact zh (yb () [_] trivial (by simp[i]) rfl EC);rintro⟨⟩ -;generalize YE c=ab at *
 by_cases r:place<0;rw[if_pos (.inl r)]at f;refine aF [(2,37)] (zn r zE) ?_;refine zm rfl (zb ?_);refine zb ?_;exact zr (k+1,(k:Int),ab) [] ⟨hc,by rw[<-f,o]⟩ EF (by simp[wk]) rfl EB;by_cases g:most<ab;rw[if_pos (.inr g)]at f;refine aF [(2,37)] (zn r g) ?_;refine zm rfl (zb ?_);refine zb ?_;exact zr (k+1,(k:Int),ab) [] ⟨hc,by rw[<-f,o]⟩ EF (by simp[wk]) rfl EB;rw[if_neg (by rintro(q|q);exact r q;exact g q)]at f;refine aF [(2,37)] (zn r g) ?_;refine zk rfl (zh (zb ?_));exact zr (k+1,place,most) [] ⟨hc,by rw[<-f,o]⟩ EF (by simp[wk]) rfl EB;simp at hc;obtain rfl:k=l.length:=EA;refine zx ?_;have a8:Zp cz (l.drop l.length) l.length place most=place:=by rw[Bz];rfl
 refine EK ?_;exact zg ⟨_,S,EC,⟨by simp[zp];rfl,rfl⟩,zV v⟩
def Px{d:zo}{l:List Stop}{s:Stop}(c:Qi x d l=k)(b:l[k]?=some s):
  Zq x l.length d l=bif (qf x d s).2 then Zq x (l.eraseIdx k).length (qf x d s).1 (l.eraseIdx k) else (d,false):=by
 have a:=(Ad.1 b).1;obtain⟨n,hn⟩:∃n,l.length=n+1:=⟨l.length-1,by omega⟩;have e:(l.eraseIdx k).length=n:=by rw[B8 a];omega
 have f:l.getD k default=s:=by rw[List.getD_eq_getElem?_getD,b];rfl
 rw[hn,e,Zq,c,AJ,f]
def Py{d:zo}{l:List Stop}(h:RgOk x d l):d.length<=1000/\d.flatten.length<=1000/\l.length<=1000:=by have h1:=h.dl;have h2:=h.len;omega
def Pz(x:Inst)(l:List Stop)(hx:x.y.length<=1048576)(hv:0<=x.X)(hl:l.length<=1000):PP 311 [.agg (zB x),L l] (.tup [.agg [L (j4 x l).1],B (j4 x l).2]):=by
 have hb:=pM hv hl;unfold j4;by_cases h0:0<l.length;case neg =>
  obtain rfl:l=[]:=Av EA;have t:=cU [] EB;refine zt func311 ntmps311 results311 λS nx q=>?_;refine EK ?_;intro v0 v1;refine EK ?_;intro g;refine yn 2 0 rfl rfl ?_;refine EK ?_;refine zq t ?_;refine aA (zC (λ_:Nat=>True) (λ_=>[(2,.ptr nx v0 0),(4,.ptr (nx+1) v1 0),(6,.ptr (nx+2) g 0),(7,L ([]:List Stop))]) (λ_=>[.cells v0 25 (zB x),.cells v1 96 [yB],.cells g 96 [L ([]:zo)]]) (λk=>k) 0 [] trivial EB EB ?_);rintro k -;repeat apply za
  refine zb ?_;refine zk rfl (zx (EK ?_));exact zg (zi q EC (by simp[zp,Zq]))
 refine zt func311 ntmps311 results311 λS nx q=>?_;refine EK ?_;intro v0 v1;refine EK ?_;intro g;refine yn 2 0 rfl rfl ?_;refine EK ?_;refine λa=>((gE l h0 EA _ _ Z5).mono ?_).v;rintro _ _ ⟨v3,rfl,rfl⟩;refine⟨_,_,jE _,zO a ?_⟩;refine aA (zC (λs':zo × List Stop × Nat=>Zq x s'.2.1.length s'.1 s'.2.1=Zq x l.length [] l/\RgOk x s'.1 s'.2.1) (λ(d,m,v3)=>[(2,.ptr nx v0 0),(4,.ptr (nx+1) v1 0),(6,.ptr (nx+2) g 0),(7,.sl (nx+3) v3 2 0 m.length)]) (λ(d,m,v3)=>[.cells v0 25 (zB x),.cells v1 96 [yB],.cells g 96 [L d],.cells v3 101 (m.flatMap Enc.enc)]) (λs'=>s'.2.1.length) ([],l,v3) [] ⟨rfl,hb⟩ EB EB ?_);rintro⟨d,m,v3⟩ ⟨z,b⟩;simp only at z b ⊢;rw[<-z];by_cases hm:m=[];subst hm;repeat apply za
 refine zb ?_;refine zk rfl (zx (EK ?_));exact zg (zi q EC (by simp[zp,Zq]));have u:0<m.length:=BD.2 hm;obtain⟨k,hu,i⟩:=pL (x:=x) (d:=d) hm;obtain⟨s,tl,a1,a2,a3,e1,e0⟩:=el 2 rfl m k i;have w:2<=m.length*2-k*2:=EA;have c:=Px hu a1;obtain⟨b1,b2,b3⟩:=Py b;have f:=oL x d hx b.ok EA;have j:=gR x d s hx b.ok EA;have n:=λh=>b.step hx i (s:=s) h;have e:=λ(S:Store) (id ver:Nat) h=>Pw x d m hx b (S:=S) (id:=id) (ver:=ver) h;rw[hu]at e;obtain⟨on,tw,fs,bd,ls,ws,o⟩:∃on tw fs bd ls ws,YB x d=ZL x d on tw fs bd ls ws:=⟨_,_,_,_,_,_,rfl⟩;rw[o]at f e;clear o;have y:=oW (x:=x) (d:=d) (s:=s);generalize hi:qf x d s=r at *;obtain⟨d2,ok⟩:=r;simp only at c n y;have wk:=zu k EA;have p:(0:Int)<m.length:=EA;repeat apply za
 refine ze [] p ?_;refine zm (by simp;exact u) ?_;refine zh (zj (EK ?_));refine λa=>((f _).mono ?_).v;rintro _ _ ⟨rfl,rfl⟩;refine⟨_,_,rfl,zO a ?_⟩;refine λa=>((e _ _ _ (by rw[zS];rfl)).mono ?_).v;rintro _ _ ⟨rfl,rfl⟩;refine⟨_,_,rfl,zO a ?_⟩;refine aG (some [nx,nx+2,nx+3]) (Row.pures [0,1,2,3,4,5,6,7,8,9] (.alt 10 (.alt 11 (Row.pures [12] .done) .stop) .stop)) mixed (zD e0 i w) ?_;refine zJ (j) trivial ?_;intro v4;repeat apply za
 refine zb ?_;cases ok with
 |false =>
 simp only[cond_false]at c;refine zm rfl (EK ?_);exact zg (zi q EC (by simp[zp,c]))
 |true =>
 simp only[cond_true]at c;refine zk rfl (zh ?_);have a0:=B8 i;refine zA (some [nx+4]) (Row.pures [0,1,2,3,4] (.alt 5 (.alt 6 (Row.pures [7] .done) .stop) .stop)) mixed wk ?_;skip;refine((Pl m k i EA (by rw[zS];rfl)).mono ?_).v;rintro _ _ ⟨rfl,rfl⟩;rw[yi _ EA EB,AM];refine⟨by simp[yY],xl trivial ?_⟩;exact zr (d2,m.eraseIdx k,v3+1) [_] ⟨c.symm,n rfl⟩ (by simp only;omega) EB rfl EC
def uu(step:zo->Option zo):Nat->zo->zo
 |0,d=>d
 |n+1,d=>match step d with
  |none=>d
  |some e=>uu step n e
def YF(step:zo->Option zo):Nat->zo->Nat
 |0,_=>0
 |n+1,d=>match step d with
  |none=>0
  |some e=>YF step n e+1
def pN(x:Inst)(step:zo->Option zo)(G:zo->Prop):Prop:=∀d,G d->∃mk ma mb mi mj least,PP 293 [.agg (zB x),.agg [L d]] (.tup [.agg [I mk,I ma,I mb,I mi,I mj],I least,B (step d).isSome]) /\
 ∀e,step d=some e->PP 294 [.agg (zB x),.agg [L d],.agg [I mk,I ma,I mb,I mi,I mj]] (.tup [.agg [L e],I 0])/\G e
def pO(x:Inst)(d:zo)(b:Int)(step:zo->Option zo)(G:zo->Prop)(hb:b<=9223372036854775807)(a0:d.length<=1048576)(m:∀t∈d,t.length<=1048576)(o:0<b->G d)(hs:pN x step G):PP 264 [.agg (zB x),.agg [L d],I b] (.tup [.agg [L (uu step b.toNat d)],I (if YF step b.toNat d<b.toNat then (YF step b.toNat d:Int) else qk b 0)]):=by
 refine zt func264 ntmps264 results264 λS nx y=>?_;refine EK ?_;intro v0 v1 j;refine EK ?_;intro v3;refine qy 3 0 99 1 rfl rfl λv4=>?_;repeat apply za
 refine zb ?_;refine zj (zC (λs':Nat × Nat=>s'.1<=d.length) (λ(k,v4)=>[(2,I b),(3,.ptr nx v0 0),(6,.ptr (nx+2) j 0),(7,I 0),(8,.ptr (nx+3) v3 0),(16,L d),(17,I d.length),(18,I k)]) (λ(k,v4)=>[.cells v0 25 (zB x),.cells v1 96 [L d],.cells j 96 [yB],.cells v3 96 [.sl (nx+4) v4 1 0 k],.cells v4 99 ((d.take k).flatMap Enc.enc)]) (λs'=>d.length-s'.1) (0,v4) [] EB EB EB ?_);rintro⟨k,v4⟩ l;simp only at l ⊢;refine EK ?_;refine za (zv rfl (λhc=>?_) (λhc=>?_));simp at hc;obtain⟨t,tl,a1,a2,a3,e0⟩:=zF rfl d k hc;have p:1<=d.length-k:=EA;have q:=cU t (m t (Aa a1));have f:((d.take k).flatMap Enc.enc:List PV).length=k:=by rw[jJ,Az];omega
 have g:((d.take k).flatMap Enc.enc:List PV).take k=(d.take k).flatMap Enc.enc:=Ae EA;have r:((d.take (k+1)).flatMap Enc.enc:List PV)=(d.take k).flatMap Enc.enc++[L t]:=by rw[a3,Ar];rfl
 generalize ((d.take k).flatMap Enc.enc:List PV)=cs at *;refine zh (aA (aF [] (zD e0 hc p) ?_));intro v5;refine zA (some [nx+5]) Rw mixed (zn f g) ?_;refine zJ (q) (zn f g) ?_;refine⟨by omega,?_⟩;refine zb ?_;exact zr (k+1,v4+1) [_] hc EF (by simp[zu k EA]) rfl (by simp[r];rfl);simp at hc;obtain rfl:k=d.length:=EA;have g1:d.take d.length=d:=Ah;refine zx ?_;rw[g1];refine zY 4 rfl ?_;repeat apply za
 refine zb ?_;clear l hc g1;refine zj (zC (λs':Nat × zo=>s'.1<=b.toNat/\(0<b->G s'.2)/\uu step (b.toNat-s'.1) s'.2=uu step b.toNat d/\s'.1+YF step (b.toNat-s'.1) s'.2=YF step b.toNat d) (λ(k,e)=>[(2,I b),(3,.ptr nx v0 0),(6,.ptr (nx+2) j 0),(8,.ptr (nx+3) v3 0),(11,I k)]) (λ(k,e)=>[.cells v0 25 (zB x),.cells v1 96 [L d],.cells j 96 [yB],.cells v3 96 [L e]]) (λs'=>b.toNat-s'.1) (0,d) [.dead] ⟨by simp,o,by simp,by simp⟩ EB EB ?_);rintro⟨k,e⟩ ⟨l,z,hi,a⟩;simp only at l z hi a ⊢;rw[<-hi];repeat apply za
 refine zb ?_;refine zv rfl (λhc=>?_) (λhc=>?_)
 .simp at hc;obtain⟨mk,ma,mb,mi,mj,s,hB,hM⟩:=hs e (z EA);obtain⟨n,hn⟩:∃n,b.toNat-k=n+1:=⟨b.toNat-k-1,by omega⟩;refine zh (aA (EK ?_));refine zq hB ?_;intro v5;repeat apply za
  refine zb ?_;cases c:step e with
  |none =>
  have u:uu step (b.toNat-k) e=e:=by rw[hn];unfold uu;rw[c]
  have h:YF step (b.toNat-k) e=0:=by rw[hn];unfold YF;rw[c]
  rw[h]at a;rw[u,<-a,if_pos EA];refine zm rfl (EK ?_);exact zg (zi y EC (by simp[zp]))
  |some e2 =>
  have u:uu step (b.toNat-k) e=uu step (b.toNat-(k+1)) e2:=by rw[hn,show b.toNat-(k+1)=n by omega];conv=>lhs;unfold uu;rw[c]
  have h:YF step (b.toNat-k) e=YF step (b.toNat-(k+1)) e2+1:=by rw[hn,show b.toNat-(k+1)=n by omega];conv=>lhs;unfold YF;rw[c]
  obtain⟨v,w⟩:=hM e2 c;refine zk rfl (zh (zb ?_));refine zq v ?_;refine zb ?_;exact zr (k+1,e2) [_] ⟨by simp;omega,λ_=>w,u.symm,by simp only;omega⟩ EF (by simp[zu k EA]) rfl EC
 simp at hc;have hz:b.toNat-k=0:=EA;rw[hz]at a ⊢;have i:YF step b.toNat d=k:=by rw[<-a];rfl
 rw[i,if_neg EA];refine zx (EK ?_);exact zg (zi y EC (by simp[zp,uu]))
structure Pc where
 t:Nat
 f:Nat
 o:Nat
 b:Bool
 deriving DecidableEq
def qb:Pc:=⟨0,0,0,false⟩
abbrev pcL(p:Pc):List PV:=[I p.t,I p.f,I p.o,B p.b]
structure Rw5 where
 a:Pc
 b:Pc
 c:Pc
 d:Pc
 e:Pc
abbrev yH(r:Rw5):List PV:=[I r.a.t,I r.a.f,I r.a.o,B r.a.b,I r.b.t,I r.b.f,I r.b.o,B r.b.b,I r.c.t,I r.c.f,I r.c.o,B r.c.b,I r.d.t,I r.d.f,I r.d.o,B r.d.b,I r.e.t,I r.e.f,I r.e.o,B r.e.b]
def Rw5.l(r:Rw5):List Pc:=[r.a,r.b,r.c,r.d,r.e]
def wH:Rw5:=⟨qb,qb,qb,qb,qb⟩
structure Mv where
 k:Nat
 a:Nat
 b:Nat
 i:Nat
 j:Nat
 deriving DecidableEq
abbrev Yc(m:Mv):List PV:=[I m.k,I m.a,I m.b,I m.i,I m.j]
abbrev YG(m:Mv)(la lb:Nat):List PV:=[I m.k,I m.a,I m.b,I m.i,I m.j,I la,I lb]
def uU(m:Mv)(la lb:Nat):Bool :=
 if m.k=0 then decide (m.b=m.a/\m.i<m.j/\m.j<la)
 else if m.k=1 then decide (m.i<la/\(if m.a=m.b then m.j<lb else m.j<=lb))
 else if m.k=2 then decide (¬(m.b<m.a\/m.a=m.b/\m.j<=m.i)/\m.i<la/\m.j<lb)
 else decide (m.a<m.b/\m.i<=la/\m.j<=lb)
def wI(m:Mv)(la lb:Nat):Rw5 × Rw5 :=
 if m.k=0 then (⟨⟨m.a,0,m.i,false⟩,⟨m.a,m.i,m.j+1,true⟩,⟨m.a,m.j+1,la,false⟩,qb,qb⟩,wH)
 else if m.k=1 then
  (if m.a≠m.b then (⟨⟨m.a,0,m.i,false⟩,⟨m.a,m.i+1,la,false⟩,qb,qb,qb⟩,⟨⟨m.b,0,m.j,false⟩,⟨m.a,m.i,m.i+1,false⟩,⟨m.b,m.j,lb,false⟩,qb,qb⟩)
  else if m.i<m.j then (⟨⟨m.a,0,m.i,false⟩,⟨m.a,m.i+1,m.j+1,false⟩,⟨m.a,m.i,m.i+1,false⟩,⟨m.a,m.j+1,la,false⟩,qb⟩,wH)
  else (⟨⟨m.a,0,m.j,false⟩,⟨m.a,m.i,m.i+1,false⟩,⟨m.a,m.j,m.i,false⟩,⟨m.a,m.i+1,la,false⟩,qb⟩,wH))
 else if m.k=2 then
  (if m.a=m.b then (⟨⟨m.a,0,m.i,false⟩,⟨m.b,m.j,m.j+1,false⟩,⟨m.a,m.i+1,m.j,false⟩,⟨m.a,m.i,m.i+1,false⟩,⟨m.a,m.j+1,la,false⟩⟩,wH)
  else (⟨⟨m.a,0,m.i,false⟩,⟨m.b,m.j,m.j+1,false⟩,⟨m.a,m.i+1,la,false⟩,qb,qb⟩,⟨⟨m.b,0,m.j,false⟩,⟨m.a,m.i,m.i+1,false⟩,⟨m.b,m.j+1,lb,false⟩,qb,qb⟩))
 else (⟨⟨m.a,0,m.i,false⟩,⟨m.b,m.j,lb,false⟩,qb,qb,qb⟩,⟨⟨m.b,0,m.j,false⟩,⟨m.a,m.i,la,false⟩,qb,qb,qb⟩)
def PA(m:Mv)(e f:Nat)(g:m.k=0):PP 348 [.agg (YG m e f)] (B (uU m e f)):=by
 unfold uU;rw[if_pos g];refine zt func348 ntmps348 results348 λS nx d=>?_;refine EK ?_;intro v0;by_cases h1:m.b=m.a;case neg =>
  have c:¬(m.b:Int)=m.a:=EA;refine aF [(7,10),(13,16),(22,25)] (zn c zE) ?_;exact zg (zi d rfl (by simp[h1,zp]))
 have c:(m.b:Int)=m.a:=EA;by_cases h2:m.i<m.j;case neg =>
  have h:¬(m.i:Int)<m.j:=EA;refine aF [(7,10),(13,16),(22,25)] (zD c h2 zE) ?_;exact zg (zi d rfl (by simp[h2,zp]))
 by_cases h3:m.j<e;case neg =>
  refine aF [(7,10),(13,16),(22,25)] (zR c h2 h3 zE) ?_;exact zg (zi d rfl (by simp[h3,zp]))
 refine aF [(7,10),(13,16),(22,25)] (zD c h2 h3) ?_;exact zg (zi d rfl (by simp[h1,h2,h3,zp]))
def PB(m:Mv)(e c:Nat)(l:m.k=1)(n:c<=1048576):PP 350 [.agg (YG m e c)] (B (uU m e c)):=by
 unfold uU;rw[if_neg EA,if_pos l];refine zt func350 ntmps350 results350 λS nx f=>?_;refine EK ?_;intro v0;refine EK ?_;refine za (qT (nx:=nx) (λz:Int=>(m.j:Int)<=z<->(if m.a=m.b then m.j<c else m.j<=c)) (λz=>[(1,.ptr nx v0 0),(3,I z)]) (λ_=>S) (λ_=>[.cells v0 415 (YG m e c)]) ?_ ?_);by_cases h1:m.a=m.b;have d:(m.a:Int)=m.b:=EA;have o:IntKind.i64.wrap ((c:Int)-1)=(c:Int)-1:=wr _ EA EA;refine aF [] d ?_;refine zm rfl (ze [] o ?_);exact yb ((c:Int)-1) [] (by rw[if_pos h1];omega) EB rfl EB;have d:¬(m.a:Int)=m.b:=EA;refine aF [] d ?_;exact zk rfl (zh (yb (c:Int) [] (by rw[if_neg h1];omega) EB rfl EB));intro z h;by_cases h2:m.i<e;case neg =>
  refine aF [(4,19),(12,27),(18,33)] (zn h2 zE) ?_;exact zg (zi f rfl (by simp[h2,zp]))
 by_cases h3:(m.j:Int)<=z;case neg =>
  have g:=(not_congr h).1 h3;refine aF [(4,19),(12,27),(18,33)] (zn h2 h3) ?_;exact zg (zi f rfl (by simp[h2,g,zp]))
 have g:=h.1 h3;refine aF [(4,19),(12,27),(18,33)] (zn h2 h3) ?_;exact zg (zi f rfl (by simp[h2,g,zp]))
def PC(m:Mv)(g h:Nat)(n:m.k=2):PP 352 [.agg (YG m g h)] (B (uU m g h)):=by
 unfold uU;rw[if_neg EA,if_neg EA,if_pos n];refine zt func352 ntmps352 results352 λS nx f=>?_;refine EK ?_;intro v0;have rest:∀(P:Prop),(m.i<g->m.j<h->P)->(¬(m.i<g/\m.j<h)->P)->P:=λP a b=>by by_cases q:m.i<g/\m.j<h;exact a q.1 q.2;exact b q
 by_cases h1:m.b<m.a;repeat apply za
 refine ze [(7,10),(15,18)] (zn h1 zE) ?_;refine zm rfl (EK ?_);exact zg (zi f rfl (by simp[h1,zp]));by_cases h2:m.a=m.b
 .have d:(m.a:Int)=m.b:=EA;by_cases h3:m.j<=m.i;have l:¬m.b<m.b:=EA;repeat apply za
  refine ze [(7,10),(15,18)] (zD d l h3) ?_;refine zm rfl (EK ?_);exact zg (zi f rfl (by simp[h2,h3,zp]));have l:¬m.b<m.b:=EA;have h0:¬(m.b<m.a\/m.a=m.b/\m.j<=m.i):=EA;repeat apply za
  refine ze [(7,10),(15,18)] (zD d l h3) ?_;refine zk rfl (zh ?_);by_cases c:m.i<g;case neg =>
   refine aF [(4,32),(12,40),(18,46)] (zn c zE) ?_;exact zg (zi f rfl (by simp[c,zp]))
  by_cases e:m.j<h;case neg =>
   refine aF [(4,32),(12,40),(18,46)] (zn c e) ?_;exact zg (zi f rfl (by simp[e,zp]))
  refine aF [(4,32),(12,40),(18,46)] (zn c e) ?_;exact zg (zi f rfl (by simp[h0,c,e,zp]))
 have d:¬(m.a:Int)=m.b:=EA;have h0:¬(m.b<m.a\/m.a=m.b/\m.j<=m.i):=EA;repeat apply za
 refine ze [(7,10),(15,18)] (zD h1 d zE) ?_;refine zk rfl (zh ?_);by_cases c:m.i<g;case neg =>
  refine aF [(4,32),(12,40),(18,46)] (zn c zE) ?_;exact zg (zi f rfl (by simp[c,zp]))
 by_cases e:m.j<h;case neg =>
  refine aF [(4,32),(12,40),(18,46)] (zn c e) ?_;exact zg (zi f rfl (by simp[e,zp]))
 refine aF [(4,32),(12,40),(18,46)] (zn c e) ?_;exact zg (zi f rfl (by simp[h0,c,e,zp]))
def PD(m:Mv)(d e:Nat)(f:3<=m.k):PP 354 [.agg (YG m d e)] (B (uU m d e)):=by
 unfold uU;rw[if_neg EA,if_neg EA,if_neg EA];refine zt func354 ntmps354 results354 λS nx c=>?_;refine EK ?_;intro v0;by_cases h1:m.a<m.b;case neg =>
  refine aF [(7,10),(13,16),(21,24),(27,30)] (zn h1 zE) ?_;exact zg (zi c rfl (by simp[h1,zp]))
 by_cases h2:m.i<=d;case neg =>
  refine aF [(7,10),(13,16),(21,24),(27,30)] (zD h1 h2 zE) ?_;exact zg (zi c rfl (by simp[h2,zp]))
 by_cases h3:m.j<=e;case neg =>
  refine aF [(7,10),(13,16),(21,24),(27,30)] (zD h1 h2 h3) ?_;exact zg (zi c rfl (by simp[h3,zp]))
 refine aF [(7,10),(13,16),(21,24),(27,30)] (zD h1 h2 h3) ?_;exact zg (zi c rfl (by simp[h1,h2,h3,zp]))
def PE(m:Mv)(a b:Nat)(c:m.k=0)(hi:m.i<=1048576)(f:m.j<=1048576):PP 349 [.agg (YG m a b)] (.tup [.agg (yH (wI m a b).1),.agg (yH (wI m a b).2)]):=by have g:=zu m.i EA;have d:=zu m.j EA;unfold wI;rw[if_pos c];refine zt func349 ntmps349 results349 λS nx e=>?_;refine EK ?_;intro v0 v1 h;refine aG (some [nx]) Rk mixed trivial ?_;refine aF [] d ?_;exact zg (zi e EC (by simp[zp,wH,qb]))
def PF(m:Mv)(a b:Nat)(d:3<=m.k):PP 355 [.agg (YG m a b)] (.tup [.agg (yH (wI m a b).1),.agg (yH (wI m a b).2)]):=by unfold wI;rw[if_neg EA,if_neg EA,if_neg EA];refine zt func355 ntmps355 results355 λS nx c=>?_;refine EK ?_;intro v0 v1 e;refine aG (some [nx]) R3 mixed trivial ?_;refine aG (some [nx]) Ru mixed trivial ?_;exact zg (zi c EC (by simp[zp,wH,qb]))
def PG(m:Mv)(e f:Nat)(l:m.k=1)(hi:m.i<=1048576)(n:m.j<=1048576):PP 351 [.agg (YG m e f)] (.tup [.agg (yH (wI m e f).1),.agg (yH (wI m e f).2)]):=by
 have d:=zu m.i EA;have h:=zu m.j EA;unfold wI;rw[if_neg EA,if_pos l];refine zt func351 ntmps351 results351 λS nx g=>?_;refine EK ?_;intro v0 v1 o;refine aG (some [nx]) R3 mixed trivial ?_;refine aF [] d ?_;intro v3;refine aA ?_;by_cases h1:m.a=m.b;case neg =>
  have c:¬(m.a:Int)=m.b:=EA;rw[if_pos h1];refine aF [] c ?_;refine zm rfl (aG (some [nx,nx+3]) (Row.pures [0,1,2,3,4,5,6,7,8,9,10,11,12,13,14,15,16,17,18,19] (.alt 20 (.alt 21 (.done) .stop) .stop)) mixed d ?_);exact zg (zi g EC (by simp[zp,wH,qb]))
 have c:(m.a:Int)=m.b:=EA;rw[if_neg (by simpa using h1)];refine aF [] c ?_;refine zk rfl ?_;by_cases h2:m.i<m.j;rw[if_pos h2];refine aF [] h2 ?_;refine zm rfl (aF [] (zn d h) ?_);exact zg (zi g EC (by simp[zp,wH,qb,h1]));rw[if_neg h2];refine aF [] h2 ?_;refine zk rfl (zh (aF [] (zn d h) ?_));exact zg (zi g EC (by simp[zp,wH,qb,h1]))
def PH(m:Mv)(d e:Nat)(l:m.k=2)(hi:m.i<=1048576)(n:m.j<=1048576):PP 353 [.agg (YG m d e)] (.tup [.agg (yH (wI m d e).1),.agg (yH (wI m d e).2)]):=by
 have f:=zu m.i EA;have g:=zu m.j EA;unfold wI;rw[if_neg EA,if_neg EA,if_pos l];refine zt func353 ntmps353 results353 λS nx h=>?_;refine EK ?_;intro v0 v1 o;refine aG (some [nx]) R3 mixed trivial ?_;refine aF [] (zn f g) ?_;intro v3 v4;by_cases h1:m.a=m.b;have c:(m.a:Int)=m.b:=EA;rw[if_pos h1];repeat apply za
 refine ze [] c ?_;refine zm rfl (aF [] (zn f g) ?_);exact zg (zi h EC (by simp[zp,wH,qb,h1]));have c:¬(m.a:Int)=m.b:=EA;rw[if_neg h1];repeat apply za
 refine ze [] c ?_;refine zk rfl (zh (aG (some [nx,nx+3,nx+4]) (Row.pures [0,1,2,3,4,5,6,7,8,9,10,11,12,13,14,15,16,17,18,19,20,21] (.alt 22 (.alt 23 (.done) .stop) .stop)) mixed (zn f g) ?_));exact zg (zi h EC (by simp[zp,wH,qb]))
abbrev df:List PV:=[.fn (.func 348) [] [],.fn (.func 349) [] [],.fn (.func 350) [] [],.fn (.func 351) [] [],.fn (.func 352) [] [],.fn (.func 353) [] [],.fn (.func 354) [] [],.fn (.func 355) [] []]
def pQ:PP 331 [] (.agg df):=by refine zt func331 ntmps331 results331 λS nx a=>?_;refine EK ?_;intro v0;refine EK ?_;exact EL a
def jo(d:zo)(t:Nat):Nat:=(d.getD t []).length
def vg(d:zo)(m:Mv):Bool:=decide (m.k<=3/\m.a<d.length/\m.b<d.length)&&uU m (jo d m.a) (jo d m.b)
def yA(d:zo)(m:Mv):Rw5 × Rw5:=wI m (jo d m.a) (jo d m.b)
def Qj(d:zo)(m:Mv):Rw5 × Rw5 × Bool:=if vg d m=true then ((yA d m).1,(yA d m).2,true) else (wH,wH,false)
def gV(d:zo)(m:Mv)(a6:d.length<=1048576)(w:∀t∈d,t.length<=1048576)(hk:m.k<=3)(x:m.a<d.length)(hb:m.b<d.length)(hi:m.i<=1048576)(y:m.j<=1048576):PP 318 [.agg [L d],.agg (Yc m)]
  (.tup [.agg (yH (Qj d m).1),.agg (yH (Qj d m).2.1),B (Qj d m).2.2]):=by
 obtain⟨ta,xa,a1,-,-,a0⟩:=zF rfl d m.a x;obtain⟨e,xb,b1,-,-,b0⟩:=zF rfl d m.b hb;have z:1<=d.length-m.a:=EA;have a2:1<=d.length-m.b:=EA;have la:jo d m.a=ta.length:=by unfold jo;rw[List.getD_eq_getElem?_getD,a1];rfl
 have lb:jo d m.b=e.length:=by unfold jo;rw[List.getD_eq_getElem?_getD,b1];rfl
 have a3:=w e (Aa b1);have l:vg d m=uU m ta.length e.length:=by unfold vg;rw[la,lb,decide_eq_true ⟨hk,x,hb⟩];rfl
 have n:yA d m=wI m ta.length e.length:=by unfold yA;rw[la,lb]
 unfold Qj;rw[l,n];clear l n la lb;have call:∀f g:Nat,m.k=m.k->True:=λ_ _ _=>trivial;clear call;have g1:¬(m.k:Int)<0:=EA;have g2:¬(3:Int)<m.k:=EA;have g3:¬(m.a:Int)<0:=EA;have g4:¬d.length<=m.a:=EA;have g5:¬(m.b:Int)<0:=EA;have g6:¬d.length<=m.b:=EA;refine zt func318 ntmps318 results318 λS nx hd=>?_;refine EK ?_;intro v0 v1 v2 v3;refine EK ?_;repeat apply za
 refine ze [(3,18),(8,23),(13,28),(19,34),(24,39)] (zU g1 g2 g3 g4 g5 g6) ?_;refine zk rfl (zh (aG (some [nx,nx+1]) Ru mixed (zU a0 b0 x hb z a2) ?_));intro v4;obtain⟨mf,cf,a4,a5,s⟩:∃mf cf:Nat,Pure prog mf [.agg (YG m ta.length e.length)] (B (uU m ta.length e.length))/\Pure prog cf [.agg (YG m ta.length e.length)] (.tup [.agg (yH (wI m ta.length e.length).1),.agg (yH (wI m ta.length e.length).2)]) /\
   ∃k:Nat,(k:Int)=m.k/\k<4/\(df.drop (k*2)).take 2=[.fn (.func mf) [] [],.fn (.func cf) [] []]:=by
  have h4:m.k=0\/m.k=1\/m.k=2\/m.k=3:=EA;obtain h|h|h|h:=h4;exact⟨_,_,PA m _ _ h,PE m _ _ h hi y,0,by omega,by omega,rfl⟩;exact⟨_,_,PB m _ _ h a3,PG m _ _ h hi y,1,by omega,by omega,rfl⟩;exact⟨_,_,PC m _ _ h,PH m _ _ h hi y,2,by omega,by omega,rfl⟩;exact⟨_,_,PD m _ _ EA,PF m _ _ EA,3,by omega,by omega,rfl⟩
 obtain⟨k,a7,u,q⟩:=s;obtain rfl:k=m.k:=EA;have o:(m.k:Int)<4:=EA;have v:2<=8-m.k*2:=EA;generalize a8:uU m ta.length e.length=mz at *;generalize a9:wI m ta.length e.length=cz at *;obtain⟨r1,r2⟩:=cz;generalize r:df=kl at q;have c:=pQ;rw[r]at c;have p:kl.length=8:=by rw[<-r];rfl
 clear r;refine aG (some [nx+1]) (Row.pures [0,1,2,3] (.alt 4 (.alt 5 (.done) .stop) .stop)) mixed (yx q u o p v) ?_;refine zJ (c) (yx q u o p v) ?_;intro v5;repeat apply za
 refine zb ?_;refine zq a4 ?_;cases mz with
 |false =>
 refine zm rfl (EK ?_);exact zg (zi hd EC (by simp[zp,wH,qb]))
 |true =>
 refine zk rfl (zh (EK ?_));refine zq a5 ?_;intro v6 v7;refine aG (some [nx+6,nx+7]) (Row.pures [0,1] (.alt 2 (.alt 3 U7 .stop) .stop)) mixed trivial ?_;exact zg (zi hd EC (by simp[zp]))
def pR(l:List Stop)(k:Nat)(s:Stop)(h:k<l.length):yl (l.flatMap Enc.enc) (k*2) [I s.c,I s.q]=(l.set k s).flatMap Enc.enc:=by unfold yl;rw[AK,if_pos h,Ar,Ax,<-Jx Enc.enc 2 (λ_=>rfl) l k,<-Wv Enc.enc 2 (λ_=>rfl) l (k+1)];simp[show k*2+2=(k+1)*2 by omega]
def j5(l:List Stop)(k:Nat):List Stop:=(List.range l.length).map λq=>if q<k\/l.length-1-q<k then l.getD (l.length-1-q) default else l.getD q default
def ZM(l:List Stop)(k:Nat):(j5 l k).length=l.length:=by simp[j5]
def WU{l:List Stop}(a:i<l.length):(j5 l k)[i]?=some (if i<k\/l.length-1-i<k then l.getD (l.length-1-i) default else l.getD i default):=by unfold j5;rw[Ai,A4 a];rfl
def PI(l:List Stop):j5 l 0=l:=by apply Bg;intro q;by_cases h:q<l.length;rw[WU h,if_neg EA,List.getD_eq_getElem?_getD,Ac h];rfl;rw[Ao (by rw[ZM];omega),Ao EA]
def PJ{l:List Stop}(a:l.length-1<=k+k):j5 l k=l.reverse:=by apply Bg;intro q;by_cases h:q<l.length;rw[WU h,List.getElem?_reverse h];by_cases h1:q<k\/l.length-1-q<k;rw[if_pos h1,List.getD_eq_getElem?_getD,Ac EA];rfl;rw[if_neg h1,List.getD_eq_getElem?_getD];have:q=l.length-1-q:=EA;rw[<-this,Ac h];rfl;rw[Ao (by rw[ZM];omega),Ao EF]
def PK{l:List Stop}(h:k<l.length-1-k){a b:Stop}(d:(j5 l k)[k]?=some a)(hb:(j5 l k)[l.length-1-k]?=some b):((j5 l k).set k b).set (l.length-1-k) a=j5 l (k+1):=by rw[WU EA,if_neg EA]at d;rw[WU EA,if_neg EA]at hb;cases d;cases hb;apply Bg;intro q;by_cases c:q<l.length;rw[WU c,BG,BG];by_cases e:l.length-1-k=q;rw[if_pos e,if_pos (by rw[BP,ZM];omega),if_pos EA];congr 2;omega;rw[if_neg e];by_cases e2:k=q;subst e2;rw[if_pos rfl,if_pos (by rw[ZM];exact c),if_pos EA];rw[if_neg e2,WU c];by_cases h1:q<k\/l.length-1-q<k;rw[if_pos h1,if_pos EA];rw[if_neg h1,if_neg EA];rw[Ao (by rw[BP,BP,ZM];omega),Ao (by rw[ZM];omega)]
def dg(S:Store)(i:Nat)(a b:Ob):(S.set i a).set i b=S.set i b:=by funext o;by_cases h:o=i;subst h;rw[q11,q11];rw[q10 _ _ _ _ h,q10 _ _ _ _ h,q10 _ _ _ _ h]
def PL{id ver:Nat}(pre l:List Stop)(hn:(pre++l).length<=1048576)(hid:S id=.cells ver 101 ((pre++l).flatMap Enc.enc)):
  SP 335 [.sl id ver 2 (pre.length*2) l.length] S (λ_ S'=>S'=S.set id (.cells ver 101 ((pre++l.reverse).flatMap Enc.enc))):=by
 refine yr func335 ntmps335 results335 λnx w=>?_;have e:id<nx:=qB w hid EB;simp only[Ak]at hn;have w0:IntKind.i64.wrap ((l.length:Int)-1)=(l.length:Int)-1:=wr _ EA EA;refine aF [] w0 ?_;refine zj (xk (σ:=Nat) (λk=>k<=l.length) (λk=>[(0,.sl id ver 2 (pre.length*2) l.length),(2,I k),(3,I ((l.length:Int)-1-k))]) (λk=>S.set id (.cells ver 101 ((pre++j5 l k).flatMap Enc.enc))) (λ_=>[]) (λk=>l.length-k) (yb 0 [] EB EB (by rw[PI];exact WJ S id _ hid) EB) ?_);rintro k hk;show PW _ _ _ _ _ _ _ (ext (S.set id (.cells ver 101 ((pre++j5 l k).flatMap Enc.enc))) nx []);obtain⟨T,d⟩:∃T,T=S.set id (.cells ver 101 ((pre++j5 l k).flatMap Enc.enc)):=⟨_,rfl⟩;rw[<-d];repeat apply za
 refine zb ?_;refine zv rfl (λhc=>?_) (λhc=>?_);simp at hc;have h1:k<l.length-1-k:=EA;have x1:=ZM l k;obtain⟨a,ta,z,-,-,-,a0⟩:=el 2 rfl (pre++j5 l k) (pre.length+k) (by simp[ZM];omega);obtain⟨b,tb,b1,-,-,-,b0⟩:=el 2 rfl (pre++j5 l k) (pre.length+(l.length-1-k)) (by simp[ZM];omega);have o:=PK h1 (a:=a) (b:=b) (by rw[<-z,Am EA,AM]) (by rw[<-b1,Am EA,AM]);have p:=pR (pre++j5 l k) (pre.length+k) b (by simp[ZM];omega);have f:=pR ((pre++j5 l k).set (pre.length+k) b) (pre.length+(l.length-1-k)) a (by simp[ZM];omega);have q:((pre++j5 l k).set (pre.length+k) b).set (pre.length+(l.length-1-k)) a=pre++j5 l (k+1):=by rw[BQ _ _ EA,BQ _ _ EA,AM,AM,o]
 rw[q]at f;have r:(l.length:Int)-1-k=((l.length-1-k:Nat):Int):=EA;generalize l.length-1-k=j at *;generalize s:((pre++j5 l k).flatMap Enc.enc:List PV)=c0 at *;generalize t:(((pre++j5 l k).set (pre.length+k) b).flatMap Enc.enc:List PV)=c1 at *;have l0:c0.length=(pre.length+l.length)*2:=by rw[<-s,Qa];simp[ZM]
 have l1:c1.length=(pre.length+l.length)*2:=by rw[<-t,Qa];simp[ZM]
 have g:T id=.cells ver 101 c0:=by rw[d];exact q11 _ _ _
 have u:=λobs=>zG (S:=T) (obs:=obs) e;have h:=λobs=>zG (S:=T.set id (.cells ver 101 c1)) (obs:=obs) e;have v:(T.set id (.cells ver 101 c1)) id=.cells ver 101 c1:=q11 _ _ _;have m:k+1<=l.length:=EA;have q1:pre.length*2+k*2=(pre.length+k)*2:=EA;have q2:pre.length*2+j*2=(pre.length+j)*2:=EA;have q3:j<l.length:=EA;have q4:k<l.length:=EA;have q5:¬nx<=id:=EA;refine zh (aA ?_);rw[r];refine zA (some []) (Row.pures [0,1,2,3,4,5,6,8,9,10] (.alt 7 (.alt 11 RI .stop) (.alt 11 (.alt 7 RI .stop) .stop))) mixed (zU u g q1 q2 a0 (zn (zU b0 q3 q4 q5 l0 p) (zR v h f l1))) ?_;have x:IntKind.i64.wrap ((j:Int)-1)=(l.length:Int)-1-((k+1:Nat):Int):=by rw[wr _ EA EA];omega
 have y:=zu k EA;have n:S.set id (.cells ver 101 ((pre++j5 l (k+1)).flatMap Enc.enc))=(T.set id (.cells ver 101 c1)).set id (.cells ver 101 ((pre++j5 l (k+1)).flatMap Enc.enc)):=by rw[d,dg,dg]
 have c:((pre++j5 l (k+1)).flatMap Enc.enc:List PV)=pre.flatMap Enc.enc++(j5 l (k+1)).flatMap Enc.enc:=by rw[Ar]
 rw[c]at n;refine⟨?_,?_⟩;refine⟨by omega,by omega,?_⟩;refine ze [] (zn y x) ?_;exact zr (k+1) [] m EA EB (by rw[c,d];simp only[dg]) EB;refine⟨by omega,by omega,?_⟩;refine ze [] (zn y x) ?_;exact zr (k+1) [] m EA EB (by rw[c,d];simp only[dg]) EB;simp at hc;refine zx ?_;refine⟨[],T,rfl,?_,zV ?_⟩;rw[d,PJ EA];rw[d];intro i hi;rw[q10 _ _ _ _ EA];exact w i hi
def q9(d:zo)(p:Pc):List Stop:=if p.f<p.o then (bif p.b then (((d.getD p.t []).drop p.f).take (p.o-p.f)).reverse else ((d.getD p.t []).drop p.f).take (p.o-p.f)) else []
def qI(d:zo)(r:Rw5):List Stop:=r.l.flatMap (q9 d)
def WV(d:zo)(p:Pc):Prop:=p.f<p.o->p.t<d.length/\p.o<=jo d p.t
def ZN(d:zo)(r:Rw5):Prop:=∀p∈r.l,WV d p
def PM(d:zo):ZN d wH:=by intro p a h;simp[Rw5.l,wH]at a;subst a;exact absurd h EH
def di(r:Rw5)(h:k<5):∃p,r.l[k]?=some p/\((yH r).drop (k*4)).take 4=pcL p/\r.l.take (k+1)=r.l.take k++[p]:=by have a:k=0\/k=1\/k=2\/k=3\/k=4:=EA;obtain rfl|rfl|rfl|rfl|rfl:=a<;>exact⟨_,rfl,rfl,rfl⟩
def pS{d:zo}{p:Pc}{m:Nat}(h:∀t∈d,t.length<=m):(q9 d p).length<=m:=by
 have c:(d.getD p.t []).length<=m:=by
  rw[List.getD_eq_getElem?_getD];cases a:d[p.t]? with
  |none=>simp
  |some l=>exact h l (Aa a)
 unfold q9;generalize d.getD p.t []=l at *;split;cases p.b<;>simp<;>omega;simp
def pT(d:zo)(r:Rw5)(d1:d.length<=1048576)(s:∀t∈d,t.length<=1000)(hr:ZN d r):PP 321 [.agg [L d],.agg (yH r)] (L (qI d r)):=by
 have w:=λk (h:k<5)=>di r h;have hz:qI d r=(r.l.take 5).flatMap (q9 d):=by unfold qI;rw[Ae (by simp[Rw5.l])]
 rw[hz];clear hz;have x:(yH r).length=20:=rfl;have a2:(yH r).take 20=yH r:=rfl;have y:=λp=>pS (d:=d) (p:=p) s;have a3:∀k,((r.l.take k).flatMap (q9 d)).length<=1000*k:=by
  intro k;induction k with
  |zero=>simp
  |succ k ih =>
  by_cases hk:k<5;obtain⟨p,-,-,e⟩:=w k hk;rw[e,Ar,Ak];have:=y p;simp only[Ax,Cu,AA];omega;rw[Ae (by simp[Rw5.l];omega)]at ih ⊢;omega
 have d2:r.l.length=5:=rfl;generalize d3:yH r=rc at *;refine zt func321 ntmps321 results321 λS nx hd=>?_;refine EK ?_;intro v0 v1;refine EK ?_;refine za (qO 5 101 2 rfl λj=>?_);refine aF [] (zn x a2) ?_;refine zj (zC (λs':Nat × Nat=>s'.1<=5) (λ(k,j)=>[(2,.ptr nx v0 0),(3,.ptr (nx+1) v1 0),(5,.sl (nx+2) j 2 0 ((r.l.take k).flatMap (q9 d)).length),(9,.agg rc),(10,I k)]) (λ(k,j)=>[.cells v0 96 [L d],.cells v1 372 rc,.cells j 101 (((r.l.take k).flatMap (q9 d)).flatMap Enc.enc)]) (λs'=>5-s'.1) (0,j) [] EB EB EB ?_);rintro⟨k,j⟩ hk;simp only at hk ⊢;by_cases z:k<5
 .obtain⟨p,a4,a5,a6⟩:=w k z;have n:(k:Int)<5:=EA;have a7:4<=20-k*4:=EA;have a8:=hr p (Aa a4);have d4:=a3 k;have i:(r.l.take (k+1)).flatMap (q9 d)=(r.l.take k).flatMap (q9 d)++q9 d p:=by rw[a6,Ar];simp
  have c7:=y p;generalize (r.l.take k).flatMap (q9 d)=out at *;have wk:=zu k EA;refine aF [] n ?_;refine za (zm rfl (zh (aA (aF [] (yx a5 z n x a7) ?_))));intro v3;by_cases u:p.f<p.o;case neg =>
   have a:q9 d p=[]:=by unfold q9;rw[if_neg u]
   have c:p.o<=p.f:=EA;repeat apply za
   refine ze [] c ?_;refine zm (by simp[c]) ?_;refine zx (zb ?_);exact zr (k+1,j) [_] EF EF (by simp[wk,i,a]) rfl (by simp[i,a];rfl)
  obtain⟨ht,ho⟩:=a8 u;obtain⟨t,tt,t1,-,-,t0⟩:=zF rfl d p.t ht;have a9:1<=d.length-p.t:=EA;have a0:d.getD p.t []=t:=by rw[List.getD_eq_getElem?_getD,t1];rfl
  unfold jo at ho;rw[a0]at ho;have a:q9 d p=bif p.b then ((t.drop p.f).take (p.o-p.f)).reverse else (t.drop p.f).take (p.o-p.f):=by unfold q9;rw[if_pos u,a0]
  have c:¬p.o<=p.f:=EA;have b7:((t.flatMap Enc.enc:List PV).drop (p.f*2)).take ((p.o-p.f)*2)=((t.drop p.f).take (p.o-p.f)).flatMap Enc.enc:=by rw[Wv Enc.enc 2 (λ_=>rfl) t p.f,Jx Enc.enc 2 (λ_=>rfl) (t.drop p.f) (p.o-p.f)]
  have g:((t.drop p.f).take (p.o-p.f)).length=p.o-p.f:=EF;have c8:(((t.drop p.f).take (p.o-p.f)).flatMap Enc.enc:List PV).length=(p.o-p.f)*2:=by rw[Qa,g]
  generalize (t.drop p.f).take (p.o-p.f)=sg at *;have b8:(out.flatMap Enc.enc:List PV).length=out.length*2:=Qa out;have c6:(out.flatMap Enc.enc:List PV).take (out.length*2)=out.flatMap Enc.enc:=Ae EA;have q1:p.f<=p.o:=EA;have d5:=s t (Aa t1);repeat apply za
  refine ze [] c ?_;refine zk (by simp[c]) ?_;refine zh (EK ?_);refine aG (some [nx,nx+3]) (Row.pures [0,1,2,3,4,5,6,7,8,9,10,11,12] (.alt 13 U0 .stop)) mixed (zU t0 ht a9 b8 c6 (zR b7 g q1 ho)) ?_;refine⟨by omega,?_⟩;have d0:sg.length<=1000:=by have h1:=s t (Aa t1);omega
  cases m:p.b with
  |false =>
  rw[m]at a;simp only[cond_false]at a;refine aF [] m ?_;refine zk rfl (zh (zb ?_));exact zr (k+1,j+1) [_] EF EF (by simp[wk,i,a,g]) rfl (by simp[i,a];rfl)
  |true =>
  rw[m]at a;simp only[cond_true]at a;have q:=λ(S:Store) (id ver:Nat) h=>PL (S:=S) (id:=id) (ver:=ver) out sg EF h;rw[g]at q;refine aF [] m ?_;refine zm rfl (zb ?_);refine λa1=>((q _ _ _ (by rw[zS,Ar];rfl)).mono ?_).v;rintro _ _ rfl;refine⟨_,_,yi _ EA EB,xA [] (show nx+2-nx=2 by omega) a1 ?_⟩;refine zb ?_;exact zr (k+1,j+1) [_] EF EF (by simp[wk,i,a,g]) rfl (by simp[i,a];rfl)
 obtain rfl:k=5:=EA;generalize (r.l.take 5).flatMap (q9 d)=out at *;refine EK ?_;refine za (zk rfl (zx (zY 2 rfl ?_)));refine EK ?_;exact zg (zi hd EC (by simp[zp]))
theorem pU{d:List α}(hn:d.Nodup){t:α}(hi:d[i]?=some t)(a:d[j]?=some t):i=j:=by grind[List.pairwise_iff_getElem]
def wg(f:zM->Bool):zo->Int
 |[]=>-1
 |t::d=>if 0<=wg f d then wg f d+1 else if f t then 0 else -1
theorem pV(f:zM->Bool):∀d:zo,(wg f d=-1/\∀t∈d,f t=false)\/∃(k:Nat) (t:zM),d[k]?=some t/\f t=true/\wg f d=k
 |[]=>.inl ⟨rfl,λt h=>by cases h⟩
 |u::d=>by
  unfold wg;obtain⟨h1,h2⟩|⟨k,t,h1,h2,h3⟩:=pV f d
  .rw[h1,if_neg EA];cases a:f u with
   |true=>exact .inr ⟨0,u,rfl,a,by simp⟩
   |false =>
   simp_all
  rw[h3,if_pos EA];exact .inr ⟨k+1,t,by simpa using h1,h2,by simp⟩
def gW(d:zo)(a b:Nat)(t:zM)(k:Nat):zo:=(List.range k).flatMap λj=>if j=a then [t] else if j=b then [] else [d.getD j []]
def Q3(c:Int)(t:zM):Bool:=decide (JD t=some c)
def Q4(c:Int)(t:zM):Bool:=decide (XF t=some c)
def Q5(x:Inst)(d:zo)(p:Pr):zo :=
 if wg (Q3 p.a) d<0\/wg (Q4 p.b) d<0\/wg (Q3 p.a) d=wg (Q4 p.b) d\/(p.s<=0/\(d.length:Int)<=x.X) then d
 else if zX x (d.getD (wg (Q3 p.a) d).toNat []++d.getD (wg (Q4 p.b) d).toNat [])=0 then
  gW d (wg (Q3 p.a) d).toNat (wg (Q4 p.b) d).toNat (d.getD (wg (Q3 p.a) d).toNat []++d.getD (wg (Q4 p.b) d).toNat []) d.length
 else d
theorem gX{γ:Type}{f:α->List γ}{g:β->List γ}:∀(A:List α) (B:List β),A.length=B.length->(∀(j:Nat) a b,A[j]?=some a->B[j]?=some b->f a=g b)->A.flatMap f=B.flatMap g
 |[],[],_,_=>rfl
 |a::A,b::B,hl,h=>by rw[Ax,Ax,h 0 a b rfl rfl,gX A B (by simpa using hl) λj a b c hb=>h (j+1) a b (by simpa using c) (by simpa using hb)]
 |[],_::_,hl,_=>by simp at hl
 |_::_,[],hl,_=>by simp at hl
theorem gY(p:α->Bool):∀l:List α,l.filter p=l.flatMap λa=>if p a then [a] else []
 |[]=>rfl
 |a::l=>by rw[Ax,<-gY p l,Cm];cases p a<;>simp
structure Apt (T:zo):Prop where
 u:∀(i j:Nat) t s s',T[i]?=some t->s∈t->∀t',T[j]?=some t'->s'∈t'->s.c=s'.c->i=j
theorem JI.apt{T:zo}(h:JI ss T g):Apt T:=⟨λi j t s s' hi hs t' b a e=>by have c:=h.g i t s hi hs;have e2:=h.g j t' s' b a;grind⟩
abbrev ne(t:zM):Bool:=!t.isEmpty
def an(h:ne t=true):∃s,s∈t:=by cases t<;>simp_all
def pW{s:Stop}(h:s∈t):ne t=true:=EI
def WX(ta tb u:zM):zo:=if u=ta then [ta++tb] else if u=tb then [] else [u]
def PN{T:zo}(g:Apt T)(hi:T[i]?=some t)(h:T[k]?=some a)(l:i≠k)(n:ne t=true)(hb:ne a=true):
  ((T.set i (t++a)).set k []).filter ne=(T.filter ne).flatMap (WX t a):=by
 rw[gY ne T,List.flatMap_assoc,gY];refine gX _ _ EB λj u v c hv=>?_;obtain⟨q,o⟩:=an n;obtain⟨m,d⟩:=an hb;have e:=(Ad.1 hv).1;by_cases h1:k=j;subst h1;rw[A9 (by simpa using e)]at c;cases c;obtain rfl:a=v:=by rw[h]at hv;exact Option.some.inj hv
 have p:a≠t:=by rintro rfl;exact l (g.u i k a m m hi d a h d rfl)
 simp_all[WX];rw[Bf h1]at c;by_cases h2:i=j;subst h2;rw[A9 e]at c;cases c;obtain rfl:t=v:=by rw[hi]at hv;exact Option.some.inj hv
 simp_all[WX];rw[Bf h2]at c;obtain rfl:u=v:=EJ;cases hn:ne u with
 |false=>simp
 |true =>
 obtain⟨f,b⟩:=an hn;have n1:u≠t:=by rintro rfl;exact h2 (g.u i j u f f hi b u hv b rfl)
 have r:u≠a:=by rintro rfl;exact h1 (g.u k j u f f h b u hv b rfl)
 simp_all[WX]
def PQ{T:zo}(a:Apt T):(T.filter ne).Nodup:=by rw[List.nodup_iff_pairwise_ne,List.pairwise_filter,BI];intro i j hi b c h1 h2 e;obtain⟨s,hs⟩:=an h1;have:=a.u i j T[i] s s (Ac hi) hs T[j] (Ac b) (e ▸ hs) rfl;omega
def PR{d:zo}(hn:d.Nodup){a b:Nat}{c:zM}(e:d[a]?=some t)(hb:d[b]?=some c):gW d a b (t++c) d.length=d.flatMap (WX t c):=by unfold gW;refine gX _ _ EB λj n u f g=>?_;grind[pU,WX]
def pX{T:zo}(h:Apt T){s:Stop}(hi:T[i]?=some t)(hs:s∈t)(f:zM->Bool)(hf:∀u,f u=true->∃s'∈u,s'.c=s.c):
  (f t=false/\wg f (T.filter ne)=-1)\/(f t=true/\∃k:Nat,(T.filter ne)[k]?=some t/\wg f (T.filter ne)=k):=by
 have g:∀u∈T.filter ne,f u=true->u=t:=by intro u l a;obtain⟨s',b,e⟩:=hf u a;obtain⟨j,d⟩:=Bv.1 (AX.1 l).1;have:=h.u i j t s s' hi hs u d b e.symm;subst this;rw[hi]at d;exact(Option.some.inj d).symm
 grind[pV]
def PS{c:Int}(h:Q3 c t=true):∃s∈t,s.c=c:=by have h:JD t=some c:=of_decide_eq_true h;grind[JD]
def PU{c:Int}(h:Q4 c t=true):∃s∈t,s.c=c:=by have h:XF t=some c:=of_decide_eq_true h;grind[XF]
theorem gZ(p:zM->Bool):∀T:zo,((T.filter p).length:Int)=(T.map λt=>if p t then (1:Int) else 0).sum
 |[]=>rfl
 |t::T=>by rw[Cm,Ap,AL,<-gZ p T];grind
def PY{T:zo}(hi:T[i]?=some t)(c:T[k]?=some a)(b:i≠k)(d:ne t=true)(hb:ne a=true):
  ((((T.set i (t++a)).set k []).filter ne).length:Int)=((T.filter ne).length:Int)-1:=by
 obtain⟨f,e⟩:=an d;rw[gZ,gZ,gN _ _ k a [] (by rw[Bf b];exact c),gN _ _ i t (t++a) hi];simp_all
def PZ{st:zo × Int}(h:JI ss st.1 g)(o:st.2=((st.1.filter ne).length:Int)){p:Pr}(a5:p.a∈ss.map (·.c))(a6:p.b∈ss.map (·.c)):
  Q5 x (st.1.filter ne) p=(jR x st p).1.filter ne/\(jR x st p).2=(((jR x st p).1.filter ne).length:Int)/\∃g',JI ss (jR x st p).1 g':=by
 obtain⟨i,a,sa,j,n,w,b8,a7⟩:=h.there a5;obtain⟨k,b,sb,d,y,z,c6,a8⟩:=h.there a6;have a9:st.1.getD i []=a:=by rw[List.getD_eq_getElem?_getD,j];rfl
 have b7:st.1.getD k []=b:=by rw[List.getD_eq_getElem?_getD,d];rfl
 have a0:jR x st p=bif qZ x st.2 p i k a b then ((st.1.set i (a++b)).set k [],st.2-1) else st:=by unfold jR V5;simp only[a7,a8,a9,b7]
 have hA:=h.apt;have a1:=pW n;have a2:=pW y;have a3:=PQ hA;rw[a0];have m:qZ x st.2 p i k a b=false->Q5 x (st.1.filter ne) p=st.1.filter ne->Q5 x (st.1.filter ne) p=(bif qZ x st.2 p i k a b then ((st.1.set i (a++b)).set k [],st.2-1) else st).1.filter ne/\(bif qZ x st.2 p i k a b then ((st.1.set i (a++b)).set k [],st.2-1) else st).2=(((bif qZ x st.2 p i k a b then ((st.1.set i (a++b)).set k [],st.2-1) else st).1.filter ne).length:Int)/\∃g',JI ss (bif qZ x st.2 p i k a b then ((st.1.set i (a++b)).set k [],st.2-1) else st).1 g':=by intro t e2;rw[t];exact⟨e2,o,g,h⟩
 rcases pX hA j n (Q3 p.a) (λu hu=>by rw[w];exact PS hu) with ⟨fa,la⟩|⟨fa,ka,ha1,la⟩
 have t:JD a≠some p.a:=of_decide_eq_false fa;refine m (by simp[qZ,t]) ?_;unfold Q5;rw[if_pos (.inl EA)];rcases pX hA d y (Q4 p.b) (λu hu=>by rw[z];exact PU hu) with ⟨fb,lb⟩|⟨fb,kb,hb1,lb⟩
 have t:XF b≠some p.b:=of_decide_eq_false fb;refine m (by simp[qZ,t]) ?_;unfold Q5;rw[if_pos (.inr (.inl EA))];have t:JD a=some p.a:=of_decide_eq_true fa;have e2:XF b=some p.b:=of_decide_eq_true fb;have a4:ka=kb<->i=k:=by
  constructor;rintro rfl;obtain rfl:a=b:=by rw[ha1]at hb1;exact Option.some.inj hb1
  exact hA.u i k a sa sa j n a d n rfl;rintro rfl;obtain rfl:a=b:=by rw[j]at d;exact Option.some.inj d
  exact pU a3 ha1 hb1
 have ga:(st.1.filter ne).getD (ka:Int).toNat []=a:=by rw[AJ,List.getD_eq_getElem?_getD,ha1];rfl
 have gb:(st.1.filter ne).getD (kb:Int).toNat []=b:=by rw[AJ,List.getD_eq_getElem?_getD,hb1];rfl
 by_cases l:i=k;refine m (by simp[qZ,l]) ?_;unfold Q5;rw[if_pos (.inr (.inr (.inl (by rw[la,lb,a4.2 l]))))];by_cases f:p.s<=0/\st.2<=x.X;refine m (by simp[qZ,f.1,f.2]) ?_;unfold Q5;rw[if_pos (.inr (.inr (.inr ⟨f.1,by omega⟩)))];have v:¬(wg (Q3 p.a) (st.1.filter ne)<0\/wg (Q4 p.b) (st.1.filter ne)<0\/wg (Q3 p.a) (st.1.filter ne)=wg (Q4 p.b) (st.1.filter ne)\/(p.s<=0/\((st.1.filter ne).length:Int)<=x.X)):=by rw[la,lb];rintro(q|q|q|q);omega;omega;exact l (a4.1 EA);exact f ⟨q.1,by omega⟩
 by_cases r:zX x (a++b)=0;have hc:qZ x st.2 p i k a b=true:=by unfold qZ;simp only[l,t,e2,r,Aw,decide_eq_true_eq,ne_eq,not_false_eq_true,Cy,Bool.and_eq_false_iff,decide_eq_false_iff_not,and_true,true_and];by_cases q:p.s<=0;exact .inr λe=>f ⟨q,e⟩;exact .inl q
 rw[hc];simp only[cond_true];refine⟨?_,?_,_,h.join j d l⟩;unfold Q5;rw[if_neg v,la,lb,ga,gb,if_pos r,PN hA j d l a1 a2,<-PR a3 ha1 hb1];rfl;rw[PY j d l a1 a2,o];simp_all[qZ,Q5]
def Sa(ss:List Stop):(ss.map λs=>[s]).filter ne=jx ss:=by simp[jx]
def pY(l:List Stop):(jx l).length=l.length:=by simp[jx]
def Sc{x:Inst}{T:zo}(h:JI ss T g)(c:ss.length<=1000):(T.filter ne).length<=1000/\(T.filter ne).flatten.length<=1000/\∀t∈T.filter ne,t≠[]:=by
 have hf:(T.filter ne).flatten=T.flatten:=by
  induction T with
  |nil=>rfl
  |cons t T b =>
  clear h;have key:∀T:zo,(T.filter ne).flatten=T.flatten:=by
   intro T;induction T with
   |nil=>rfl
   |cons t T b =>
   rw[Cm];cases t with
   |nil=>simpa using b
   |cons s t=>simp[b]
  exact key _
 have a:∀t∈T.filter ne,t≠[]:=λt d e=>by have:=(AX.1 d).2;rw[e]at this;cases this
 have hl:=h.perm.length_eq;have h1:=cX (T.filter ne) a;rw[hf]at h1;exact⟨by omega,by rw[hf];omega,a⟩
structure SOk (x:Inst) (l:List Stop):Prop where
 y:x.y.length<=1048576
 aj:qG x
 X:0<=x.X
 len:l.length<=1000
 sm:∀s∈l,qA s.c
 nd:(l.map (·.c)).Nodup
def JM(x:Inst)(l:List Stop):List zo:=[uq x l,jx l]++(bif (j4 x l).2 then [(j4 x l).1] else [])
def Qk(x:Inst)(imp:zo->zo)(l:List Stop):List zo:=[jx l,imp (uq x l),imp (jx l)]++(bif (j4 x l).2 then [imp (j4 x l).1] else [])
theorem pZ(hx:x.y.length<=1048576):∀(n:Nat) (d:zo) (l:List Stop),l.length=n->RgOk x d l->RgOk x (Zq x n d l).1 []/\((Zq x n d l).2=true->(Zq x n d l).1.flatten.Perm (d.flatten++l))
 |0,d,l,hl,h=>by simp_all[Zq]
 |n+1,d,l,hl,h=>by
  have a:l≠[]:=λe=>by simp_all
  obtain⟨k,c,b⟩:=pL (x:=x) (d:=d) a;have f:l.getD k default=l[k]:=by rw[List.getD_eq_getElem?_getD,Ac b];rfl
  unfold Zq;rw[c,AJ,f];cases hi:(qf x d l[k]).2 with
  |false =>
  refine⟨⟨h.ok,h.ab,?_⟩,λe=>by cases e⟩;have:=h.len;grind
  |true =>
  simp only[cond_true];obtain⟨h1,h2⟩:=pZ hx n (qf x d l[k]).1 (l.eraseIdx k) (by rw[B8 b];omega) (h.step hx b hi);refine⟨h1,λe=>(h2 e).trans ?_⟩;have g:=gK hi;refine(g.append_right _).trans ?_;grind[List.eraseIdx_eq_take_drop_succ,List.drop_eq_getElem_cons,List.take_append_drop]
section
variable {x:Inst} {l:List Stop} (h:SOk x l)
include h
def SOk.apart:DayOk (jx l)/\(jx l).flatten=l/\(jx l).length<=1000:=by
 have hf:(jx l).flatten=l:=by
  unfold jx;clear h;induction l with
  |nil=>rfl
  |cons s l d=>simpa using d
 refine⟨⟨?_,λt b=>?_,λt b a c=>?_⟩,hf,?_⟩;rw[pY];have:=h.len;omega;obtain⟨s,_,rfl⟩:=Aj.1 b;simp;obtain⟨s,hs,rfl⟩:=Aj.1 b;simp at c;subst c;exact h.sm _ hs;rw[pY];exact h.len
def SOk.join:DayOk (uq x l)/\(uq x l).flatten.Perm l/\(uq x l).length<=1000/\∀t∈uq x l,t≠[]:=by
 obtain⟨g,i⟩:=JI.begin l [] [] _ JI.nil (by simpa using h.nd);have key:∀(ps:List Pr) (st:zo × Int),(∃g,JI l st.1 g)->st.2=((st.1.filter ne).length:Int)->(∀p∈ps,p.a∈l.map (·.c)/\p.b∈l.map (·.c))->∃g,JI l (ps.foldl (jR x) st).1 g:=by
  intro ps;induction ps with
  |nil=>simp_all
  |cons p ps m =>
  rintro st ⟨g,i⟩ hn d;obtain⟨h1,h2⟩:=d p EB;obtain⟨w,e2,r⟩:=PZ (x:=x) i hn h1 h2;rw[A6];exact m _ r e2 λq u=>d q (by simp[u])
 obtain⟨g',e⟩:=key (jK x (l.map (·.c))) (l.map λs=>[s],(l.length:Int)) ⟨g,by simpa using i⟩ (by simp[Sa,jx]) λp d=>by grind[cP,XE]
 have f:uq x l=((jK x (l.map (·.c))).foldl (jR x) (l.map λs=>[s],(l.length:Int))).1.filter ne:=rfl;obtain⟨n,w2,o⟩:=Sc (x:=x) e h.len;have j:∀T:zo,(T.filter ne).flatten=T.flatten:=by
  intro T;induction T with
  |nil=>rfl
  |cons t T m =>
  grind
 have d:(uq x l).flatten.Perm l:=by rw[f,j];exact e.perm
 rw[<-f]at n w2 o;refine⟨⟨by omega,λt k=>?_,λt k a v=>?_⟩,d,n,o⟩;have:=(QY k).length_le;omega;exact h.sm a (d.subset ((QY k).subset v))
def SOk.regret:RgOk x (j4 x l).1 []/\((j4 x l).2=true->(j4 x l).1.flatten.Perm l):=by have:=pZ h.y l.length [] l rfl (pM h.X h.len);simp_all[j4]
end
def ql(x:Inst)(b:Int)(imp:zo->zo)(ds:List zo):Prop:=∀d∈ds,(∃n,PP 264 [.agg (zB x),.agg [L d],I b] (.tup [.agg [L (imp d)],I n]))/\DayOk (imp d)/\(imp d).flatten.length<=1048576
def Sf(x:Inst)(l:List Stop)(b:Int)(a:zo->zo)(h:SOk x l)(hI:vM x l=0->ql x b a (JM x l)):
  PP 261 [.agg (zB x),L l,I b] (.tup [.agg [L (uS x (vM x l) (Qk x a l)).1],I (uS x (vM x l) (Qk x a l)).2]):=by
 have o:=LW x l h.y (by have:=h.len;omega);by_cases j:vM x l=0;case neg=>exact oH x (L l) b _ _ (XH l) h.y o (λe=>absurd e j) λe=>absurd e j
 have hI:=hI j;have p:=LV l (by have:=h.len;omega);have r:=NY x l h.aj h.y h.len h.sm h.nd;have i:=Pz x l h.y h.X h.len;obtain⟨⟨n1,i1⟩,t,u⟩:=hI (uq x l) (by simp[JM]);obtain⟨⟨v,i2⟩,w,y⟩:=hI (jx l) (by simp[JM]);obtain⟨z,a2,a3⟩:=h.apart;have h3:(j4 x l).2=true->(∃n,PP 264 [.agg (zB x),.agg [L (j4 x l).1],I b] (.tup [.agg [L (a (j4 x l).1)],I n]))/\DayOk (a (j4 x l).1)/\(a (j4 x l).1).flatten.length<=1048576:=λe=>hI _ (by simp[JM,e]);have q:=h.len;have hit:=Oe (fsL x (L l) b) [some (jx l),some (a (uq x l)),some (a (jx l)),bif (j4 x l).2 then some (a (j4 x l).1) else none] rfl EB (by
  intro k f hf
  match k with
  |0=>cases hf;exact⟨_,_,L (jx l),rfl,Oa (L l) (jx l) (XH l) p,λd g=>by cases g;rfl⟩
  |1=>cases hf;exact⟨_,_,L (a (uq x l)),rfl,Oc x (L l) b _ _ _ (XH l) r i1,λd g=>by cases g;rfl⟩
  |2=>cases hf;exact⟨_,_,L (a (jx l)),rfl,Od x (L l) b _ _ _ (XH l) p i2,λd g=>by cases g;rfl⟩
  |3 =>
   cases hf;cases c:(j4 x l).2 with
   |true =>
   obtain⟨⟨s,i3⟩,-⟩:=h3 c;rw[c]at i;exact⟨_,_,L (a (j4 x l).1),rfl,oG x (L l) b _ _ true s (XH l) i (λ_=>i3),λd g=>by cases g;rfl⟩
   |false =>
   rw[c]at i;exact⟨_,_,yB,rfl,oG x (L l) b _ [] false 0 (XH l) i (λe=>by cases e),λd g=>by cases g⟩
  |k+4=>cases hf)
 have m:([some (jx l),some (a (uq x l)),some (a (jx l)),bif (j4 x l).2 then some (a (j4 x l).1) else none]:List (Option zo)).filterMap id=Qk x a l:=by unfold Qk;cases (j4 x l).2<;>rfl
 rw[m]at hit;refine oH x (L l) b (vM x l) (Qk x a l) (XH l) h.y o (λ_=>hit) λ_ d g=>?_;grind
variable {e:TypeId}{parts:Array (Nat × Operand)}
def Sg{o:Oper}{t:TypeId}{K:PV->Store->Prop}(ho:o.op=.buildSlice t nx parts)(m:P.underlying t=some (.slice e))(h0:P.cellsOf e≠0)(l:nx<=1048576)
  (hl:Ys P e nx (parts.toList.map λx=>(x.1,ev F x.2))=some cs)
  (g:∀C:Ctx,S C.next=.dead->∃id v,Fresh C S id v/\K (.sl id v (P.cellsOf e) 0 nx) (S.set id (.cells v e cs))):PO P r n o F S K:=by
 intro G p C w a N st next Q' b;have d:parts.toList.map (λx=>(x.1,ev G x.2))=parts.toList.map (λx=>(x.1,ev F x.2)):=AQ λx hx=>by rw[p x.2 (by simp only[ho,Op.operands,List.mem_toArray,Aj];first|exact⟨x,hx,rfl⟩|(simp;exact⟨x.1,by simpa using hx⟩))]
 rw[<-d]at hl;obtain⟨vs,f,h,j⟩:=fg (w:=w) m (ev G) a.eval st.ev hl;obtain⟨id,ver,k,g⟩:=g C st.sim.free;obtain⟨k1,q⟩:=st.sim.object' k e vs cs (Cw h.1) (λi v _ hv=>h.2.1 i v hv) h.2.2;refine qx (x:=.value (.slice (some ⟨w.heap.size,0,none⟩) nx nx)) (w':=w.alloc (.cells vs e)) (by intro c hc;rw[ho]at hc;cases hc) ?_
  (b _ _ _ _ _ g (VM C S w _ _ _ _ _ _ _ _ rfl (Af _) (by unfold xx;omega) (by unfold maxLen;omega) j.symm) k1 q)
 unfold execOp;simp only[ho];have s:(parts.map λx=>(x.1,a.eval x.2))=(parts.toList.map λx=>(x.1,a.eval x.2)).toArray:=by apply BX.1;simp
 simp only[s,f,Sem.run_bind,Sem.run_pure,Aq]
def Sh{o:Oper}{t:TypeId}{K:PV->Store->Prop}(ho:o.op=.buildSlice t i parts)(b:P.underlying t=some (.slice e))(h0:P.cellsOf e≠0)(a:i<=1048576)
  (hl:Ys P e i (parts.toList.map λx=>(x.1,ev F x.2))=some cs) (c:∀v,K (.sl (nx+obs.length) v (P.cellsOf e) 0 i) (ext S nx (obs++[.cells v e cs]))):PO P r n o F (ext S nx obs) K :=
 Sg ho b h0 a hl (Y4 (X:=λid v=>K (.sl id v (P.cellsOf e) 0 i) ((ext S nx obs).set id (.cells v e cs))) _ Z5 λv=>by rw[jE];exact c v)
def Si{A:Prop}{R:Nat->KT->CT->HT->Prop}{id:Nat}{ops:Array Oper}{o:Oper}{os:List Oper}{t:TypeId}{len:Nat}
  (D:List (Nat × Nat)) (cs:List PV) (g:P.underlying t=some (.slice e)) (a:A) (h:∀v,R v (λF' S' b=>Q .normal F' (ext S' nx b)) (CQ P r n nx ops λF' S' b=>Q .normal F' (ext S' nx b)) (HQ P r n nx ops λF' S' b=>Q .normal F' (ext S' nx b)))
  (c:ops.toList=o::os:=by rfl) (i:o.guard=none:=by rfl) (ho:o.op=.buildSlice t len parts:=by rfl) (h0:P.cellsOf e≠0:=by simp) (d:len<=1048576:=by decide)
  (hl:Ys P e len (parts.toList.map λx=>(x.1,ev F x.2))=some cs:=by simp[Ys,Y2]) (j:ul N ops=true:=by rfl) (k:ZE ops D=true:=by rfl)
  (l:A->∀v,XQ P nx D os (yg F o.dst (.sl (nx+obs.length) v (P.cellsOf e) 0 len)) S (obs++[.cells v e cs]) (R v):=by intro a v K Gc Gh X f m h;simp -implicitDefEqProofs [f,m,a];exact h):PW P r n N (.region id ops false) Q F (ext S nx obs):=by
 refine cC j ?_;rw[c];unfold XS;have:gd ops F o=some true:=by unfold gd;rw[i]
 rw[this];exact Sh ho g h0 d hl λv=>⟨_,_,rfl,Xy (by rw[c];exact List.suffix_cons _ _) k (l a v) (h v)⟩
def yK(x:Inst)(t:zM):Nat->Int
 |0=>0
 |i+1=>yK x t i+arc x ((t.getD i default).c+1) ((t.getD (i+1) default).c+1)
def yL(x:Inst)(t:zM):Nat->Int
 |0=>0
 |i+1=>yL x t i+arc x ((t.getD (i+1) default).c+1) ((t.getD i default).c+1)
theorem WY(h:qG x)(t:zM):∀i:Nat,0<=yK x t i/\yK x t i<=2147483648*(i:Int)
 |0=>by simp[yK]
 |i+1=>by have h1:=WY h t i;have h2:=h ((t.getD i default).c+1) ((t.getD (i+1) default).c+1);unfold yK;omega
theorem WZ(h:qG x)(t:zM):∀i:Nat,0<=yL x t i/\yL x t i<=2147483648*(i:Int)
 |0=>by simp[yL]
 |i+1=>by have h1:=WZ h t i;have h2:=h ((t.getD (i+1) default).c+1) ((t.getD i default).c+1);unfold yL;omega
structure Sm where
 f:List Int
 b:List Int
 l:List Int
 n:Int
instance:Enc Sm:=⟨λs=>[L s.f,L s.b,L s.l,I s.n],4,λ_=>rfl,λ_=>rfl⟩
@[simp] theorem ZDW(s:Sm):Enc.enc s=[L s.f,L s.b,L s.l,I s.n]:=rfl
@[simp high] theorem re(l:List Sm):(l.flatMap Enc.enc).length=l.length*4:=xz l
@[simp high] theorem ZDX(l:List Sm):(l.flatMap Enc.enc).take (l.length*4)=l.flatMap Enc.enc:=Yw l
def wh(x:Inst)(t:zM):Sm:=⟨(List.range t.length).map (yK x t),(List.range t.length).map (yL x t),(List.range (t.length+1)).map λi=>yc (t.take i),yJ x (t.map (·.c))⟩
abbrev ZO(x:Inst)(d:zo):List PV:=[I x.days,I x.X,I x.Q,I x.len,L x.y,L x.O,L d,L (d.map (wh x))]
structure MvDay (d:zo):Prop where
 n:d.length<=1000
 t:∀t∈d,t.length<=1000
 s:∀t∈d,∀s∈t,qA s.c/\0<=s.q/\s.q<=2147483648
def Sj{s:Stop}(h:t.take (i+1)=t.take i++[s]):yc (t.take (i+1))=yc (t.take i)+s.q:=by rw[h,cM]
def ia(f:Nat->α)(k:Nat):(List.range (k+1)).map f=(List.range k).map f++[f k]:=by rw[AC,List.map_append];rfl
def Sk(id v:Nat)(cs:List PV)(l:List Sm):(l.flatMap Enc.enc).map (qz id v cs)=(l.flatMap Enc.enc:List PV):=by
 induction l with
 |nil=>rfl
 |cons s l a=>rw[Ax,List.map_append,a];rfl
def Sl(x:Inst)(d:zo)(hx:qG x)(o:MvDay d):PP 316 [.agg (zB x),.agg [L d]] (.ip (ZO x d)):=by
 have d7:=o.n;refine zt func316 ntmps316 results316 λS nx hd=>?_;refine EK ?_;intro v0 v1;refine EK ?_;intro l;refine qy 2 7 405 4 rfl rfl λv3=>?_;repeat apply za
 refine zb ?_;refine zj (zC (λs':Nat × Nat=>s'.1<=d.length) (λ(k,v3)=>[(2,.ptr nx v0 0),(5,.ptr (nx+2) l 0),(20,L d),(21,I d.length),(22,I k)]) (λ(k,v3)=>[.cells v0 25 (zB x),.cells v1 96 [L d],.cells l 403 [I x.days,I x.X,I x.Q,I x.len,L x.y,L x.O,L d,.sl (nx+3) v3 4 0 k],.cells v3 405 (((d.map (wh x)).take k).flatMap Enc.enc)]) (λs'=>d.length-s'.1) (0,v3) [] EB EB EB ?_);rintro⟨k,v3⟩ hk;simp only at hk ⊢;refine EK ?_;refine za (zv rfl (λhc=>?_) (λhc=>?_))
 .simp at hc;obtain⟨t,tl,a1,a2,a3,e0⟩:=zF rfl d k hc;have a8:1<=d.length-k:=EA;have y:=Aa a1;have d8:=o.t t y;have h:=o.s t y;have z:=VX x t EA (λs hs=>(h s hs).1);have a9:=WQ hx (t.map (·.c));rw[List.length_map]at a9;rw[show W (yJ x (t.map (·.c)))=yJ x (t.map (·.c)) from wr _ EA EA]at z;refine zh (aA (aF [] (zD e0 hc a8) ?_));intro v4;refine za (Si [] [I 0] underlying26 trivial ?_);intro v5;refine zq z ?_;intro w;refine EK ?_;refine qy 6 0 3 1 rfl rfl λe=>?_;refine qy 6 1 3 1 rfl rfl λf=>?_;repeat apply za
  refine zb ?_;generalize r:(((d.map (wh x)).take k).flatMap Enc.enc:List PV)=pc at *;generalize b7:yJ x (t.map (·.c))=wl at *;refine zj (zC (λs':Nat × Nat × Nat × Nat=>s'.1<=t.length) (λ(i,v5,e,f)=>[(2,.ptr nx v0 0),(5,.ptr (nx+2) l 0),(7,.ptr (nx+4) v4 0),(8,.ptr (nx+6) w 0),(9,I (yK x t (i-1))),(10,I (yL x t (i-1))),(20,L d),(21,I d.length),(22,I k),(32,L t),(33,I t.length),(34,I i)])
   (λ(i,v5,e,f)=>[.cells v0 25 (zB x),.cells v1 96 [L d],.cells l 403 [I x.days,I x.X,I x.Q,I x.len,L x.y,L x.O,L d,.sl (nx+3) v3 4 0 k],.cells v3 405 pc,.cells v4 99 [L t],.cells v5 3 (((List.range (i+1)).map λi=>yc (t.take i)).flatMap Enc.enc),
    .cells w 405 [.sl (nx+7) e 1 0 i,.sl (nx+8) f 1 0 i,.sl (nx+5) v5 1 0 (i+1),I wl],.cells e 3 (((List.range i).map (yK x t)).flatMap Enc.enc),.cells f 3 (((List.range i).map (yL x t)).flatMap Enc.enc)]) (λs'=>t.length-s'.1) (0,v5,e,f) [] EB (by simp[yK,yL]) (by simp[yc]) ?_)
  rintro⟨i,v5,e,f⟩ hi;simp only at hi ⊢;refine EK ?_;refine za (zv rfl (λb=>?_) (λb=>?_))
  .simp at b;obtain⟨s,ts,s1,s2,s3,-,s0⟩:=el 2 rfl t i b;have b8:2<=t.length*2-i*2:=EA;obtain⟨u,d9,e1⟩:=h s (Aa s1);have a0:t.getD i default=s:=by rw[List.getD_eq_getElem?_getD,s1];rfl
   have wi:=zu i EA;have f1:=ia (yK x t) i;have f2:=ia (yL x t) i;have f3:=ia (λi=>yc (t.take i)) (i+1);have a4:=Sj s3;have e2:=gH (t:=t.take i) (λa ha=>(h a (Bu ha)).2);have e3:(t.take i).length<=1000:=by rw[Az];omega
   have c6:IntKind.i64.wrap (yc (t.take i)+s.q)=yc (t.take (i+1)):=by rw[a4];exact wr _ EA EA
   have g1:(((List.range i).map (yK x t)).flatMap Enc.enc:List PV).length=i:=by rw[jY];simp
   have g2:(((List.range i).map (yL x t)).flatMap Enc.enc:List PV).length=i:=by rw[jY];simp
   have g3:(((List.range (i+1)).map λi=>yc (t.take i)).flatMap Enc.enc:List PV).length=i+1:=by rw[jY];simp
   obtain⟨lz,e4,z1,-,-,z0⟩:=zF rfl ((List.range (i+1)).map λi=>yc (t.take i)) i EB;have m:lz=yc (t.take i):=by simpa using z1.symm
   have c1:(((List.range (i+1)).map (yK x t)).flatMap Enc.enc:List PV)=((List.range i).map (yK x t)).flatMap Enc.enc++[I (yK x t i)]:=by rw[f1,Ar];rfl
   have c2:(((List.range (i+1)).map (yL x t)).flatMap Enc.enc:List PV)=((List.range i).map (yL x t)).flatMap Enc.enc++[I (yL x t i)]:=by rw[f2,Ar];rfl
   have c3:(((List.range (i+1+1)).map λi=>yc (t.take i)).flatMap Enc.enc:List PV)=((List.range (i+1)).map λi=>yc (t.take i)).flatMap Enc.enc++[I (yc (t.take (i+1)))]:=by rw[f3,Ar];rfl
   rw[m]at z0;clear f1 f2 f3 z1 m a4;generalize (((List.range i).map (yK x t)).flatMap Enc.enc:List PV)=fc at *;generalize (((List.range i).map (yL x t)).flatMap Enc.enc:List PV)=bc at *;generalize (((List.range (i+1)).map λi=>yc (t.take i)).flatMap Enc.enc:List PV)=lc at *;have t1:fc.take i=fc:=Ae EA;have t2:bc.take i=bc:=Ae EA;have t3:lc.take (i+1)=lc:=Ae EA;refine zh (aA (aF [] (zD s0 b b8) ?_));intro v9;apply za;refine qT (nx:=nx) (λ_:Unit=>True) (λ_=>[(2,.ptr nx v0 0),(5,.ptr (nx+2) l 0),(7,.ptr (nx+4) v4 0),(8,.ptr (nx+6) w 0),(9,I (yK x t i)),(10,I (yL x t i)),(11,I i),(12,.ptr (nx+9) v9 0),(20,L d),(21,I d.length),(22,I k),(32,L t),(33,I t.length),(34,I i)]) (λ_=>S)
    (λ_=>[.cells v0 25 (zB x),.cells v1 96 [L d],.cells l 403 [I x.days,I x.X,I x.Q,I x.len,L x.y,L x.O,L d,.sl (nx+3) v3 4 0 k],.cells v3 405 pc,.cells v4 99 [L t],.cells v5 3 lc,
    .cells w 405 [.sl (nx+7) e 1 0 i,.sl (nx+8) f 1 0 i,.sl (nx+5) v5 1 0 (i+1),I wl],.cells e 3 fc,.cells f 3 bc,.cells v9 101 [I s.c,I s.q]]) ?_ ?_
   .by_cases h0:0<i
    .obtain⟨j,rfl⟩:∃j,i=j+1:=⟨i-1,by omega⟩;obtain⟨p,tp,p1,-,-,-,p0⟩:=el 2 rfl t j EA;obtain⟨c7,-,-⟩:=h p (Aa p1);have a5:t.getD j default=p:=by rw[List.getD_eq_getElem?_getD,p1];rfl
     have c8:2<=t.length*2-j*2:=EA;have d0:j<t.length:=EA;have wj:IntKind.i64.wrap (j:Int)=(j:Int):=wr _ EA EA;have wp:=Yz c7;have ws:=Yz u;have d1:=un x (p.c+1) (s.c+1);have d2:=un x (s.c+1) (p.c+1);have g:yK x t (j+1)=yK x t j+arc x (p.c+1) (s.c+1):=by conv=>lhs;unfold yK;rw[a0,a5]
     have d3:yL x t (j+1)=yL x t j+arc x (s.c+1) (p.c+1):=by conv=>lhs;unfold yL;rw[a0,a5]
     have b1:=WY hx t (j+1);have b2:=WZ hx t (j+1);have wf:IntKind.i64.wrap (yK x t j+arc x (p.c+1) (s.c+1))=yK x t (j+1):=by rw[g]at b1 ⊢;exact wr _ EA EA
     have wb:IntKind.i64.wrap (yL x t j+arc x (s.c+1) (p.c+1))=yL x t (j+1):=by rw[d3]at b2 ⊢;exact wr _ EA EA
     simp only[B5];have d4:(0:Int)<((j+1:Nat):Int):=EA;refine aF [] (zn h0 d4) ?_;refine aD ?_;refine aG (some [nx+4,nx+9]) Rp mixed (zU wj p0 d0 c8 wp ws) ?_;refine EK ?_;refine yP [] d1 wf ?_;refine zb ?_;refine yP [] d2 wb ?_;exact yb () [] trivial EB rfl EB
    obtain rfl:i=0:=EA;refine EK ?_;exact zk rfl (zh (yb () [] trivial EB rfl EB))
   rintro⟨⟩ -;apply za;refine qT (nx:=nx) (λ_:Unit=>True) (λ_=>[(2,.ptr nx v0 0),(5,.ptr (nx+2) l 0),(7,.ptr (nx+4) v4 0),(8,.ptr (nx+6) w 0),(9,I (yK x t i)),(10,I (yL x t i)),(11,I i),(12,.ptr (nx+9) v9 0),(20,L d),(21,I d.length),(22,I k),(32,L t),(33,I t.length),(34,I i)]) (λ_=>S)
    (λ_=>[.cells v0 25 (zB x),.cells v1 96 [L d],.cells l 403 [I x.days,I x.X,I x.Q,I x.len,L x.y,L x.O,L d,.sl (nx+3) v3 4 0 k],.cells v3 405 pc,.cells v4 99 [L t],.cells v5 3 lc,
    .cells w 405 [.sl (nx+7) (e+1) 1 0 (i+1),.sl (nx+8) (f+1) 1 0 (i+1),.sl (nx+5) v5 1 0 (i+1),I wl],.cells (e+1) 3 (fc++[I (yK x t i)]),.cells (f+1) 3 (bc++[I (yL x t i)]),.cells v9 101 [I s.c,I s.q]]) ?_ ?_
   .repeat apply za
    refine zA (some []) (Row.pures [0,2,3,5,7,8] (.alt 1 (.alt 4 (.alt 6 Rm .stop) (.alt 6 (.alt 4 Rm .stop) .stop)) (.alt 6 (.alt 1 (.alt 4 Rm .stop) .stop) .stop))) mixed (zR g1 g2 t1 t2) ?_
    repeat' (first|refine And.intro EA ?_|apply And.intro)
    all_goals exact yb () [] trivial EB rfl EB
   rintro⟨⟩ -;have z1:(i:Int)<(i:Int)+1:=EA;have z2:i<i+1:=EA;have z3:1<=i+1-i:=EA;refine zA (some [nx+9]) (Row.pures [0,2,4,7,8] (.alt 1 (.alt 3 (Row.pures [5] (.alt 6 Rq .stop)) .stop) (.alt 3 (Row.pures [5] (.alt 1 (.alt 6 Rq .stop) (.alt 6 RB .stop))) .stop))) mixed (zU z0 z1 z2 z3 c6 (zn g3 t3)) ?_
   repeat' (first|refine And.intro EA ?_|apply And.intro)
   all_goals
    refine ze [] wi ?_;exact zr (i+1,v5+1,e+1,f+1) [_] b EF (by simp[wi]) rfl (by simp[c1,c2,c3];rfl)
  simp at b;obtain rfl:i=t.length:=EA;refine zx ?_;clear hi b;have u:wh x t=⟨(List.range t.length).map (yK x t),(List.range t.length).map (yL x t),(List.range (t.length+1)).map λi=>yc (t.take i),wl⟩:=by unfold wh;rw[b7]
  have g1:(((List.range t.length).map (yK x t)).flatMap Enc.enc:List PV).length=t.length:=by rw[jY];simp
  have g2:(((List.range t.length).map (yL x t)).flatMap Enc.enc:List PV).length=t.length:=by rw[jY];simp
  have g3:(((List.range (t.length+1)).map λi=>yc (t.take i)).flatMap Enc.enc:List PV).length=t.length+1:=by rw[jY];simp
  have g:∀id v cs,pc.map (qz id v cs)=pc:=λid v cs=>by rw[<-r];exact Sk id v cs _
  have d5:pc.length=k*4:=by rw[<-r,re];simp;omega
  have d6:pc.take (k*4)=pc:=Ae EA;have a6:(((d.map (wh x)).take (k+1)).flatMap Enc.enc:List PV)=pc++[L ((List.range t.length).map (yK x t)),L ((List.range t.length).map (yL x t)),L ((List.range (t.length+1)).map λi=>yc (t.take i)),I wl]:=by rw[<-r,<-List.map_take,a3,List.map_append,Ar,<-List.map_take,Ap,u];rfl
  have l1:((List.range t.length).map (yK x t)).length=t.length:=EB;have l2:((List.range t.length).map (yL x t)).length=t.length:=EB;have l3:((List.range (t.length+1)).map λi=>yc (t.take i)).length=t.length+1:=EB;generalize (List.range t.length).map (yK x t)=fl at *;generalize (List.range t.length).map (yL x t)=bl at *;generalize ((List.range (t.length+1)).map λi=>yc (t.take i))=ll at *;clear g1 g2 g3;refine zY 8 rfl ?_;simp only[Ap,A8,AO,AW,xy,g];refine zY 7 rfl ?_;simp only[Ap,A8,AO,AW,xy,g];refine zY 5 rfl ?_;simp only[Ap,A8,AO,AW,xy,g];refine zA (some [nx+6]) Rt mixed (yx l1 l2 l3 d5 d6) ?_;refine⟨by omega,?_⟩;refine zb ?_;exact zr (k+1,v3+1) [_,_,_,_,_] hc EF (by simp[zu k EA]) rfl (by simp[a6,l1,l2,l3];exact⟨rfl,rfl,rfl,rfl,rfl⟩)
 simp at hc;obtain rfl:k=d.length:=EA;rw[Ae EB];refine zx ?_;have a7:((d.map (wh x)).flatMap Enc.enc:List PV).length=d.length*4:=by rw[re];simp
 refine zY 3 rfl ?_;refine aF [] a7 ?_;refine w9 2 rfl ?_;exact zg (zi hd EC (by simp[zp,a7]))
def wJ(x:Inst):Int->List Int->Int
 |_,[]=>0
 |a,c::l=>arc x a (c+1)+wJ x (c+1) l
theorem ic(x:Inst):∀(l:List Int) (a:Int) (m:List Int),wJ x a (l++m)=wJ x a l+wJ x (qH a l) m
 |[],a,m=>by simp[wJ,qH]
 |c::l,a,m=>by simp only[List.cons_append,wJ,qH];rw[ic x l (c+1) m];omega
theorem ie:∀(l:List Int) (a:Int) (m:List Int),qH a (l++m)=qH (qH a l) m
 |[],a,m=>rfl
 |c::l,a,m=>by simp only[List.cons_append,qH];exact ie l (c+1) m
theorem rf(x:Inst):∀(l:List Int) (a:Int),jQ x a l=wJ x a l+arc x (qH a l) 0
 |[],a=>by simp[jQ,wJ,qH]
 |c::l,a=>by simp only[jQ,wJ,qH];rw[rf x l (c+1)];omega
def Zr(t:zM)(f n:Nat):zM:=(t.drop f).take n
variable {f:Nat}
def ao{s:Stop}(h:t[f+n]?=some s):Zr t f (n+1)=Zr t f n++[s]:=by grind[Zr,List.take_succ_eq_append_getElem]
def getD_some{s:Stop}(h:t[i]?=some s):t.getD i default=s:=EJ
theorem rg(x:Inst)(t:zM)(f:Nat)(a:Int):∀n,f+n<t.length->wJ x a ((Zr t f (n+1)).map (·.c))=arc x a ((t.getD f default).c+1)+(yK x t (f+n)-yK x t f)/\qH a ((Zr t f (n+1)).map (·.c))=(t.getD (f+n) default).c+1
 |0,h=>by have h0:t[f+0]?=some t[f]:=Ac EA;rw[ao h0];grind[Zr,wJ,qH]
 |n+1,h=>by obtain⟨i1,i2⟩:=rg x t f a n EA;have h0:t[f+(n+1)]?=some t[f+(n+1)]:=Ac EA;rw[ao h0,List.map_append,ic,ie,i1,i2,getD_some h0];grind[wJ,qH,yK]
theorem rh(x:Inst)(t:zM)(f:Nat):∀(n:Nat) (a:Int),f+n<t.length->wJ x a ((Zr t f (n+1)).reverse.map (·.c))=arc x a ((t.getD (f+n) default).c+1)+(yL x t (f+n)-yL x t f)/\qH a ((Zr t f (n+1)).reverse.map (·.c))=(t.getD f default).c+1
 |0,a,h=>by have h0:t[f+0]?=some t[f]:=Ac EA;rw[ao h0];grind[Zr,wJ,qH]
 |n+1,a,h=>by have h0:t[f+(n+1)]?=some t[f+(n+1)]:=Ac EA;obtain⟨i1,i2⟩:=rh x t f n ((t.getD (f+(n+1)) default).c+1) EA;rw[ao h0,Dz];simp only[CC,DX,AI,List.cons_append,Ap,wJ,qH];grind[yL]
theorem ri(t:zM)(f:Nat):∀n,f+n<=t.length->yc (Zr t f n)=yc (t.take (f+n))-yc (t.take f)
 |0,_=>by simp[Zr,yc]
 |n+1,h=>by have h0:t[f+n]?=some t[f+n]:=Ac EA;have e:t.take (f+n+1)=t.take (f+n)++[t[f+n]]:=AU EA;rw[ao h0,cM,ri t f n EA,<-Nat.add_assoc,e,cM];omega
def j6(x:Inst)(d:zo)(st:Int × Int)(p:Pc):Int × Int :=
 if p.f<p.o then
  (bif p.b then (((d.getD p.t []).getD p.f default).c+1,st.2+(arc x st.1 (((d.getD p.t []).getD (p.o-1) default).c+1)+yL x (d.getD p.t []) (p.o-1)-yL x (d.getD p.t []) p.f))
  else (((d.getD p.t []).getD (p.o-1) default).c+1,st.2+(arc x st.1 (((d.getD p.t []).getD p.f default).c+1)+yK x (d.getD p.t []) (p.o-1)-yK x (d.getD p.t []) p.f)))
 else st
def vQ(x:Inst)(d:zo)(r:Rw5):Int:=(r.l.foldl (j6 x d) (0,0)).2+arc x (r.l.foldl (j6 x d) (0,0)).1 0
def uv(d:zo)(st:Int)(p:Pc):Int:=if p.f<p.o then st+(yc ((d.getD p.t []).take p.o)-yc ((d.getD p.t []).take p.f)) else st
def JN(d:zo)(r:Rw5):Int:=r.l.foldl (uv d) 0
def Sn{d:zo}{p:Pc}(h:WV d p)(g:List Stop):j6 x d (qH 0 (g.map (·.c)),wJ x 0 (g.map (·.c))) p=(qH 0 ((g++q9 d p).map (·.c)),wJ x 0 ((g++q9 d p).map (·.c))):=by
 unfold j6 q9;by_cases a:p.f<p.o
 .obtain⟨i,ho⟩:=h a;unfold jo at ho;rw[if_pos a,if_pos a];generalize d.getD p.t []=t at *;obtain⟨n,hn⟩:∃n,p.o=p.f+n+1:=⟨p.o-p.f-1,by omega⟩;have e:p.o-1=p.f+n:=EA;have e2:p.o-p.f=n+1:=EA;rw[e,e2,List.map_append,ic,ie];cases p.b with
  |true =>
  simp only[cond_true];obtain⟨i1,i2⟩:=rh x t p.f n (qH 0 (g.map (·.c))) EA;unfold Zr at i1 i2;rw[i1,i2];congr 1;omega
  |false =>
  simp only[cond_false];obtain⟨i1,i2⟩:=rg x t p.f (qH 0 (g.map (·.c))) n EA;unfold Zr at i1 i2;rw[i1,i2];congr 1;omega
 grind
theorem rj{d:zo}:∀(l:List Pc) (g:List Stop),(∀p∈l,WV d p)->l.foldl (j6 x d) (qH 0 (g.map (·.c)),wJ x 0 (g.map (·.c)))=(qH 0 ((g++l.flatMap (q9 d)).map (·.c)),wJ x 0 ((g++l.flatMap (q9 d)).map (·.c)))
 |[],g,_=>by simp
 |p::l,g,h=>by rw[A6,Sn (h p EB),rj l _ λq a=>h q (by simp[a]),Ax,List.append_assoc]
def ig{d:zo}{r:Rw5}(h:ZN d r)(h0:arc x 0 0=0):vQ x d r=yJ x ((qI d r).map (·.c)):=by have:=rj (x:=x) r.l [] h;grind[qH,wJ,vQ,qI,yJ,rf]
def So{d:zo}{p:Pc}(h:WV d p)(g:List Stop):uv d (yc g) p=yc (g++q9 d p):=by
 unfold uv q9;by_cases a:p.f<p.o
 .obtain⟨e,ho⟩:=h a;unfold jo at ho;rw[if_pos a,if_pos a,Ow];generalize d.getD p.t []=t at *;have:=ri t p.f (p.o-p.f) EA;rw[show p.f+(p.o-p.f)=p.o by omega]at this;have c:∀l:zM,yc l.reverse=yc l:=λl=>by unfold yc;exact Ov ((List.reverse_perm l).map _)
  unfold Zr at this;cases p.b with
  |true=>simp only[cond_true];rw[c,this]
  |false=>simp only[cond_false];rw[this]
 grind
def Sp{d:zo}{r:Rw5}(h:ZN d r):JN d r=yc (qI d r):=by
 have key:∀(l:List Pc) (g:List Stop),(∀p∈l,WV d p)->l.foldl (uv d) (yc g)=yc (g++l.flatMap (q9 d)):=by
  intro l;induction l with
  |nil=>intro g _;simp
  |cons p l a =>
  intro g h;rw[A6,So (h p EB),a _ λq b=>h q (by simp[b]),Ax,List.append_assoc]
 have:=key r.l [] h;simp_all[JN,qI,yc]
abbrev W0(x:Inst)(d:zo)(sms:List Sm):List PV:=[I x.days,I x.X,I x.Q,I x.len,L x.y,L x.O,L d,L sms]
def W3(h:qG x)(a b:Int):0<=arc x a b/\arc x a b<=2147483648:=h a b
def dr{d:zo}{a:List Sm}(hs:a=d.map (wh x))(h:k<d.length):∃(t:zM) (c g:List PV),d[k]?=some t/\d.getD k []=t/\(d.flatMap Enc.enc:List PV).drop k=L t::c /\
  (a.flatMap Enc.enc:List PV).drop (k*4)=[L (wh x t).f,L (wh x t).b,L (wh x t).l,I (wh x t).n]++g:=by
 obtain⟨t,c,e,-,-,i⟩:=zF rfl d k h;rw[hs];obtain⟨s,ts,b1,-,-,-,j⟩:=el 4 rfl (d.map (wh x)) k (by simpa using h);have:s=wh x t:=by rw[Ai,e]at b1;exact(Option.some.inj b1).symm
 subst this;exact⟨t,c,ts,e,by rw[List.getD_eq_getElem?_getD,e];rfl,i,j⟩
def W4[Enc α](n:Nat)(hn:Enc.sz α=1)(f:Nat->α)(h:i<n):∃tl,(((List.range n).map f).flatMap Enc.enc:List PV).drop i=Enc.enc (f i)++tl:=by
 obtain⟨s,ts,b1,-,-,a⟩:=zF hn ((List.range n).map f) i (by simpa using h);have:s=f i:=by rw[Ai,A4 h]at b1;exact(Option.some.inj b1).symm
 subst this;exact⟨ts,a⟩
def ii(x:Inst)(d:zo)(r:Rw5)(hx:qG x)(z:MvDay d)(hr:ZN d r):PP 333 [.ip (ZO x d),.agg (yH r)] (I (vQ x d r)):=by
 obtain⟨j,m⟩:∃j,j=d.map (wh x):=⟨_,rfl⟩;have a6:j.length=d.length:=by rw[m];simp
 rw[show ZO x d=W0 x d j from by rw[m]];have e9:=z.n;have d7:=λk (h:k<5)=>di r h;have hz:vQ x d r=((r.l.take 5).foldl (j6 x d) (0,0)).2+arc x ((r.l.take 5).foldl (j6 x d) (0,0)).1 0:=by unfold vQ;rw[Ae (by simp[Rw5.l])]
 rw[hz];clear hz;have a7:(yH r).length=20:=rfl;have d8:(yH r).take 20=yH r:=rfl;generalize f1:yH r=rc at *;refine zt func333 ntmps333 results333 λS nx hd=>?_;refine EK ?_;intro v0;refine EK ?_;repeat apply za
 refine ze [] (zn a7 d8) ?_;refine zj (zC (λk:Nat=>k<=5/\-(8796093022208*(k:Int))<=((r.l.take k).foldl (j6 x d) (0,0)).2/\((r.l.take k).foldl (j6 x d) (0,0)).2<=8796093022208*k) (λk=>[(0,.ip (W0 x d j)),(3,.ptr nx v0 0),(5,I ((r.l.take k).foldl (j6 x d) (0,0)).1),(6,I ((r.l.take k).foldl (j6 x d) (0,0)).2),(13,.agg rc),(14,I k)]) (λ_=>[.cells v0 372 rc]) (λk=>5-k) 0 [] EB EB EB ?_);rintro k ⟨hk,a8,a9⟩;by_cases b7:k<5
 .obtain⟨p,d9,e1,e2⟩:=d7 k b7;have v:(k:Int)<5:=EA;have e3:4<=20-k*4:=EA;have e4:=hr p (Aa d9);have e:(r.l.take (k+1)).foldl (j6 x d) (0,0)=j6 x d ((r.l.take k).foldl (j6 x d) (0,0)) p:=by rw[e2,BJ];rfl
  generalize (r.l.take k).foldl (j6 x d) (0,0)=st at *;obtain⟨a,all⟩:=st;simp only at a8 a9 ⊢;have wk:=zu k EA;refine aF [] v ?_;refine za (zm rfl (zh (aA (aF [] (yx e1 b7 v a7 e3) ?_))));intro v3;by_cases a0:p.f<p.o;case neg =>
   have e5:j6 x d (a,all) p=(a,all):=by unfold j6;rw[if_neg a0]
   rw[e5]at e;have g:p.o<=p.f:=EA;repeat apply za
   refine ze [] g ?_;refine zm (by simp[g]) ?_;refine zx (zb ?_);exact zr (k+1) [_] ⟨by omega,by rw[e];simp only;omega,by rw[e];simp only;omega⟩ EA (by simp[wk,e]) rfl EC
  obtain⟨ht,ho⟩:=e4 a0;obtain⟨t,td,tf,a1,b8,e0,f0⟩:=dr m ht;unfold jo at ho;rw[b8]at ho;have c6:=Aa a1;have f2:=z.t t c6;have c7:=z.s t c6;have e6:1<=d.length-p.t:=EA;have c8:4<=d.length*4-p.t*4:=EA;obtain⟨n,hn⟩:∃n,p.o=n+1:=⟨p.o-1,by omega⟩;have g:¬p.o<=p.f:=EA;have d0:j6 x d (a,all) p=bif p.b then ((t.getD p.f default).c+1,all+(arc x a ((t.getD n default).c+1)+yL x t n-yL x t p.f)) else ((t.getD n default).c+1,all+(arc x a ((t.getD p.f default).c+1)+yK x t n-yK x t p.f)):=by unfold j6;rw[if_pos a0,b8,show p.o-1=n by omega]
  rw[d0]at e;clear d0;obtain⟨q,f3,s1,-,-,-,s0⟩:=el 2 rfl t p.f EA;obtain⟨sl,f4,l1,-,-,-,l0⟩:=el 2 rfl t n EA;have e7:t.getD p.f default=q:=getD_some s1;have e8:t.getD n default=sl:=getD_some l1;rw[e7,e8]at e;have q1:p.f<t.length:=EA;have q2:n<t.length:=EA;have q3:2<=t.length*2-p.f*2:=EA;have q4:2<=t.length*2-n*2:=EA;have wo:IntKind.i64.wrap ((p.o:Int)-1)=(n:Int):=by rw[wr _ EA EA];omega
  have a2:=Yz (c7 q (Aa s1)).1;have a3:=Yz (c7 sl (Aa l1)).1;have f5:=WY hx t p.f;have f6:=WY hx t n;have f7:=WZ hx t p.f;have f8:=WZ hx t n;have d1:((List.range t.length).map (yK x t)).length=t.length/\((List.range t.length).map (yL x t)).length=t.length:=EB;obtain⟨z1,d2⟩:=W4 t.length rfl (yK x t) q1;obtain⟨z2,d3⟩:=W4 t.length rfl (yK x t) q2;obtain⟨z3,d4⟩:=W4 t.length rfl (yL x t) q1;obtain⟨z4,d5⟩:=W4 t.length rfl (yL x t) q2;have q5:1<=t.length-p.f:=EA;have q6:1<=t.length-n:=EA;simp only[wh]at f0;generalize f9:(List.range t.length).map (yK x t)=fl at *;generalize g0:(List.range t.length).map (yL x t)=bl at *;generalize ((List.range (t.length+1)).map λi=>yc (t.take i))=ll at *;generalize yJ x (t.map (·.c))=wl at *;obtain⟨a4,a5⟩:=d1;have w:(fl.flatMap Enc.enc:List PV).length=t.length:=by rw[jY,a4]
  have y:(bl.flatMap Enc.enc:List PV).length=t.length:=by rw[jY,a5]
  repeat apply za
  refine ze [] g ?_;refine zk (by simp[g]) ?_;refine zh (aG (some [nx+1]) Rj mixed (zU e0 f0 ht e6 c8 a6) ?_);refine aG (some [nx+1]) RL mixed wo ?_;apply za;cases u:p.b with
  |false =>
  rw[u]at e;simp only[cond_false]at e;have d6:=W3 hx a (q.c+1);have ar:=un x a (q.c+1);have w1:IntKind.i64.wrap (arc x a (q.c+1)+yK x t n)=arc x a (q.c+1)+yK x t n:=wr _ EA EA;have w2:IntKind.i64.wrap (arc x a (q.c+1)+yK x t n-yK x t p.f)=arc x a (q.c+1)+yK x t n-yK x t p.f:=wr _ EA EA;have w3:IntKind.i64.wrap (all+(arc x a (q.c+1)+yK x t n-yK x t p.f))=all+(arc x a (q.c+1)+yK x t n-yK x t p.f):=wr _ EA EA;refine aF [] u ?_;refine zk rfl (zh (aG (some [nx+1]) Rz mixed (zU s0 q1 q3 a2 wo (zn (zU d2 d3 w a4 q2 q5) (zR q6 w1 w2 w3))) ?_));refine zJ (ar) (zU s0 q1 q3 a2 wo (zn (zU d2 d3 w a4 q2 q5) (zR q6 w1 w2 w3))) ?_;refine ze [] (zR l0 q2 q4 a3) ?_;refine zb ?_;exact zr (k+1) [_] ⟨by omega,by rw[e];simp only;omega,by rw[e];simp only;omega⟩ EA (by simp[wk,e]) rfl EC
  |true =>
  rw[u]at e;simp only[cond_true]at e;have d6:=W3 hx a (sl.c+1);have ar:=un x a (sl.c+1);have w1:IntKind.i64.wrap (arc x a (sl.c+1)+yL x t n)=arc x a (sl.c+1)+yL x t n:=wr _ EA EA;have w2:IntKind.i64.wrap (arc x a (sl.c+1)+yL x t n-yL x t p.f)=arc x a (sl.c+1)+yL x t n-yL x t p.f:=wr _ EA EA;have w3:IntKind.i64.wrap (all+(arc x a (sl.c+1)+yL x t n-yL x t p.f))=all+(arc x a (sl.c+1)+yL x t n-yL x t p.f):=wr _ EA EA;refine aF [] u ?_;refine zm rfl (zA (some [nx+1]) R8 mixed (zR f0 ht c8 a6) ?_);refine aG (some [nx+1]) Rz mixed (zU l0 q2 q4 a3 wo (zn (zU d4 d5 y a5 q1 q5) (zR q6 w1 w2 w3))) ?_;refine zJ (ar) (zU l0 q2 q4 a3 wo (zn (zU d4 d5 y a5 q1 q5) (zR q6 w1 w2 w3))) ?_;refine ze [] (zR s0 q1 q3 a2) ?_;refine zb ?_;exact zr (k+1) [_] ⟨by omega,by rw[e];simp only;omega,by rw[e];simp only;omega⟩ EA (by simp[wk,e]) rfl EC
 obtain rfl:k=5:=EA;generalize (r.l.take 5).foldl (j6 x d) (0,0)=st at *;obtain⟨a,all⟩:=st;simp only at a8 a9 ⊢;have d6:=W3 hx a 0;have ar:=un x a 0;have w1:IntKind.i64.wrap (all+arc x a 0)=all+arc x a 0:=wr _ EA EA;refine EK ?_;refine za (zk rfl (zx (EK ?_)));refine yP [] ar w1 ?_;exact zg (zi hd rfl rfl)
def Sq(x:Inst)(d:zo)(r:Rw5)(q:MvDay d)(hr:ZN d r):PP 334 [.ip (ZO x d),.agg (yH r)] (I (JN d r)):=by
 obtain⟨g,j⟩:∃g,g=d.map (wh x):=⟨_,rfl⟩;have a2:g.length=d.length:=by rw[j];simp
 rw[show ZO x d=W0 x d g from by rw[j]];have d1:=q.n;have a3:=λk (h:k<5)=>di r h;have hz:JN d r=(r.l.take 5).foldl (uv d) 0:=by unfold JN;rw[Ae (by simp[Rw5.l])]
 rw[hz];clear hz;have u:(yH r).length=20:=rfl;have a4:(yH r).take 20=yH r:=rfl;generalize d2:yH r=rc at *;refine zt func334 ntmps334 results334 λS nx hd=>?_;refine EK ?_;intro v0;refine EK ?_;repeat apply za
 refine ze [] (zn u a4) ?_;refine zj (zC (λk:Nat=>k<=5/\-(8796093022208*(k:Int))<=(r.l.take k).foldl (uv d) 0/\(r.l.take k).foldl (uv d) 0<=8796093022208*k) (λk=>[(0,.ip (W0 x d g)),(3,.ptr nx v0 0),(5,I ((r.l.take k).foldl (uv d) 0)),(8,.agg rc),(9,I k)]) (λ_=>[.cells v0 372 rc]) (λk=>5-k) 0 [] EB EB EB ?_);rintro k ⟨hk,d3,d4⟩;by_cases v:k<5
 .obtain⟨p,a5,a6,a7⟩:=a3 k v;have m:(k:Int)<5:=EA;have a8:4<=20-k*4:=EA;have a9:=hr p (Aa a5);have b:(r.l.take (k+1)).foldl (uv d) 0=uv d ((r.l.take k).foldl (uv d) 0) p:=by rw[a7,BJ];rfl
  generalize (r.l.take k).foldl (uv d) 0=all at *;have wk:=zu k EA;refine aF [] m ?_;refine za (zm rfl (zh (aA (aF [] (yx a6 v m u a8) ?_))));intro v3;by_cases e:p.f<p.o;case neg =>
   have b7:uv d all p=all:=by unfold uv;rw[if_neg e]
   rw[b7]at b;refine aF [] e ?_;refine zk (by simp[e]) ?_;refine zh (zb ?_);exact zr (k+1) [_] ⟨by omega,by rw[b];omega,by rw[b];omega⟩ EA (by simp[wk,b]) rfl EC
  obtain⟨ht,ho⟩:=a9 e;obtain⟨t,td,tf,a1,w,e0,f0⟩:=dr j ht;unfold jo at ho;rw[w]at ho;have y:=Aa a1;have d5:=q.t t y;have z:=q.s t y;have b8:4<=d.length*4-p.t*4:=EA;have c6:uv d all p=all+(yc (t.take p.o)-yc (t.take p.f)):=by unfold uv;rw[if_pos e,w]
  rw[c6]at b;have b1:=gH (t:=t.take p.o) (λa ha=>(z a (Bu ha)).2);have b2:=gH (t:=t.take p.f) (λa ha=>(z a (Bu ha)).2);have b3:(t.take p.o).length<=1000:=by rw[Az];omega
  have b4:(t.take p.f).length<=1000:=by rw[Az];omega
  have w1:IntKind.i64.wrap (yc (t.take p.o)-yc (t.take p.f))=yc (t.take p.o)-yc (t.take p.f):=wr _ EA EA;have w2:IntKind.i64.wrap (all+(yc (t.take p.o)-yc (t.take p.f)))=all+(yc (t.take p.o)-yc (t.take p.f)):=wr _ EA EA;obtain⟨z1,c7⟩:=W4 (t.length+1) rfl (λi=>yc (t.take i)) (show p.o<t.length+1 by omega);obtain⟨z2,c8⟩:=W4 (t.length+1) rfl (λi=>yc (t.take i)) (show p.f<t.length+1 by omega);have a0:((List.range (t.length+1)).map λi=>yc (t.take i)).length=t.length+1:=EB;simp only[wh]at f0;generalize (List.range t.length).map (yK x t)=fl at *;generalize (List.range t.length).map (yL x t)=bl at *;generalize ((List.range (t.length+1)).map λi=>yc (t.take i))=ll at *;generalize yJ x (t.map (·.c))=wl at *;generalize yc (t.take p.o)=lo at *;generalize yc (t.take p.f)=lf at *;have d0:(ll.flatMap Enc.enc:List PV).length=t.length+1:=by rw[jY,a0]
  have q1:p.o<t.length+1:=EA;have q2:p.f<t.length+1:=EA;have q3:1<=t.length+1-p.o:=EA;have q4:1<=t.length+1-p.f:=EA;have q5:(p.o:Int)<(t.length:Int)+1:=EA;have q6:(p.f:Int)<(t.length:Int)+1:=EA;refine aF [] e ?_;refine zm (by simp[e]) ?_;refine zA (some [nx+1]) (Row.pures [0,1,2,3,4,5,6,7,8,9,10,11,12,13,14,15,16,17,18,19,20,21,22,23,24,25,26,27,28,29] .done) mixed (zU f0 ht b8 a2 c7 (zn (zU c8 a0 d0 q1 q2 q3) (yx q4 q5 q6 w1 w2))) ?_;refine zb ?_;exact zr (k+1) [_] ⟨by omega,by rw[b];omega,by rw[b];omega⟩ EA (by simp[wk,b]) rfl EC
 obtain rfl:k=5:=EA;refine EK ?_;refine za (zk rfl (zx (EK ?_)));exact zg (zi hd rfl rfl)
def ap(x:Inst)(d:zo)(m:Mv)(r1 r2:Rw5):Int:=vQ x d r1-yJ x ((d.getD m.a []).map (·.c))+(if m.a=m.b then 0 else vQ x d r2-yJ x ((d.getD m.b []).map (·.c)))
def rm(hx:qG x){d:zo}(e:MvDay d){r:Rw5}(n:ZN d r):-52776558133248<=vQ x d r/\vQ x d r<=52776558133248:=by
 have key:∀k:Nat,k<=5->-(8796093022208*(k:Int))<=((r.l.take k).foldl (j6 x d) (0,0)).2/\((r.l.take k).foldl (j6 x d) (0,0)).2<=8796093022208*k:=by
  intro k;induction k with
  |zero=>intro _;simp
  |succ k q =>
  intro w;obtain⟨h1,h2⟩:=q EA;obtain⟨p,g,-,h⟩:=di r (show k<5 by omega);have j:=n p (Aa g);rw[h,BJ,A6,List.foldl_nil];generalize (r.l.take k).foldl (j6 x d) (0,0)=st at *;unfold j6;by_cases a:p.f<p.o
  .obtain⟨s,ho⟩:=j a;have m:d.getD p.t []∈d:=Aa (i:=p.t) (by rw[List.getD_eq_getElem?_getD,Ac s];rfl);have u:=e.t _ m;unfold jo at ho;generalize d.getD p.t []=t at *;have b1:=WY hx t p.f;have b2:=WY hx t (p.o-1);have b3:=WZ hx t p.f;have b4:=WZ hx t (p.o-1);rw[if_pos a];cases p.b with
   |true =>
   have:=W3 hx st.1 ((t.getD (p.o-1) default).c+1);simp only[cond_true];omega
   |false =>
   have:=W3 hx st.1 ((t.getD p.f default).c+1);simp only[cond_false];omega
  rw[if_neg a];omega
 have v:=key 5 EA;rw[Ae (by simp[Rw5.l])]at v;have:=W3 hx (r.l.foldl (j6 x d) (0,0)).1 0;unfold vQ;omega
def Sr(x:Inst)(d:zo)(m:Mv)(r1 r2:Rw5)(hx:qG x)(f:MvDay d)(k:ZN d r1)(l:ZN d r2)(y:m.a<d.length)(hb:m.b<d.length):PP 319 [.ip (ZO x d),.agg (Yc m),.agg (yH r1),.agg (yH r2)] (I (ap x d m r1 r2)):=by
 have l1:=ii x d r1 hx f k;have l2:=ii x d r2 hx f l;have b1:=rm hx f k;have b2:=rm hx f l;obtain⟨h,g⟩:∃h,h=d.map (wh x):=⟨_,rfl⟩;have i:h.length=d.length:=by rw[g];simp
 rw[show ZO x d=W0 x d h from by rw[g]]at l1 l2 ⊢;have a4:=f.n;obtain⟨ta,a5,a6,a1,z,-,fa⟩:=dr g y;obtain⟨w,a7,a8,c1,a0,-,fb⟩:=dr g hb;have wa:=WQ hx (ta.map (·.c));have wb:=WQ hx (w.map (·.c));rw[List.length_map]at wa wb;have a9:=f.t ta (Aa a1);have b7:=f.t w (Aa c1);have j:ap x d m r1 r2=vQ x d r1-yJ x (ta.map (·.c))+(if m.a=m.b then 0 else vQ x d r2-yJ x (w.map (·.c))):=by unfold ap;rw[z,a0]
 rw[j];clear j;simp only[wh]at fa fb;generalize vQ x d r1=k1 at *;generalize vQ x d r2=k2 at *;generalize yJ x (ta.map (·.c))=wl at *;generalize yJ x (w.map (·.c))=wm at *;have o:4<=d.length*4-m.a*4:=EA;have p:4<=d.length*4-m.b*4:=EA;have w1:IntKind.i64.wrap (k1-wl)=k1-wl:=wr _ EA EA;have w2:IntKind.i64.wrap (k2-wm)=k2-wm:=wr _ EA EA;have w3:IntKind.i64.wrap (k1-wl+(k2-wm))=k1-wl+(k2-wm):=wr _ EA EA;have q:(yH r1).length=20:=rfl;have r:(yH r1).take 20=yH r1:=rfl;have s:(yH r2).length=20:=rfl;have u:(yH r2).take 20=yH r2:=rfl;generalize a2:yH r1=rc1 at *;generalize a3:yH r2=rc2 at *;refine zt func319 ntmps319 results319 λS nx hd=>?_;refine EK ?_;intro v0 v1 v2;refine aG (some [nx,nx+1]) R8 mixed (zU q r fa y o (zn i w1)) ?_;refine zJ (l1) (zU q r fa y o (zn i w1)) ?_;by_cases v:m.a=m.b;have e:(m.a:Int)=m.b:=EA;rw[if_pos v];repeat apply za
 refine ze [] e ?_;refine zk (by simp[e]) ?_;refine zh (EK ?_);exact zg (zi hd rfl (by simp[zp]));have e:¬(m.a:Int)=m.b:=EA;rw[if_neg v];repeat apply za
 refine ze [] e ?_;refine zm (by simp[e]) ?_;refine zA (some [nx,nx+2]) R3 mixed (zU s u fb hb p (zD i w2 w3)) ?_;refine zJ (l2) (zU s u fb hb p (zD i w2 w3)) ?_;refine EK ?_;exact zg (zi hd rfl (by simp[zp]))
def rn(x:Inst)(d:zo)(r:Rw5)(hx:qG x)(e:MvDay d)(g:ZN d r):PP 320 [.ip (ZO x d),.agg (yH r)] (B (decide (JN d r<=x.Q/\vQ x d r<=x.len))):=by have h:=ii x d r hx e g;have l2:=Sq x d r e g;obtain⟨c,f⟩:∃c,c=d.map (wh x):=⟨_,rfl⟩;rw[show ZO x d=W0 x d c from by rw[f]]at h l2 ⊢;generalize vQ x d r=k1 at *;generalize JN d r=k2 at *;have a:(yH r).length=20:=rfl;have b:(yH r).take 20=yH r:=rfl;generalize i:yH r=rc at *;refine zt func320 ntmps320 results320 λS nx j=>?_;refine EK ?_;intro v0;by_cases h1:k2<=x.Q;refine aG (some [nx]) Rj mixed (zD a b h1) ?_;refine zJ (l2) (zD a b h1) ?_;refine zJ (h) (zD a b h1) ?_;exact zg (zi j rfl (by simp[zp,h1]));refine aG (some [nx]) Rj mixed (zR a b h1 zE) ?_;refine zJ (l2) (zR a b h1 zE) ?_;exact zg (zi j rfl (by simp[zp,h1]))
def du{W:Nat->List α}{x:α}(a:k<n)(h:(W k)[i]?=some x):((List.range n).flatMap W)[((List.range k).flatMap W).length+i]?=some x:=by obtain⟨m,rfl⟩:∃m,n=k+(m+1):=⟨n-k-1,by omega⟩;have hi:=(Ad.1 h).1;rw[DG,Ar,Am (Dp _ _),AM,Da];simp only[Ap,Ax,BK];rw[As hi];exact h
def dv(W:Nat->List α)(k:Nat):((List.range (k+1)).flatMap W).length=((List.range k).flatMap W).length+(W k).length:=by rw[AC,Ar,Ak];simp
def Q6(d:zo)(k a b i j:Nat):Option Mv:=if vg d ⟨k,a,b,i,j⟩=true then some ⟨k,a,b,i,j⟩ else none
def YH(d:zo)(k a b i:Nat):List Mv:=(List.range (jo d b+1)).filterMap (Q6 d k a b i)
def Ql(d:zo)(k a b:Nat):List Mv:=(List.range (jo d a+1)).flatMap (YH d k a b)
def JO(d:zo)(k a:Nat):List Mv:=(List.range d.length).flatMap (Ql d k a)
def Qm(d:zo)(k:Nat):List Mv:=(List.range d.length).flatMap (JO d k)
def Q7(d:zo):List Mv:=(List.range 4).flatMap (Qm d)
abbrev XM(m:Mv):List PV:=[.agg (Yc m)]
def Ss(d:zo)(k a b:Nat)(x:d.length<=1048576)(l:∀t∈d,t.length<=1000)(hk:k<=3)(z:a<d.length)(hb:b<d.length):
  cV prog 332 (λy=>[.agg [L d],.agg [I k,I a,I b,I 0,I 0],xN y]) ((Ql d k a b).map XM) (B true):=by
 refine oM func332 EG rfl ntmps332 (congrArg Array.toList results332) EB λy V keep nx J a2 hY A0 a3=>?_;obtain⟨ta,xa,a1,-,-,a0⟩:=zF rfl d a z;obtain⟨g,xb,b1,-,-,b0⟩:=zF rfl d b hb;have a4:1<=d.length-a:=EA;have a5:1<=d.length-b:=EA;have la:jo d a=ta.length:=by unfold jo;rw[List.getD_eq_getElem?_getD,a1];rfl
 have lb:jo d b=g.length:=by unfold jo;rw[List.getD_eq_getElem?_getD,b1];rfl
 have a8:=l ta (Aa a1);have a9:=l g (Aa b1);have r:∀t∈d,t.length<=1048576:=λt ht=>AF (l t ht) EH;have m:=λi j (hi:i<=1048576) (hj:j<=1048576)=>gV d ⟨k,a,b,i,j⟩ x r hk z hb hi hj;have s:Ql d k a b=(List.range (ta.length+1)).flatMap (YH d k a b):=by unfold Ql;rw[la]
 have h:∀i,YH d k a b i=(List.range (g.length+1)).filterMap (Q6 d k a b i):=λi=>by unfold YH;rw[lb]
 rw[s]at hY ⊢;clear s la lb;refine EK ?_;intro v0 v1;repeat apply za
 refine zb ?_;refine zj (xk (σ:=Nat × Int × Store) (λs'=>s'.1<=ta.length+1/\J ((List.range s'.1).flatMap (YH d k a b)).length s'.2.2) (λs'=>[(2,xN y),(3,.ptr nx v0 0),(4,.ptr (nx+1) v1 0)]) (λs'=>s'.2.2)
  (λ(i,jv,_)=>[.cells v0 96 [L d],.cells v1 340 [I k,I a,I b,I i,I jv]]) (λs'=>ta.length+1-s'.1) (yb (0,0,A0) [] (by simpa using a3) EB rfl EB) ?_)
 rintro⟨i,jv,A⟩ ⟨hi,c⟩;simp only at hi c ⊢;repeat apply za
 refine zA (some [nx,nx+1]) Rh mixed (zD a0 z a4) ?_;refine zv rfl (λhc=>?_) (λhc=>?_);simp at hc;have a6:=dv (YH d k a b) i;refine zh (aA (EK ?_));refine zj (xk (σ:=Nat × Store) (λs'=>s'.1<=g.length+1/\J (((List.range i).flatMap (YH d k a b)).length+((List.range s'.1).filterMap (Q6 d k a b i)).length) s'.2) (λs'=>[(2,xN y),(3,.ptr nx v0 0),(4,.ptr (nx+1) v1 0)]) (λs'=>s'.2)
  (λ(j,_)=>[.cells v0 96 [L d],.cells v1 340 [I k,I a,I b,I i,I j]]) (λs'=>g.length+1-s'.1) (yb (0,A) [] (by simpa using c) EB rfl EB) ?_)
 clear c A jv;rintro⟨j,A⟩ ⟨hj,c⟩;simp only at hj c ⊢;repeat apply za
 refine zA (some [nx,nx+1]) Rh mixed (zD b0 hb a5) ?_;refine zv rfl (λo=>?_) (λo=>?_)
 .simp at o;have e:=m i j EA EA;have wj:=zu j EA;refine zh (aA ?_);cases hm:vg d ⟨k,a,b,i,j⟩ with
  |true =>
  have f:Q6 d k a b i j=some ⟨k,a,b,i,j⟩:=by unfold Q6;rw[if_pos hm]
  have p:Qj d ⟨k,a,b,i,j⟩=((yA d ⟨k,a,b,i,j⟩).1,(yA d ⟨k,a,b,i,j⟩).2,true):=by unfold Qj;rw[if_pos hm]
  rw[p]at e;have u:=oO (n:=g.length+1) EA f;rw[<-h]at u;have v:=du (W:=YH d k a b) (n:=ta.length+1) EA u;have hy:(((List.range (ta.length+1)).flatMap (YH d k a b)).map XM)[((List.range i).flatMap (YH d k a b)).length+((List.range j).filterMap (Q6 d k a b i)).length]?=some (XM ⟨k,a,b,i,j⟩):=by rw[Ai,v];rfl
  have q:=oQ f;generalize (yA d ⟨k,a,b,i,j⟩).1=r1 at *;generalize (yA d ⟨k,a,b,i,j⟩).2=r2 at *;refine EK ?_;refine zq e ?_;intro v2 v3;refine aF [(1,50)] trivial ?_;refine λw=>WF rfl rfl rfl (hY _ _ _ _ hy c) ?_;rintro _ ⟨A',a7,rfl⟩;refine⟨_,_,rfl,xA [(1,50)] trivial w ?_⟩;refine zk rfl (zh (zb ?_));exact zr (j+1,A') [_,_] ⟨by simp;omega,by rw[q];exact a7⟩ EF EB rfl (by simp[wj];exact⟨rfl,rfl⟩)
  |false =>
  have f:Q6 d k a b i j=none:=by unfold Q6;rw[if_neg (by simp[hm])]
  have p:Qj d ⟨k,a,b,i,j⟩=(wH,wH,false):=by unfold Qj;rw[if_neg (by simp[hm])]
  rw[p]at e;have q:=oP f;generalize wH=r0 at *;refine EK ?_;refine zq e ?_;intro v2 v3;refine aF [(1,50)] zE ?_;refine zk rfl (zh (zb ?_));exact zr (j+1,A) [_,_] ⟨by simp;omega,by rw[q];exact c⟩ EF EB rfl (by simp[wj];exact⟨rfl,rfl⟩)
 simp at o;obtain rfl:j=g.length+1:=EA;rw[<-h,<-a6]at c;refine zx ?_;have wi:=zu i EA;refine zb ?_;exact zr (i+1,((g.length+1:Nat):Int),A) [] ⟨by simp;omega,c⟩ EF EB rfl (by simp[wi]);simp at hc;obtain rfl:i=ta.length+1:=EA;refine zx (EK ?_);exact zg (cW (a2 _ _ c) EC (by simp[zp]) (by simpa using c))
def Su(d:zo):PP 317 [.agg [L d]] (.fn (.func 330) [] [.ip [L d]]):=by refine zt func317 ntmps317 results317 λS nx a=>?_;refine EK ?_;intro v0;refine EK ?_;refine w9 0 rfl ?_;exact EL a
def Sv(d:zo)(a3:d.length<=1000)(r:∀t∈d,t.length<=1000):JA prog 330 [.ip [L d]] ((Q7 d).map XM):=by
 have s:=λk a b (u:k<=3) (v:a<d.length) (hb:b<d.length)=>Ss d k a b EA r u v hb;have c:=pQ;generalize df=kl at c;refine VR func330 EG rfl ntmps330 (congrArg Array.toList results330) EB λl V keep nx J w hY A0 y=>?_;refine EK ?_;refine zq c ?_;refine zj (xk (σ:=Nat × Store) (λs'=>s'.1<=4/\J ((List.range s'.1).flatMap (Qm d)).length s'.2) (λs'=>[(0,xN l),(1,.ip [L d]),(7,I s'.1)]) (λs'=>s'.2) (λ_=>[]) (λs'=>4-s'.1) (yb (0,A0) [] (by simpa using y) EB rfl EB) ?_);rintro⟨k,A⟩ ⟨u,e⟩;simp only at u e ⊢;by_cases j:k<4;have o:(k:Int)<4:=EA;have z:=dv (Qm d) k;refine aF [] o ?_;refine za (zm rfl (zh (aA (EK ?_))));refine EK ?_;refine zj (xk (σ:=Nat × Store) (λs'=>s'.1<=d.length/\J (((List.range k).flatMap (Qm d)).length+((List.range s'.1).flatMap (JO d k)).length) s'.2) (λs'=>[(0,xN l),(1,.ip [L d]),(3,I k),(7,I k),(12,I d.length),(13,I s'.1)]) (λs'=>s'.2) (λ_=>[]) (λs'=>d.length-s'.1) (yb (0,A) [] (by simpa using e) EB rfl EB) ?_);clear e A;rintro⟨a,A⟩ ⟨v,e⟩;simp only at v e ⊢;refine EK ?_;refine za (zv rfl (λf=>?_) (λf=>?_));simp at f;have a0:=dv (JO d k) a;refine zh (aA (EK ?_));refine EK ?_;refine zj (xk (σ:=Nat × Store) (λs'=>s'.1<=d.length/\J (((List.range k).flatMap (Qm d)).length+((List.range a).flatMap (JO d k)).length+((List.range s'.1).flatMap (Ql d k a)).length) s'.2) (λs'=>[(0,xN l),(1,.ip [L d]),(3,I k),(4,I a),(7,I k),(12,I d.length),(13,I a),(18,I d.length),(19,I s'.1)]) (λs'=>s'.2) (λ_=>[]) (λs'=>d.length-s'.1) (yb (0,A) [] (by simpa using e) EB rfl EB) ?_);clear e A;rintro⟨b,A⟩ ⟨hb,e⟩;simp only at hb e ⊢;refine EK ?_;refine za (zv rfl (λg=>?_) (λg=>?_));simp at g;have hw:=s k a b EA f g;have a1:=dv (Ql d k a) b;have a2:∀(i:Nat) (x:List PV),((Ql d k a b).map XM)[i]?=some x->((Q7 d).map XM)[((List.range k).flatMap (Qm d)).length+((List.range a).flatMap (JO d k)).length+((List.range b).flatMap (Ql d k a)).length+i]?=some x:=by intro i x hx;rw[Ai]at hx ⊢;obtain⟨m,hm,rfl⟩:=An.1 hx;have e1:=du (W:=Ql d k a) (n:=d.length) g hm;have e2:=du (W:=JO d k) (n:=d.length) f e1;have e3:=du (W:=Qm d) (n:=4) j e2;rw[Nat.add_assoc,Nat.add_assoc];unfold Q7;rw[e3];rfl
 refine zh (aA (EK ?_));refine EK ?_;refine λp=>((oN hw keep hY _ a2 e _).mono ?_);rintro _ _ ⟨A',rfl,q,rfl⟩;rw[List.length_map,Nat.add_assoc,<-a1]at q;refine⟨_,_,rfl,zO p ?_⟩;refine zk rfl (zh (zb ?_));exact zr (b+1,A') [] ⟨g,q⟩ EF (by simp[zu b EA]) rfl EB;simp at g;obtain rfl:b=d.length:=EA;refine zx ?_;have h:J (((List.range k).flatMap (Qm d)).length+((List.range (a+1)).flatMap (JO d k)).length) A:=by rw[a0,<-Nat.add_assoc];exact e
 refine zb ?_;exact zr (a+1,A) [] ⟨f,h⟩ EF (by simp[zu a EA]) rfl EB;simp at f;obtain rfl:a=d.length:=EA;refine zx ?_;have h:J ((List.range (k+1)).flatMap (Qm d)).length A:=by rw[z];exact e
 refine zb ?_;exact zr (k+1,A) [] ⟨j,h⟩ EF (by simp[zu k EA]) rfl EB;obtain rfl:k=4:=EA;refine EK ?_;refine za (zk rfl (zx (Z6 (w _ _ e) rfl ?_)));rw[List.length_map];exact e
def XN{d:zo}{m:Mv}(h:vg d m=true):m.k<=3/\m.a<d.length/\m.b<d.length/\ZN d (yA d m).1/\ZN d (yA d m).2:=by unfold vg at h;rw[Aw]at h;obtain⟨h1,h2⟩:=h;have h1:=of_decide_eq_true h1;refine⟨h1.1,h1.2.1,h1.2.2,?_⟩;unfold uU at h2;unfold yA wI;have n:=PM d;have key:∀p:Pc,WV d p<->(p.f<p.o->p.t<d.length/\p.o<=jo d p.t):=λ_=>Iff.rfl;by_cases k0:m.k=0;rw[if_pos k0]at h2 ⊢;have h2:=of_decide_eq_true h2;refine⟨?_,n⟩;intro p e;simp only[Rw5.l,Al,Be,or_false]at e;obtain rfl|rfl|rfl|rfl|rfl:=e<;>refine(key _).2 ?_<;>simp only[qb]<;>omega;rw[if_neg k0]at h2 ⊢;by_cases k1:m.k=1;rw[if_pos k1]at h2 ⊢;have h2:=of_decide_eq_true h2;by_cases c:m.a=m.b;rw[if_pos c,c]at h2;rw[if_neg (by simp[c])];by_cases g:m.i<m.j;rw[if_pos g];refine⟨?_,n⟩;intro p e;simp only[Rw5.l,Al,Be,or_false]at e;obtain rfl|rfl|rfl|rfl|rfl:=e<;>refine(key _).2 ?_<;>simp only[qb]<;>(try rw[c])<;>omega;rw[if_neg g];refine⟨?_,n⟩;intro p e;simp only[Rw5.l,Al,Be,or_false]at e;obtain rfl|rfl|rfl|rfl|rfl:=e<;>refine(key _).2 ?_<;>simp only[qb]<;>(try rw[c])<;>omega;rw[if_neg c]at h2;rw[if_pos c];constructor<;>intro p e<;>simp only[Rw5.l,Al,Be,or_false]at e<;>obtain rfl|rfl|rfl|rfl|rfl:=e<;>refine(key _).2 ?_<;>simp only[qb]<;>omega;rw[if_neg k1]at h2 ⊢;by_cases q:m.k=2;rw[if_pos q]at h2 ⊢;have h2:=of_decide_eq_true h2;by_cases c:m.a=m.b;rw[if_pos c];rw[c]at h2;refine⟨?_,n⟩;intro p e;simp only[Rw5.l,Al,Be,or_false]at e;obtain rfl|rfl|rfl|rfl|rfl:=e<;>refine(key _).2 ?_<;>simp only[qb,c]<;>omega;rw[if_neg c];constructor<;>intro p e<;>simp only[Rw5.l,Al,Be,or_false]at e<;>obtain rfl|rfl|rfl|rfl|rfl:=e<;>refine(key _).2 ?_<;>simp only[qb]<;>omega;rw[if_neg q]at h2 ⊢;have h2:=of_decide_eq_true h2;constructor<;>intro p e<;>simp only[Rw5.l,Al,Be,or_false]at e<;>obtain rfl|rfl|rfl|rfl|rfl:=e<;>refine(key _).2 ?_<;>simp only[qb]<;>omega
def ij{d:zo}{m:Mv}:m∈Q7 d->vg d m=true/\m.i<=jo d m.a/\m.j<=jo d m.b:=by unfold Q7 Qm JO Ql YH Q6;intro h;simp only[By,AN,Cv]at h;obtain⟨k,c,a,e,b,hb,i,hi,j,f,h⟩:=h;split at h;rename_i hm;cases h;exact⟨hm,by simp only;omega,by simp only;omega⟩;cases h
def W5:Mv:=⟨0,0,0,0,0⟩
def ux(x:Inst)(d:zo)(r:Rw5):Prop:=JN d r<=x.Q/\vQ x d r<=x.len
instance (x:Inst) (d:zo) (r:Rw5):Decidable (ux x d r):=by unfold ux;infer_instance
def JP(x:Inst)(d:zo)(m:Mv):Int:=ap x d m (yA d m).1 (yA d m).2
def JQ(x:Inst)(d:zo)(st:Mv × Int)(m:Mv):Mv × Int:=if JP x d m<st.2/\ux x d (yA d m).1/\ux x d (yA d m).2 then (m,JP x d m) else st
def uV(x:Inst)(d:zo):Mv × Int:=(Q7 d).foldl (JQ x d) (W5,0)
def Sw(x:Inst)(d:zo)(hx:qG x)(h:MvDay d):PP 293 [.agg (zB x),.agg [L d]] (.tup [.agg (Yc (uV x d).1),I (uV x d).2,B (decide ((uV x d).2<0))]):=by
 have u:=h.n;have hit:=Sv d u h.t;have r:=Sl x d hx h;have o:∀m∈Q7 d,PP 318 [.agg [L d],.agg (Yc m)] (.tup [.agg (yH (yA d m).1),.agg (yH (yA d m).2),B true])/\PP 319 [.ip (ZO x d),.agg (Yc m),.agg (yH (yA d m).1),.agg (yH (yA d m).2)] (I (JP x d m)) /\
   PP 320 [.ip (ZO x d),.agg (yH (yA d m).1)] (B (decide (ux x d (yA d m).1)))/\PP 320 [.ip (ZO x d),.agg (yH (yA d m).2)] (B (decide (ux x d (yA d m).2))):=by
  intro m hm;obtain⟨h1,h2,h3⟩:=ij hm;obtain⟨hk,w,hb,r1,r2⟩:=XN h1;have hl:∀a,jo d a<=1000:=by
   intro a;unfold jo;rw[List.getD_eq_getElem?_getD];cases hq:d[a]? with
   |none=>simp
   |some l=>exact h.t l (Aa hq)
  have a0:=hl m.a;have a1:=hl m.b;have s:=gV d m EA (λt ht=>AF (h.t t ht) EH) hk w hb EA EA;unfold Qj at s;rw[if_pos h1]at s;exact⟨s,Sr x d m _ _ hx h r1 r2 w hb,rn x d _ hx h r1,rn x d _ hx h r2⟩
 unfold uV;generalize Q7 d=xs at *;generalize ZO x d=rd at *;have v:=Su d;refine zt func293 ntmps293 results293 λS nx hd=>?_;refine EK ?_;intro v0 v1 z;refine EK ?_;refine zq r ?_;intro v3;refine EK ?_;intro v4 v5;repeat apply za
 refine zb ?_;refine zq v ?_;refine zj (Xw (xs:=xs.map XM) (σ:=Mv × Int) (λi st=>st=(xs.take i).foldl (JQ x d) (W5,0)) [(2,.ptr nx v0 0),(3,.ptr (nx+1) v1 0),(4,.ptr (nx+2) z 0),(7,.ptr (nx+3) v3 0),(8,.ptr (nx+4) v4 0),(9,.ptr (nx+5) v5 0)] (λ_=>S)
  (λ(b,g)=>[.cells v0 25 (zB x),.cells v1 96 [L d],.cells z 340 [I 0,I 0,I 0,I 0,I 0],.cells v3 364 [.ip rd],.cells v4 340 (Yc b),.cells v5 3 [I g]]) (W5,0)
  hit rfl (by intro x hx;obtain⟨y,_,rfl⟩:=Aj.1 hx;rfl) EH EB EB rfl (by simp[W5]) (by simp[W5]) ?_ ?_)
 rintro l i ⟨b,g⟩ more y j hy;simp only at j ⊢;rw[Ai]at hy;obtain⟨m,hm,rfl⟩:=An.1 hy;have c:=gQ (f:=JQ x d) (b:=(W5,0)) hm;rw[<-j]at c;obtain⟨f1,f2,f3,f4⟩:=o m (Aa hm);unfold JQ at c;simp only at c;generalize (yA d m).1=r1 at *;generalize (yA d m).2=r2 at *;generalize JP x d m=by_ at *;refine zb ?_;intro v6;refine zj (EK ?_);refine zq f1 ?_;intro v7 v8;refine EK ?_;refine zq f2 ?_;by_cases k:by_<g;refine aF [(3,37),(8,42)] k ?_;refine yP [(3,37),(8,42)] f3 k ?_;by_cases p:ux x d r1;rw[decide_eq_true p];refine yP [(3,37),(8,42)] f4 k ?_;by_cases q:ux x d r2;rw[if_pos ⟨k,p,q⟩]at c;refine zm (by simp[q]) ?_;refine zb ?_;simp only[xh];exact vK (m,by_) [_,_,_] c.symm rfl (by simp;exact⟨rfl,rfl,rfl⟩);rw[if_neg λe=>q e.2.2]at c;refine zk (by simp[q]) ?_;refine zh ?_;simp only[xh];exact vK (b,g) [_,_,_] c.symm rfl (by simp;exact⟨rfl,rfl,rfl⟩);rw[decide_eq_false p];rw[if_neg λe=>p e.2.1]at c;refine zk rfl (zh ?_);simp only[xh];exact vK (b,g) [_,_,_] c.symm rfl (by simp;exact⟨rfl,rfl,rfl⟩);rw[if_neg λe=>k e.1]at c;refine aF [(3,37),(8,42)] (zn k zE) ?_;refine zk rfl (zh ?_);simp only[xh];exact vK (b,g) [_,_,_] c.symm rfl (by simp;exact⟨rfl,rfl,rfl⟩);rintro⟨b,g⟩ j;rw[Ae EB]at j;simp only at j ⊢;rw[<-j];refine aG (some [nx+4,nx+5]) (Row.pures [0,1,2,3] (.alt 4 U4 .stop)) mixed trivial ?_;exact zg (zi hd EC (by simp[zp]))
def vk(d:zo)(m:Mv)(i:Nat):zM:=if i=m.a then qI d (yA d m).1 else if i=m.b then qI d (yA d m).2 else d.getD i []
def xP(d:zo)(m:Mv)(i:Nat):Option zM:=if (vk d m i).length=0 then none else some (vk d m i)
def uW(d:zo)(m:Mv):zo:=(List.range d.length).filterMap (xP d m)
def ro{d:zo}{r:Rw5}(h:∀t∈d,t.length<=k):(qI d r).length<=5*k:=by have h1:=λp=>pS (d:=d) (p:=p) h;have f:=h1 r.a;have g:=h1 r.b;have a3:=h1 r.c;have a4:=h1 r.d;have a5:=h1 r.e;unfold qI Rw5.l;simp only[Ax,Cu,Ak,AA];omega
def Sx(x:Inst)(d:zo)(m:Mv)(a7:d.length<=1000)(g:∀t∈d,t.length<=1000)(hm:vg d m=true)(hi:m.i<=1048576)(hj:m.j<=1048576):PP 294 [.agg (zB x),.agg [L d],.agg (Yc m)] (.tup [.agg [L (uW d m)],I 0]):=by
 obtain⟨hk,ha,hb,r1,r2⟩:=XN hm;have n:=gV d m EA (λt ht=>AF (g t ht) EH) hk ha hb hi hj;unfold Qj at n;rw[if_pos hm]at n;have g1:=pT d _ EA g r1;have g2:=pT d _ EA g r2;have n1:=ro (r:=(yA d m).1) g;have n2:=ro (r:=(yA d m).2) g;have u:∀i,vk d m i=if i=m.a then qI d (yA d m).1 else if i=m.b then qI d (yA d m).2 else d.getD i []:=λ_=>rfl;generalize qI d (yA d m).1=t1 at *;generalize qI d (yA d m).2=t2 at *;generalize (yA d m).1=c1 at *;generalize (yA d m).2=c2 at *;have o:uW d m=(List.range d.length).filterMap (xP d m):=rfl;rw[o];clear o;refine zt func294 ntmps294 results294 λS nx hd=>?_;refine EK ?_;intro v0 v1 q v3;refine EK ?_;refine zq n ?_;intro v4 v5;repeat apply za
 refine zb ?_;refine zk rfl (zh (EK ?_));intro s;refine qy 6 0 99 1 rfl rfl λl=>?_;repeat apply za
 refine zb ?_;refine zj (zC (λs':Nat × Nat=>s'.1<=d.length) (λ(k,l)=>[(4,.ptr (nx+1) v1 0),(5,.ptr (nx+2) q 0),(6,.ptr (nx+3) v3 0),(8,.ptr (nx+4) v4 0),(9,.ptr (nx+5) v5 0),(11,.ptr (nx+6) s 0),(26,L d),(27,I d.length),(28,I k)])
  (λ(k,l)=>[.cells v0 25 (zB x),.cells v1 96 [L d],.cells q 340 (Yc m),.cells v3 96 [yB],.cells v4 372 (yH c1),.cells v5 372 (yH c2),.cells s 96 [.sl (nx+7) l 1 0 ((List.range k).filterMap (xP d m)).length],.cells l 99 (((List.range k).filterMap (xP d m)).flatMap Enc.enc)]) (λs'=>d.length-s'.1) (0,l) [] EB EB EB ?_)
 rintro⟨k,l⟩ v;simp only at v ⊢;refine EK ?_;refine za (zv rfl (λhc=>?_) (λhc=>?_))
 .simp at hc;obtain⟨t,tl,a1,a2,a3,e0⟩:=zF rfl d k hc;have w:1<=d.length-k:=EA;have a8:=g t (Aa a1);have p:=cU t EA;have y:d.getD k []=t:=by rw[List.getD_eq_getElem?_getD,a1];rfl
  have c:=u k;have a6:((List.range k).filterMap (xP d m)).length<=k:=by have:=CX (xP d m) (List.range k);simpa using this
  have f:(List.range (k+1)).filterMap (xP d m)=(List.range k).filterMap (xP d m)++(xP d m k).toList:=by rw[AC,Cd];simp only[List.filterMap_cons,List.filterMap_nil];cases xP d m k<;>rfl
  have hT1:xP d m k=if (vk d m k).length=0 then none else some (vk d m k):=rfl;rw[y]at c;have a9:(vk d m k).length<=5000:=by rw[c];(repeat' split)<;>omega
  have z:(((List.range k).filterMap (xP d m)).flatMap Enc.enc:List PV).length=((List.range k).filterMap (xP d m)).length:=jJ _;generalize (List.range k).filterMap (xP d m)=out at *;have a0:(out.flatMap Enc.enc:List PV).take out.length=out.flatMap Enc.enc:=Ae EA;have wk:=zu k EA;refine zh (aA (aF [] (zD e0 hc w) ?_));intro v8;refine EK ?_;refine zq p ?_;repeat apply za
  refine zb ?_;refine qT (nx:=nx) (λ_:Unit=>True) (λ_=>[(4,.ptr (nx+1) v1 0),(5,.ptr (nx+2) q 0),(6,.ptr (nx+3) v3 0),(8,.ptr (nx+4) v4 0),(9,.ptr (nx+5) v5 0),(11,.ptr (nx+6) s 0),(14,L (vk d m k)),(26,L d),(27,I d.length),(28,I k)]) (λ_=>S)
   (λ_=>[.cells v0 25 (zB x),.cells v1 96 [L d],.cells q 340 (Yc m),.cells v3 96 [yB],.cells v4 372 (yH c1),.cells v5 372 (yH c2),.cells s 96 [.sl (nx+7) l 1 0 out.length],.cells l 99 (out.flatMap Enc.enc),.cells v8 99 [L t]]) ?_ ?_
  refine zj ?_;by_cases h1:k=m.a;rw[if_pos h1]at c;have a4:(k:Int)=m.a:=EA;rw[c];refine EK ?_;refine zm EF ?_;refine zb ?_;refine zq g1 ?_;simp only[xh];exact yb () [] trivial EB rfl EB;rw[if_neg h1]at c;have a4:¬(k:Int)=m.a:=EA;refine EK ?_;refine zk EF ?_;by_cases h2:k=m.b;rw[if_pos h2]at c;have a5:(k:Int)=m.b:=EA;rw[c];refine EK ?_;refine zm EF ?_;refine zb ?_;refine zq g2 ?_;simp only[xh];exact yb () [] trivial EB rfl EB;rw[if_neg h2]at c;have a5:¬(k:Int)=m.b:=EA;rw[c];refine EK ?_;refine zk EF ?_;refine zh ?_;simp only[xh];exact yb () [] trivial EB rfl EB;rintro⟨⟩ -;generalize vk d m k=tt at *;clear c p e0;by_cases h0:tt.length=0;have e:(xP d m k).toList=[]:=by rw[hT1,if_pos h0];rfl
  have h:¬0<tt.length:=EA;refine aF [] h ?_;refine zk (by simp[h]) ?_;refine zh (zb ?_);exact zr (k+1,l) [_] EF EF (by simp[wk,f,e]) rfl (by simp[f,e];rfl);have e:(xP d m k).toList=[tt]:=by rw[hT1,if_neg h0];rfl
  have h:0<tt.length:=EA;refine aF [] h ?_;refine zm (by simp[h]) ?_;refine ze [] (zn z a0) ?_;refine⟨by omega,?_⟩;refine zb ?_;exact zr (k+1,l+1) [_] EF EF (by simp[wk,f,e]) rfl (by simp[f,e];rfl)
 simp at hc;obtain rfl:k=d.length:=EA;refine zx (zY 7 rfl ?_);refine EK ?_;exact zg (zi hd EC (by simp[zp]))
def XO(d:zo)(s:Stop)(t k:Nat):Nat:=((d.getD t []).take k).count s
def ik(d:zo)(s:Stop)(t:Nat):XO d s t 0=0:=by simp[XO]
def rq(d:zo)(s:Stop)(t:Nat):XO d s t (jo d t)=(d.getD t []).count s:=by simp[XO,jo]
def Sy(d:zo)(s:Stop)(p:Pc):p.f<=p.o->(q9 d p).count s+XO d s p.t p.f=XO d s p.t p.o:=by intro h;unfold q9 XO;generalize d.getD p.t []=u;by_cases hf:p.f<p.o;rw[if_pos hf,show p.o=p.f+(p.o-p.f) by omega,List.take_add,List.count_append,show p.f+(p.o-p.f)-p.f=p.o-p.f by omega];cases p.b;rw[cond_false];omega;rw[cond_true,List.count_reverse];omega;grind
def rt(d:zo)(s:Stop)(r:Rw5):(qI d r).count s=(q9 d r.a).count s+(q9 d r.b).count s+(q9 d r.c).count s+(q9 d r.d).count s+(q9 d r.e).count s:=by grind[qI,Rw5.l]
def Sz{d:zo}{m:Mv}(h:vg d m=true)(s:Stop):(qI d (yA d m).1).count s+(if m.a=m.b then 0 else (qI d (yA d m).2).count s)=(d.getD m.a []).count s+(if m.a=m.b then 0 else (d.getD m.b []).count s):=by unfold vg at h;rw[Aw]at h;obtain⟨-,h2⟩:=h;unfold uU at h2;unfold yA wI;have c:=ik d s;have e:=ik d s m.a;have f:=ik d s m.b;have g:=rq d s m.a;have i:=rq d s m.b;have key:=Sy d s;rw[rt,rt];grind[qb]
variable {u:zM}
theorem SA{d:zo}(t:zM)(h:d[i]?=some u)(s:Stop):(d.set i t).flatten.count s+u.count s=t.count s+d.flatten.count s:=by grind[List.drop_eq_getElem_cons,List.take_append_drop,List.set_eq_take_append_cons_drop]
def im{d:zo}(t:zM)(h:d[i]?=some u)(x:Inst):yf x (d.set i t)+yJ x (u.map (·.c))=yJ x (t.map (·.c))+yf x d:=by grind[List.drop_eq_getElem_cons,List.take_append_drop,yf,List.set_eq_take_append_cons_drop]
theorem rv(d:zo)(m:Mv):(List.range d.length).map (vk d m)=(d.set m.b (qI d (yA d m).2)).set m.a (qI d (yA d m).1):=by refine Bg λi=>?_;grind[vk]
theorem io(d:zo)(m:Mv):∀l:List Nat,(l.filterMap (xP d m)).flatten=(l.map (vk d m)).flatten/\∀x,yf x (l.filterMap (xP d m))=yf x (l.map (vk d m))
 |[]=>⟨rfl,λ_=>rfl⟩
 |i::l=>by obtain⟨h1,h2⟩:=io d m l;have e:xP d m i=if (vk d m i).length=0 then none else some (vk d m i):=rfl;rw[List.filterMap_cons,e,Ap];by_cases h:(vk d m i).length=0;rw[if_pos h,CD.1 h];refine⟨by simpa using h1,λx=>?_⟩;have:=h2 x;unfold yf at this ⊢;simpa[yJ] using this;simp_all[yf]
def SB{d:zo}{m:Mv}(h:t∈uW d m):t≠[]/\(t=qI d (yA d m).1\/t=qI d (yA d m).2\/t∈d):=by grind[uW,xP,vk]
def SC(d:zo)(m:Mv):(uW d m).length<=d.length:=by grind[uW]
def rz{d:zo}{m:Mv}(h:vg d m=true):(uW d m).flatten.Perm d.flatten:=by obtain⟨-,a,hb,-,-⟩:=XN h;refine List.perm_iff_count.2 λs=>?_;have hc:=Sz h s;unfold uW;grind[io,rv,SA]
theorem SD{d:zo}{m:Mv}(h:vg d m=true)(h0:arc x 0 0=0):yf x (uW d m)=yf x d+JP x d m:=by
 obtain⟨-,k,hb,r1,r2⟩:=XN h;unfold uW JP ap;rw[(io d m _).2,rv,ig r1 h0,ig r2 h0];obtain⟨j,f⟩:∃u,d[m.a]?=some u:=⟨_,Ac k⟩;obtain⟨l,g⟩:∃u,d[m.b]?=some u:=⟨_,Ac hb⟩;have n:d.getD m.a []=j:=by rw[List.getD_eq_getElem?_getD,f];rfl
 have o:d.getD m.b []=l:=by rw[List.getD_eq_getElem?_getD,g];rfl
 rw[n,o];generalize qI d (yA d m).1=t1 at *;generalize qI d (yA d m).2=t2 at *
 by_cases c:m.a=m.b;rw[if_pos c,<-c,List.set_set];have:=im t1 f x;omega;rw[if_neg c];have h1:=im t2 g x;have h2:=im (d:=d.set m.b t2) (i:=m.a) (u:=j) t1 (by rw[Bf (λe=>c e.symm)];exact f) x;omega
end Go.Proofs.YtdjbbndbalhekaaGreatDoor.Pv
