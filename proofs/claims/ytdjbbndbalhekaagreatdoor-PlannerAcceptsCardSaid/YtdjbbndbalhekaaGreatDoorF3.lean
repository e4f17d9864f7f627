/- Part of a proof, packed. -/
import Derived.Test.YtdjbbndbalhekaaGreatDoorF2
open List (range replicate length_map length_append append_assoc cons_append take_append_drop map_set)
open Option.some (injEq)
open Go.Proofs.YtdjbbndbalhekaaGreatDoor.Pv.Row (pures)
open Go.IntKind (i64)
open Go.Proofs.Tryz
set_option linter.defProp false
set_option maxRecDepth 100000
set_option maxHeartbeats 3200000
namespace Go.Proofs.YtdjbbndbalhekaaGreatDoor.Pv
open Go Go.ChangeShapes Go.WideShapes Go.ChangeAt Go.RowKit
def S0:Store:=λ_=>.dead
def C0:Ctx:=⟨λ_=>none,0,0⟩
def sim0(w:World):Sim C0 S0 w :=
 ⟨λ_ h=>absurd rfl h,(λ_ _ h=>by cases h),λ_ _ _ _ _ h=>absurd rfl h,(λ_ _ _ _ h=>by cases h),(λ_ _ _ h=>by cases h)⟩
def mS(b:Nat):¬C0.M S0 b:=by rintro⟨o,k,h,_⟩;exact h rfl
variable {w:World}
def HW{C':Ctx}{S':Store}{w':World}(h:Step C0 S0 w C' S' w'):Below w.heap.size w w' :=
 ⟨h.os,h.tape.1,h.output,h.size,λb hb=>(h.blocks b hb (mS b)).1⟩
def Zi(P:Program)(w:World)(t:TypeId)(α:Type)[Enc α](Ok:α->Prop):Prop :=
 ∀(H:Type) (enc:TypeId × Value->H) (fuel:Nat) (cs:List Value) (x:DataW H × List MemPlace),DataW.trod enc P w 0 (λ_=>true) true fuel t cs=some x->∃a:α,Ok a/\RelL C0 S0 w (Enc.enc a) cs.toArray
section
variable {P:Program} {w:World}
def VU{p:PV}{v:Value}(h:Rel C0 S0 w p v)(h1:v.oneCell'=true):RelL C0 S0 w [p] #[v]:=by
 refine⟨rfl,λi u a=>?_,λi q u b a=>?_⟩
 .match i with
  |0=>cases a;exact h1
  |i+1=>cases a
 match i with
 |0=>cases b;cases a;exact h
 |i+1=>cases b
variable {t:TypeId}
def uH(c:P.underlying t=some (.int .i64)):Zi P w t Int zU:=by
 intro H enc a cs x h;cases a with
 |zero=>cases h
 |succ n =>
 unfold DataW.trod at h;rw[c]at h
 match cs,h with
 |[.int k z],h =>
 simp only at h;split at h;rename_i d;obtain⟨rfl,b⟩:=d;refine⟨z,?_,VU (.sc _) rfl⟩;unfold Lit.wf at b;simp only[Ar,decide_eq_true_eq]at b;exact b;cases h
def HY(c:P.underlying t=some (.int .u64)):Zi P w t Nat (·<2^64):=by
 intro H enc a cs x h;cases a with
 |zero=>cases h
 |succ n =>
 unfold DataW.trod at h;rw[c]at h
 match cs,h with
 |[.int k z],h =>
 simp only at h;split at h;rename_i d;obtain⟨rfl,b⟩:=d;unfold Lit.wf at b;simp only[Ar,decide_eq_true_eq]at b;have h0:0<=z:=b.1;have h1:z<=18446744073709551615:=b.2;obtain⟨m,rfl⟩:=Az h0;exact⟨m,by omega,VU (.sc _) rfl⟩;cases h
variable {vs:List Value}
def fG{cs:List PV}(h:RelL C0 S0 w cs vs.toArray):cs.length=vs.length/\(∀(i:Nat) (v:Value),vs[i]?=some v->v.oneCell'=true)/\∀(i:Nat) (p:PV) (v:Value),cs[i]?=some p->vs[i]?=some v->Rel C0 S0 w p v:=by obtain⟨h1,h2,h3⟩:=h;simp only[BY,AH]at h1 h2 h3;exact⟨h1,h2,h3⟩
variable {α:Type}
theorem mT{Q:Nat->α->Prop}:∀(n:Nat),(∀i,i<n->∃a,Q i a)->∃l:List α,l.length=n/\∀(i:Nat) (a:α),l[i]?=some a->Q i a
 |0,_=>⟨[],rfl,λi a h=>nomatch h⟩
 |n+1,h=>by obtain⟨l,hl,c⟩:=mT n λi hi=>h i D9;obtain⟨a,d⟩:=h n D9;refine⟨l++[a],by simp[hl],λi b hb=>?_⟩;by_cases hi:i<n;rw[Au D9]at hb;exact c i b hb;by_cases e:i=n;subst e;rw[Ao D9,hl]at hb;simp at hb;subst hb;exact d;rw[An ED]at hb;cases hb
def HZ[Enc α](l:List α)(i j:Nat)(c:j<Enc.sz α){a:α}(hi:l[i]?=some a):(l.flatMap Enc.enc)[i*Enc.sz α+j]?=(Enc.enc a)[j]?:=by
 have b:=(Af.1 hi).1;have:=fB b;have e:(l.flatMap Enc.enc)[i*Enc.sz α+j]?=((l.flatMap Enc.enc).drop (i*Enc.sz α))[j]?:=by rw[AL]
 rw[e,this,Au (by rw[Enc.len];exact c)];rw[(Af.1 hi).2]
def VV{e:TypeId}[Enc α]{Ok:α->Prop}(ht:P.underlying t=some (.slice e))(a7:P.cellsOf e=Enc.sz α)(h0:Enc.sz α≠0)(he:Zi P w e α Ok):Zi P w t (List α) (λl=>l.length<=9223372036854775807/\∀a∈l,Ok a):=by
 intro H enc c7 cs x h;obtain⟨rfl,_⟩|⟨a,len,cap,g,rest,n,_,rfl,rfl,hb,hl,hm,c8,a8,d1,d2⟩:=DataW.trod_slice ht h;exact⟨[],⟨by simp,by simp⟩,VU .lst0 rfl⟩;have key:∀i,i<len->∃z:α,Ok z/\∃vs:List Value,w.cells? 0 (a.add (i*P.cellsOf e)) (P.cellsOf e)=some vs/\RelL C0 S0 w (Enc.enc z) vs.toArray:=by intro i hi;have h1:=a8 i hi;have h2:g[i]?=some (g[i]' D9):=EA;rw[h2,Option.bind_eq_some_iff]at h1;obtain⟨vs,hv,hx⟩:=h1;obtain⟨z,hz,hr⟩:=he H enc n vs _ hx;exact⟨z,hz,vs,hv,hr⟩
 obtain⟨zs,u,hz⟩:=mT len key;have d3:len<=9223372036854775807:=by unfold maxLen at hm;omega
 refine⟨zs,⟨by omega,λz a9=>?_⟩,?_⟩;obtain⟨i,hi⟩:=Cg a9;exact(hz i z hi).1;refine VU (p:=L zs) (v:=.slice (some a) len cap) ?_ rfl;obtain y|y:=Ca len;subst y;have:zs=[]:=As u;subst this;exact .lst0;obtain⟨b,off,d⟩:=a;have first:=hz 0 _ (Ac (by omega:0<zs.length));obtain⟨_,a3,b7,d4⟩:=first;obtain⟨_,b8,a0⟩:=World.cells?_some b7;have a4:∃c e' fz,w.heap[b]?=some (.cells c e' fz)/\d=none:=by
  have h1:=a0 0 D9;have c6:a3[0]?=some (a3[0]' D9):=EA;rw[c6]at h1;unfold World.cell? at h1;have q1:(((⟨b,off,d⟩:Addr).add (0*P.cellsOf e)).add 0).block=b:=by unfold Addr.add;split<;>simp_all
  have q3:d≠none->(((⟨b,off,d⟩:Addr).add (0*P.cellsOf e)).add 0).spot≠none:=by intro hs;simp[Addr.add,hs]
  rw[q1]at h1;split at h1
  .rename_i c e' fz m;refine⟨c,e',fz,m,?_⟩;cases q:d with
   |none=>rfl
   |some s =>
   have:=q3 (by rw[q];simp);rw[q]at this h1;split at h1;cases h1;rename_i r;exfalso;cases hq:(((⟨b,off,some s⟩:Addr).add (0*P.cellsOf e)).add 0).spot with
   |none=>exact this hq
   |some s2=>rw[hq]at r;exact r rfl
  cases h1
 obtain⟨c,e',fz,m,rfl⟩:=a4;have o:∀i j,i<len->j<Enc.sz α->∃z v,zs[i]?=some z/\c[off+(i*Enc.sz α+j)]?=some v/\v.oneCell'=true/\∃p,(Enc.enc z)[j]?=some p/\Rel C0 S0 w p v:=by intro i j hi hj;have a5:zs[i]?=some (zs[i]' D9):=EA;obtain⟨_,vs,hv,hr⟩:=hz i _ a5;obtain⟨_,b8,a0⟩:=World.cells?_some hv;obtain⟨r1,r2,r3⟩:=fG hr;rw[Enc.len]at r1;have a1:vs[j]?=some (vs[j]' D9):=EA;have h1:=a0 j D9;rw[a1,Addr.add_plain,Addr.add_plain]at h1;unfold World.cell? at h1;simp only[m]at h1;rw[if_neg EA]at h1;refine⟨_,_,a5,?_,r2 j _ a1,?_⟩;rw[a7,Nat.add_assoc]at h1;exact h1;have hp:(Enc.enc (zs[i]' D9))[j]?=some ((Enc.enc (zs[i]' D9))[j]'(by rw[Enc.len];exact hj)):=EA;exact⟨_,hp,r3 j _ _ hp a1⟩
 have split:∀i,i<len*Enc.sz α->i/Enc.sz α<len/\i%Enc.sz α<Enc.sz α/\i/Enc.sz α*Enc.sz α+i%Enc.sz α=i:=by intro i hi;refine⟨Nat.div_lt_of_lt_mul (by rw[D7];exact hi),Nat.mod_lt _ (Cb h0),?_⟩;rw[D7];exact Nat.div_add_mod i _
 have a2:(zs.flatMap Enc.enc).length=len*Enc.sz α:=by rw[ju,u]
 have f:∀i,i<len*Enc.sz α->∃v,c[off+i]?=some v/\v.oneCell'=true/\∃p,(zs.flatMap Enc.enc)[i]?=some p/\Rel C0 S0 w p v:=by intro i hi;obtain⟨s1,s2,s3⟩:=split i hi;obtain⟨z,v,g1,g2,g3,p,g4,g5⟩:=o _ _ s1 s2;rw[s3]at g2;refine⟨v,g2,g3,p,?_,g5⟩;rw[<-s3,HZ zs _ _ s2 g1];exact g4
 rw[<-u]at hl ⊢;refine .lst1 hl (by unfold xO;omega) m (mS b) (λ_=>?_) (λi v hi hv=>?_) (λi p v hp hv=>?_);have d0:0<len*Enc.sz α:=Nat.mul_pos y (Cb h0);obtain⟨v,hv,_⟩:=f (len*Enc.sz α-1) D9;have:=(Bd.1 hv).1;rw[a2];omega;rw[a2]at hi;obtain⟨v',k,h1,_⟩:=f i hi;rw[hv]at k;cases k;exact h1;have hi:i<len*Enc.sz α:=by have:=(Af.1 hp).1;rw[a2]at this;exact this
 obtain⟨v',k,_,p',a6,hr⟩:=f i hi;rw[hv]at k;cases k;rw[hp]at a6;cases a6;exact hr
def mU{fs:Array Field}{H:Type}{enc:TypeId × Value->H}{a:Nat}{cs:List Value}{x:DataW H × List MemPlace}(d:P.underlying t=some (.struct fs))(h:DataW.trod enc P w 0 (λ_=>true) true a t cs=some x):
  cs.length=P.cellsOf t/\∃n,∀(i:Nat) (f:Field),fs[i]?=some f->∃y,DataW.trod enc P w 0 (λ_=>true) true n f.type ((cs.drop f.offset).take (P.cellsOf f.type))=some y:=by
 cases a with
 |zero=>cases h
 |succ n =>
 unfold DataW.trod at h;rw[d]at h;simp only at h;split at h;rename_i hl;refine⟨hl,n,λi f hf=>?_⟩;obtain⟨e,c,_⟩:=Al.1 h;have b:=mapM_some_length c;have hi:i<e.length:=by have:=(Bd.1 hf).1;rw[b];simpa using this
 have:=mapM_some_get c i f (by rw[Array.getElem?_toList];exact hf);rw[Ac hi]at this;exact⟨_,this⟩;cases h
def Yb{cs ds:List PV}{us:List Value}(h:RelL C0 S0 w cs vs.toArray)(k:RelL C0 S0 w ds us.toArray):RelL C0 S0 w (cs++ds) (vs++us).toArray:=by have:=Wj h k [];simp only[Ay]at this;obtain⟨a,c⟩:=fG h;obtain⟨b1,b2⟩:=fG k;exact⟨by simp[a,b1],λi v hv=>this.2.1 i v (by have:=(Bd.1 hv).1;simp at this;simp;omega) (by simpa using hv),λi p v b hv=>this.2.2 i p v b (by simpa using hv)⟩
end
variable {H:Type}{P:Program}{before:List MemPlace}
def Ia{enc:TypeId × Value->H}{f:Func}{s:ChangeSpec}{apart g a h:Bool}{W W':World}{args:Array Value}{v:Value}{ds l:List (DataW H)}{pa pv:List MemPlace}
  (o:DataW.Whole enc P f.params.toList s.vars apart W args.toList ds l before)
  (e:∀(b:Nat) (i:Nat->Bool) (w:Bool),DataW.TrodAll enc P W' b i w f.resultTypes.toList (v.resultList f.resultTypes.size) (s.fn H (ds++l)).results [])
  (c:∀i:Nat->Bool,(∀p∈before,i p.block=true)->DataW.TrodAll enc P W' 0 i true f.params.toList args.toList (s.fn H (ds++l)).args pa)
  (d:∀i:Nat->Bool,(∀p∈before,i p.block=true)->DataW.TrodVars enc P W' i s.vars (s.fn H (ds++l)).vars pv)
  (k:before=pa++pv) (hb:Below W.heap.size W W')
  (q:∀(j:Nat) (t:TypeId) (r:Value),f.resultTypes[j]?=some t->(v.resultList f.resultTypes.size)[j]?=some r->Value.okWide P W' .any 0 t r) :
  s.post enc P f apart g a h W args v W':=by
 have hold:∀p∈before,(λb=>decide (b<W.heap.size)) p.block=true:=λp m=>by simpa using o.lt p m
 have u:=o.lt;refine⟨ds,l,before,[],pa,pv,o,e _ _ _,c _ hold,d _ hold,hb.frame _,λ_=>?_⟩;obtain⟨_,_,_,_,_,x,hn⟩:=o;refine⟨q,_,_,([]++pa)++pv,⟨[]++pa,pv,trodAll_append (c _ (λ_ _=>rfl)) (e _ _ _),d _ (λ_ _=>rfl),rfl,?_,?_⟩,?_⟩;intro b off m;have n:MemPlace.cell b off∈before:=by rw[k];simpa using m
 rw[hb.frozen (u _ n)];exact x b off n;intro y;have:=hn y;rw[k]at this;simpa using this;intro p m _;rw[k];simpa using m
def Ib{t:TypeId}{α:Type}[Enc α]{Ok:α->Prop}(h:Zi P w t α Ok){enc:TypeId × Value->H}{vs:Array Value}{d:DataW H}{p:List MemPlace}(f:DataW.Trod enc P w 0 (λ_=>true) true t (.agg vs) d p):
  ∃a:α,Ok a/\Rel C0 S0 w (.agg (Enc.enc a)) (.agg vs):=by
 obtain⟨b,hf⟩:=f;obtain⟨a,g,c⟩:=h H enc b _ _ hf;refine⟨a,g,?_⟩;have e:(Value.agg vs).cells.toList.toArray=vs:=by simp[Value.cells]
 rw[e]at c;exact .agg c.1 c.2.1 c.2.2
def VW{t:TypeId}{α:Type}[Enc α]{Ok:α->Prop}(h:Zi P w t α Ok){enc:TypeId × Value->H}{v:Value}{d:DataW H}{p:List MemPlace}(hv:v.cells=#[v])(e:DataW.Trod enc P w 0 (λ_=>true) true t v d p):
  ∃a:α,Ok a/\∀q,(Enc.enc a)[0]?=some q->Rel C0 S0 w q v:=by
 obtain⟨b,hf⟩:=e;obtain⟨a,f,c⟩:=h H enc b _ _ hf;refine⟨a,f,λq g=>?_⟩;rw[hv]at c;exact c.2.2 0 q v g rfl
end Go.Proofs.YtdjbbndbalhekaaGreatDoor.Pv
namespace Go.Proofs.YtdjbbndbalhekaaGreatDoor
open Go Go.ChangeShapes Go.WideShapes Go.ChangeAt Go.RowKit Pv
def Ic:ownKnob prog.godebug=none:=EC
def Ie:laidOutB prog=true:=EC
def If{f:FuncId}{args:List Pv.PV}(h:Pv.Pure prog f args (Pv.B true)){W:World}{vs:Array Value}(hl:args.length=vs.size)(d:∀(i:Nat) (c:Pv.PV) (v:Value),args[i]?=some c->vs[i]?=some v->Pv.Rel Pv.C0 Pv.S0 W c v):
  Calls prog f vs W λe W'=>e=.returned (.bool true)/\Below W.heap.size W W':=by
 refine((h Pv.S0).2 Pv.C0 W vs (Pv.sim0 W) hl d).mono ?_;rintro e W' ⟨p,v,S',C',rfl,⟨rfl,rfl⟩,a,hs,b⟩;cases a;exact⟨rfl,HW b⟩
theorem mV{H:Type}{enc:TypeId × Value->H}{W W':World}{e:Nat->Bool}(hb:Below W.heap.size W W'):∀(a:List TypeId) (vs:List Value) (ds:List (DataW H)) (ps:List MemPlace),
  (∀t∈a,prog.readableRec t=true/\t<prog.types.size)->DataW.TrodAll enc prog W 0 (λ_=>true) true a vs ds ps->(∀p∈ps,p.block<W.heap.size)->(∀p∈ps,e p.block=true)->DataW.TrodAll enc prog W' 0 e true a vs ds ps
 |[],[],[],_,_,h,_,_=>h
 |t::a,v::vs,d::ds,ps,f,h,b,c=>by obtain⟨p,q,h1,h2,rfl⟩:=h;obtain⟨r1,r2⟩:=f t EA;exact⟨p,q,WideElems.Trod_stays Ie r1 r2 h1 (λx hx=>hb.same (b x (by simp[hx]))) (λx hx=>c x (by simp[hx])),mV hb a vs ds q (λt' h'=>f t' (by simp[h'])) h2 (λx hx=>b x (by simp[hx])) (λx hx=>c x (by simp[hx])),rfl⟩
 |[],[],_::_,_,_,h,_,_=>h.elim
 |[],_::_,_,_,_,h,_,_=>h.elim
 |_::_,[],_,_,_,h,_,_=>h.elim
 |_::_,_::_,[],_,_,h,_,_=>h.elim
def Ig{H:Type}{enc:TypeId × Value->H}{s:ChangeSpec}{f:Func}{W W':World}{args:Array Value}{ds:List (DataW H)}{before:List MemPlace}(a:s.vars=[])(c:f.resultTypes=#[4])(e:∀t∈f.params.toList,prog.readableRec t=true/\t<prog.types.size)
  (i:DataW.Whole enc prog f.params.toList s.vars false W args.toList ds [] before) (l:(s.fn H (ds++[])).results=[.lit (.bool true)]) (m:(s.fn H (ds++[])).args=ds) (hv:(s.fn H (ds++[])).vars=[]) (hb:Below W.heap.size W W') :
  s.post enc prog f false true false false W args (.bool true) W':=by
 have d:=i;obtain⟨p,q,n,j,rfl,o,r⟩:=i;rw[a]at j;obtain⟨_,rfl⟩:=trodVars_none j;have g:=d.lt;refine Ia (pa:=p) (pv:=[]) d (λb k u=>?_) (λk h=>?_) (λk _=>?_) rfl hb (ok_one c rfl (okWide_bool_mk underlying4 true));rw[l,c];exact trodAll_mk1 (shut_bool underlying4 true);rw[m];exact mV hb _ _ _ _ e n (λx hx=>g x (by simp[hx])) (λx hx=>h x (by simp[hx]));rw[hv,a];rfl
end Go.Proofs.YtdjbbndbalhekaaGreatDoor
namespace Go.Proofs.YtdjbbndbalhekaaGreatDoor
open Go Go.ChangeShapes Go.WideShapes Go.ChangeAt Go.RowKit Pv
def ji{a b:Bool}(h:a=true)(k:b=true):(a&&b)=true:=by rw[h,k];rfl
def Ih{P:Program}{f:FuncId}{fn:Func}{s:ChangeSpec}{c:OpenClaim}
  (h1:c.wf (OpenSpec.ofChange s)=true) (h2:laidOutB P=true) (h3:mapsRowed P=true) (h4:fn.params.all (P.readableRec ·)=true) (h5:namedTie P c.named s.vars=true)
  (h6:(c.stops==[])=true) (h7:(P.stops==[])=true) (h8:(c.knobs==[])=true) (h9:(P.stopKnobs==[])=true)
  (a:(c.inPlace==P.inPlace f)=true) (b:(c.unfollowed==P.unfollowed f)=true) (d:(c.recurses==P.recurses f)=true) (e:(c.named==P.varsNamed f)=true)
  (g:(c.maps==(fn.params.toList++s.plain.varTypes P).any (P.mapsRec ·))=true) (h:(c.ifaces==(fn.params.toList++s.plain.varTypes P).any (P.ifacesRec ·))=true) (i:(c.mapsOut==P.mapsAmong fn.resultTypes.toList)=true)
  (j:(c.loops==(fn.params.toList++s.plain.varTypes P).any (P.loopsFrom ·))=true) (l:(c.wideKeys==(fn.params.toList++s.plain.varTypes P++fn.resultTypes.toList).any (P.wideKeysFrom ·))=true)
  (m:s.vars.all (P.varReadable ·)=true) (n:fn.resultTypes.all (λt=>P.readableRec t&&decide (t<P.types.size))=true) (o:(c.ifacesOut==fn.resultTypes.toList.any (P.ifacesRec ·))=true) (p:(c.loopsOut==fn.resultTypes.toList.any (P.loopsFrom ·))=true)
  (q:(c.plainKeys==P.plainKeys)=true) (r:c.shortTexts.isNone=true) (u:P.stopsHeard=true) (v:P.mayEnter=true) (w:(c.lifted==P.liftsFinal)=true) (x:(P.make==some c.make)=true)
  (y:(c.kinds==(if c.domain.isEmpty then [] else fn.params.toList.map λt=>match P.underlying t with|some (.int k)=>some k|_=>none))=true) (z:(c.pinned==c.pinnedBy)=true)
  (a0:(c.veiled==(fn.params.toList++s.plain.varTypes P++fn.resultTypes.toList).any (P.veiledRec ·))=true) (a1:c.veiledFits P fn.params.toList (fn.params.toList++s.plain.varTypes P++fn.resultTypes.toList)=true) :
  joinedFacts P f fn s c=true:=by
 exact ji (ji (ji (ji (ji (ji (ji (ji (ji (ji (ji (ji (ji (ji (ji (ji (ji (ji (ji (ji (ji (ji (ji (ji (ji (ji (ji (ji (ji (ji (ji h1 h2) h3) h4) h5) h6) h7) h8) h9) a) b) d) e) g) h) i) j) l) m) n) o) p) q) r) u) v) w) x) y) z) a0) a1
def Ii:laidOutB Tryz.pinned.checked.prog=true:=EC
def Ij:mapsRowed Tryz.pinned.checked.prog=true:=EC
def Ik:(Tryz.pinned.checked.prog.stops==[])=true:=EC
def Il:(Tryz.pinned.checked.prog.stopKnobs==[])=true:=EC
def Im:Tryz.pinned.checked.prog.stopsHeard=true:=EC
def Io:Tryz.pinned.checked.prog.mayEnter=true:=EC
end Go.Proofs.YtdjbbndbalhekaaGreatDoor
namespace Go.Proofs.YtdjbbndbalhekaaGreatDoor.Pv
open Go
def mixed:prog.follows .mixedOrders=true:=EC
abbrev i9(n:Nat)(v:Value):Prop:=Program.zeroOf prog n=some v
abbrev E0(n k:Nat):Prop:=prog.cellsOf n=k
abbrev E1(n k:Nat):Prop:=Program.bytesOf' prog n=some k
abbrev E2(n:Nat):Prop:=(prog.info? n).isSome=true
theorem E3{α:Type}{a b:α}(h:a=b:=by kernel_rfl):a=b:=h
@[simp] theorem c0:E0 0 1/\E1 0 0/\E2 0/\E0 1 1/\E1 1 8/\i9 1 .nilFunc/\E2 1/\E0 2 1/\E1 2 8/\i9 2 (.int .i64 0)/\E2 2/\E0 3 1/\E1 3 8/\E2 3/\E0 4 1/\E1 4 1/\i9 4 (.bool false)/\E2 4/\E0 5 1/\E1 5 1/\i9 5 (.int .u8 0)/\E1 6 1/\i9 6 (.int .u8 0)/\bP prog 7=true/\i9 7 (.agg #[.int .i64 0,.int .i64 0,.bool false,.int .u8 0])/\E0 9 1/\E1 9 16/\i9 9 (.string ⟨#[]⟩)/\E2 9/\i9 20 .nilIface/\i9 21 (.int .i32 0)/\E0 22 1/\i9 22 (.slice none 0 0)/\E2 22/\E0 23 1/\E2 23/\i9 24 (.agg #[.int .i64 0,.int .i64 0,.int .i64 0,.int .i64 0,.slice none 0 0,.slice none 0 0])/\E0 25 6/\i9 25 (.agg #[.int .i64 0,.int .i64 0,.int .i64 0,.int .i64 0,.slice none 0 0,.slice none 0 0])/\E2 25:=⟨E3,E3,E3,E3,E3,E3,E3,E3,E3,E3,E3,E3,E3,E3,E3,E3,E3,E3,E3,E3,E3,E3,E3,E3,E3,E3,E3,E3,E3,E3,E3,E3,E3,E3,E3,E3,E3,E3,E3,E3⟩
@[simp] theorem c26:E0 26 1/\E1 26 24/\i9 26 (.slice none 0 0)/\E2 26/\i9 28 .nilFunc/\E0 29 1/\E2 29/\E0 31 1/\i9 31 (.agg #[.slice none 0 0])/\E2 31/\E2 32/\E0 33 6/\i9 33 (.agg #[.int .i64 0,.int .i64 0,.int .i64 0,.int .i64 0,.slice none 0 0,.slice none 0 0])/\E2 33/\i9 37 .nilFunc/\E0 38 1/\i9 38 .nilFunc/\i9 40 .nilFunc/\i9 45 .nilFunc/\i9 46 .nilFunc/\E0 48 1/\E2 48/\E0 49 1/\E1 49 8/\i9 49 (.int .i64 0)/\E2 49/\i9 51 .nilFunc/\E0 52 1/\E1 52 24/\i9 52 (.slice none 0 0)/\i9 53 .nilFunc/\i9 55 .nilFunc/\E0 57 1/\E2 57/\E0 59 8/\E1 59 80/\i9 59 (.agg #[.int .i64 0,.int .i64 0,.slice none 0 0,.int .i64 0,.int .i64 0,.int .i64 0,.int .i64 0,.int .i64 0])/\E2 59/\E2 64:=⟨E3,E3,E3,E3,E3,E3,E3,E3,E3,E3,E3,E3,E3,E3,E3,E3,E3,E3,E3,E3,E3,E3,E3,E3,E3,E3,E3,E3,E3,E3,E3,E3,E3,E3,E3,E3,E3,E3,E3⟩
@[simp] theorem c65:E0 65 1/\E1 65 8/\i9 65 (.int .u64 0)/\E2 65/\i9 66 (.pointer none)/\E0 68 4/\i9 68 (.agg #[.int .i64 0,.int .i64 0,.int .i64 0,.int .i64 0])/\E2 68/\i9 70 (.agg #[.string ⟨#[]⟩,.int .i64 0,.int .i64 0,.int .i64 0,.int .i64 0,.int .i64 0,.int .i64 0,.int .i64 0,.int .i64 0,.slice none 0 0,.slice none 0 0,.int .i64 0,.int .i64 0,.int .i64 0,.int .i64 0,.slice none 0 0,.slice none 0 0])/\i9 71 (.agg #[.string ⟨#[]⟩,.int .i64 0,.int .i64 0,.int .i64 0,.int .i64 0,.int .i64 0,.int .i64 0,.int .i64 0,.int .i64 0,.slice none 0 0,.slice none 0 0,.int .i64 0,.int .i64 0,.int .i64 0,.int .i64 0,.slice none 0 0,.slice none 0 0])/\E0 72 1/\i9 72 .nilFunc/\i9 75 .nilFunc/\E0 76 1/\i9 76 (.pointer none)/\E0 77 1/\i9 77 (.slice none 0 0)/\E0 79 2/\i9 79 (.agg #[.pointer none,.slice none 0 0])/\E0 94 1/\E2 94/\E0 96 1/\E1 96 24/\i9 96 (.agg #[.slice none 0 0])/\E2 96/\E0 97 1/\E1 97 24/\i9 97 (.slice none 0 0)/\E2 97/\E0 99 1/\E1 99 24/\i9 99 (.agg #[.slice none 0 0])/\E2 99/\i9 105 .nilFunc/\i9 111 (.agg #[.int .i64 0,.int .i64 0,.int .i64 0,.int .i64 0])/\E0 113 2/\i9 113 (.agg #[.slice none 0 0,.slice none 0 0])/\E2 113/\i9 119 (.agg #[.int .u8 0,.int .u8 0,.int .u8 0,.int .u8 0,.int .u8 0,.int .u8 0,.int .u8 0,.int .u8 0,.int .u8 0,.int .u8 0,.int .u8 0,.int .u8 0,.int .u8 0,.int .u8 0,.int .u8 0,.int .u8 0,.int .u8 0,.int .u8 0,.int .u8 0,.int .u8 0])/\E0 124 3:=⟨E3,E3,E3,E3,E3,E3,E3,E3,E3,E3,E3,E3,E3,E3,E3,E3,E3,E3,E3,E3,E3,E3,E3,E3,E3,E3,E3,E3,E3,E3,E3,E3,E3,E3,E3,E3,E3,E3,E3,E3⟩
@[simp] theorem ZA6:i9 124 (.agg #[.int .i64 0,.int .i64 0,.int .i64 0])/\i9 127 (.pointer none)/\i9 129 (.agg #[.slice none 0 0,.int .i64 0,.int .i64 0,.int .i64 0,.int .i64 0,.int .i64 0,.slice none 0 0,.slice none 0 0,.int .i64 0,.bool false])/\i9 131 .nilFunc/\E0 132 1/\i9 132 (.pointer none)/\i9 138 .nilFunc/\i9 139 (.agg #[.int .i64 0,.int .i64 0,.int .i64 0,.int .i64 0,.slice none 0 0,.slice none 0 0,.slice none 0 0,.int .i64 0])/\E0 140 8/\i9 140 (.agg #[.int .i64 0,.int .i64 0,.int .i64 0,.int .i64 0,.slice none 0 0,.slice none 0 0,.slice none 0 0,.int .i64 0])/\E0 144 1/\E1 144 24/\i9 144 (.slice none 0 0)/\i9 146 .nilFunc/\i9 164 (.pointer none)/\E0 178 1/\i9 178 .nilFunc/\E0 180 9/\i9 180 (.agg #[.int .i64 0,.int .i64 0,.slice none 0 0,.int .i64 0,.int .i64 0,.int .i64 0,.int .i64 0,.int .i64 0,.int .i64 0])/\i9 183 .nilFunc/\i9 189 .nilFunc/\E0 197 2/\E1 197 16/\i9 197 (.agg #[.int .i64 0,.int .i64 0])/\i9 205 (.agg #[.int .u64 0])/\i9 208 (.agg #[.int .i64 0,.int .i64 0,.int .i64 0,.int .i64 0,.slice none 0 0,.slice none 0 0,.slice none 0 0,.slice none 0 0,.slice none 0 0])/\i9 218 .nilFunc/\i9 222 .nilFunc/\E0 225 1/\E2 225/\E0 227 2/\i9 227 (.agg #[.nilFunc,.int .i64 0])/\i9 228 (.agg #[.int .i64 0,.int .i64 0,.int .i64 0,.int .i64 0,.slice none 0 0,.slice none 0 0,.slice none 0 0])/\i9 229 (.agg #[.int .i64 0,.int .i64 0,.int .i64 0,.int .i64 0,.slice none 0 0,.slice none 0 0,.slice none 0 0])/\E0 236 2/\i9 236 (.agg #[.slice none 0 0,.bool false])/\i9 243 (.agg #[.int .i64 0,.int .i64 0,.int .i64 0,.int .i64 0,.slice none 0 0,.slice none 0 0,.slice none 0 0])/\E0 252 1/\E2 252/\E0 253 1:=⟨E3,E3,E3,E3,E3,E3,E3,E3,E3,E3,E3,E3,E3,E3,E3,E3,E3,E3,E3,E3,E3,E3,E3,E3,E3,E3,E3,E3,E3,E3,E3,E3,E3,E3,E3,E3,E3,E3,E3,E3⟩
@[simp] theorem ZBz:E2 253/\i9 255 (.agg #[.int .i64 0,.int .i64 0,.int .i64 0,.int .i64 0,.slice none 0 0,.slice none 0 0,.slice none 0 0,.int .i64 0,.slice none 0 0,.slice none 0 0,.slice none 0 0])/\i9 265 (.agg #[.int .i64 0,.int .i64 0,.int .i64 0,.int .i64 0,.slice none 0 0,.slice none 0 0,.slice none 0 0,.int .i64 0,.int .i64 0,.int .i64 0,.int .i64 0])/\E0 325 3/\bP prog 325=true/\i9 325 (.agg #[.bool false,.int .i64 0,.int .i64 0])/\E0 340 5/\i9 340 (.agg #[.int .i64 0,.int .i64 0,.int .i64 0,.int .i64 0,.int .i64 0])/\E2 340/\E0 353 1/\i9 353 .nilFunc/\E0 355 1/\i9 355 .nilFunc/\E0 359 1/\i9 359 (.slice none 0 0)/\E0 364 1/\i9 364 (.pointer none)/\E0 370 4/\i9 370 (.agg #[.int .i64 0,.int .i64 0,.int .i64 0,.bool false])/\E2 370/\E0 372 20/\i9 372 (.agg #[.int .i64 0,.int .i64 0,.int .i64 0,.bool false,.int .i64 0,.int .i64 0,.int .i64 0,.bool false,.int .i64 0,.int .i64 0,.int .i64 0,.bool false,.int .i64 0,.int .i64 0,.int .i64 0,.bool false,.int .i64 0,.int .i64 0,.int .i64 0,.bool false])/\E0 378 1/\i9 378 (.pointer none)/\E0 379 1/\E2 379/\E0 380 1/\E2 380/\i9 382 (.agg #[.int .i64 0,.int .i64 0,.int .i64 0,.int .i64 0,.slice none 0 0,.slice none 0 0,.slice none 0 0,.int .i64 0,.map none])/\E0 387 3/\E1 387 24/\i9 387 (.agg #[.int .i64 0,.int .i64 0,.int .i64 0])/\E0 390 13/\i9 390 (.agg #[.int .i64 0,.int .i64 0,.int .i64 0,.int .i64 0,.slice none 0 0,.slice none 0 0,.slice none 0 0,.slice none 0 0,.bool false,.slice none 0 0,.int .i64 0,.slice none 0 0,.slice none 0 0])/\E0 395 3/\i9 395 (.agg #[.int .i64 0,.int .i64 0,.int .i64 0])/\E0 401 1/\E2 401/\i9 403 (.agg #[.int .i64 0,.int .i64 0,.int .i64 0,.int .i64 0,.slice none 0 0,.slice none 0 0,.slice none 0 0,.slice none 0 0])/\E0 405 4:=⟨E3,E3,E3,E3,E3,E3,E3,E3,E3,E3,E3,E3,E3,E3,E3,E3,E3,E3,E3,E3,E3,E3,E3,E3,E3,E3,E3,E3,E3,E3,E3,E3,E3,E3,E3,E3,E3,E3,E3,E3⟩
@[simp] theorem ZCd:E1 405 80/\i9 405 (.agg #[.slice none 0 0,.slice none 0 0,.slice none 0 0,.int .i64 0])/\E0 407 1/\E2 407/\E0 408 1/\E2 408/\E0 410 2/\i9 410 (.agg #[.nilFunc,.nilFunc])/\E2 410/\E0 411 8/\i9 411 (.agg #[.nilFunc,.nilFunc,.nilFunc,.nilFunc,.nilFunc,.nilFunc,.nilFunc,.nilFunc])/\E0 415 7/\i9 415 (.agg #[.int .i64 0,.int .i64 0,.int .i64 0,.int .i64 0,.int .i64 0,.int .i64 0,.int .i64 0])/\E0 424 1/\E1 424 24/\i9 424 (.slice none 0 0)/\E0 436 1/\E2 436/\E0 438 2/\i9 438 (.agg #[.slice none 0 0,.map none])/\E2 438/\i9 440 (.agg #[.slice none 0 0,.map none])/\E0 444 2/\E1 444 16/\i9 444 (.agg #[.int .i64 0,.int .i64 0]):=⟨E3,E3,E3,E3,E3,E3,E3,E3,E3,E3,E3,E3,E3,E3,E3,E3,E3,E3,E3,E3,E3,E3,E3,E3,E3⟩
@[simp] theorem z3:Program.zeroOf prog 3=some (.int .i64 0):=EC
@[simp] theorem fH:prog.cellsOf 101=2:=EC
@[simp] theorem mW:Program.bytesOf' prog 101=some 16:=EC
@[simp] theorem mX:Program.zeroOf prog 101=some (.agg #[(.int .i64 0),(.int .i64 0)]):=EC
@[simp] theorem fI:(prog.info? 101).isSome=true:=EC
attribute [simp] underlying0 underlying1 underlying3 underlying4 underlying5 underlying9 underlying20 underlying21 underlying22 underlying23 underlying25 underlying26 underlying29 underlying31 underlying33 underlying38 underlying45 underlying48 underlying49 underlying52 underlying57 underlying59 underlying65 underlying68 underlying71 underlying72 underlying73 underlying76 underlying77 underlying79 underlying81 underlying82 underlying94 underlying96 underlying97 underlying99 underlying101 underlying102 underlying111 underlying113 underlying119 underlying124 underlying126 underlying129 underlying130 underlying132 underlying133 underlying140 underlying144 underlying164 underlying175 underlying178 underlying180 underlying190 underlying194 underlying197 underlying205 underlying208 underlying219 underlying223 underlying225 underlying227 underlying229 underlying236 underlying243 underlying248 underlying252 underlying253 underlying255 underlying265 underlying266 underlying289 underlying292 underlying293 underlying300 underlying303 underlying305 underlying316 underlying325 underlying326 underlying340 underlying344 underlying346 underlying347 underlying348 underlying353 underlying355 underlying359 underlying364 underlying370 underlying372 underlying378 underlying379 underlying380 underlying382 underlying387 underlying390 underlying395 underlying401 underlying403 underlying405 underlying407 underlying408 underlying410 underlying411 underlying415 underlying422 underlying424 underlying436 underlying438 underlying440 underlying442 underlying444
def Ip:qU prog 151:=qN func151 EC rfl
def Iq:qU prog 152:=qN func152 EC rfl
def Ir:qU prog 194:=qN func194 EC rfl
def Is:qU prog 223:=qN func223 EC rfl
def It:qU prog 339:=qN func339 EC rfl
def Iu:qU prog 340:=qN func340 EC rfl
def Iv:qU prog 358:=qN func358 EC rfl
def Iw:qU prog 359:=qN func359 EC rfl
def Ix:qU prog 360:=qN func360 EC rfl
def mY:qU prog 368:=qN func368 EC rfl
def Iy:qU prog 369:=qN func369 EC rfl
def Iz:qU prog 371:=qN func371 EC rfl
def mZ:qU prog 404:=qN func404 EC rfl
def fJ:qU prog 405:=qN func405 EC rfl
def IA:qU prog 406:=qN func406 EC rfl
def IB:qU prog 407:=qN func407 EC rfl
def fK:qU prog 408:=qN func408 EC rfl
def yR(n i:Nat):Nat:=n/2^i%2
def qy(n:Nat):List Int:=(range 64).map λi=>((yR n i:Nat):Int)
def xF:List Int->Int
 |[]=>0
 |b::l=>2*xF l+b
def Jw(n:Nat):(qy n).length=64:=by simp[qy]
theorem Wy(n i:Nat):yR n i<=1:=by unfold yR;omega
def fL(n:Nat):∀b∈qy n,b=0\/b=1:=by intro b hb;simp only[qy,Ak]at hb;obtain⟨i,_,rfl⟩:=hb;have:=Wy n i;omega
def cB(l:List Int)(h:∀b∈l,b=0\/b=1):0<=xF l/\xF l<2^l.length:=by
 induction l with
 |nil=>simp[xF]
 |cons b l a =>
 obtain⟨h1,h2⟩:=a (λc hc=>h c (by simp[hc]));have:=h b EA;simp only[xF,Ae,D8];omega
def cC(l:List Int)(k:Nat)(v:Int)(h:k<l.length):yr (l.flatMap Enc.enc) k [I v]=(l.set k v).flatMap Enc.enc:=by
 have e:∀l:List Int,l.flatMap Enc.enc=l.map I:=λl=>by induction l<;>simp_all
 rw[e,e,yr,map_set,AE,if_pos (by simpa using h)];simp
def fM(n:Nat):qr n (.int .i64 0)=(replicate n (0:Int)).flatMap Enc.enc:=by
 induction n with
 |zero=>simp
 |succ n a=>rw[Jr,a,BM];simp[xh,Value.cells]
def uI(n k:Nat):List Int:=(range 64).map λi=>if i<k then ((yR n i:Nat):Int) else 0
def IC(n:Nat):uI n 0=replicate 64 0:=by apply A8;simp[uI];intro i h1 h2;simp only[DT];simp[uI]
def ID(n k:Nat)(h:64<=k):uI n k=qy n:=by apply A8;simp[uI,qy];intro i h1 h2;simp[uI]at h1;simp[uI,qy,show i<k by omega]
def IE(n k:Nat)(h:k<64):(uI n k).set k ((yR n k:Nat):Int)=uI n (k+1):=by apply A8;simp[uI];intro i h1 h2;rw[CJ];simp only[uI,Cj,Cn];split;rename_i e;subst e;simp;rename_i e;by_cases q:i<k;rw[if_pos q,if_pos D9];rw[if_neg q,if_neg D9]
def IF(n k:Nat):(uI n k).length=64:=by simp[uI]
abbrev SP:=@Spec prog
def nb(n:Nat)(hn:n<2^64)(S:Store)(nx:Nat)(d:yh nx S):SP 59 [U n] S (λp S'=>∃v,p=.sl nx v 1 0 64/\S'=S.set nx (.cells v 3 ((qy n).flatMap Enc.enc))):=by
 refine ZI d func59 ntmps59 results59 ?_;refine EJ ?_;refine EJ ?_;intro v0;refine ze (EJ ?_);refine zn (zF (λs:Nat × Nat=>s.1<=64) (λ(k,v)=>[(0,U (n/2^k)),(3,.sl nx v 1 0 64),(4,I k)]) (λ(k,v)=>[.cells v 3 ((uI n k).flatMap Enc.enc)]) (λs=>64-s.1) (0,v0) [] EA EA (by simp[IC,fM]) ?_);rintro⟨k,v⟩ h;simp only at h ⊢;refine ze (EJ ?_);refine zA rfl (λhc=>?_) (λhc=>?_);simp at hc;have a:k<64:=D9;have hl:=IF n k;have hm:n/2^k<18446744073709551616:=Nat.lt_of_le_of_lt (Nat.div_le_self _ _) hn;generalize b:n/2^k=m at *;have e:(m:Int).tmod 2=(m:Int)%2:=Be D9;have f:i64.wrap ((m:Int)%2)=(m:Int)%2:=wr _ D9 D9;have t3:IntKind.u64.wrap ((m:Int)/2)=(m:Int)/2:=IntWalk.u64_in _ D9;have g:(m:Int).tdiv 2=(m:Int)/2:=BQ D9;have t4:m%2=yR n k:=by unfold yR;rw[b]
 have t5:m/2=n/2^(k+1):=by rw[<-b,Nat.div_div_eq_div_mul,DY]
 have i:(m:Int)/2=(n:Int)/2^(k+1):=by exact_mod_cast t5
 have l:(m:Int)%2=(yR n k:Nat):=by exact_mod_cast t4
 have hs:=cC (uI n k) k ((m:Int)%2) D9;refine zk (aA (aF [] (yp hc e f hs hl) ?_));refine⟨by omega,?_⟩;refine zi [] (zq t3 g) ?_;refine zg ?_;exact zv (k+1,v) [] a ED (by simp[zy k D9,i,g,t3]) rfl (by simp[<-IE n k a,<-l,e,f,hs]);simp at hc;have c:k=64:=D9;subst c;refine zB (EJ ?_);refine zj ⟨_,_,rfl,⟨v,rfl,rfl⟩,Xo (j:=0) d (by simp[ID n 64])⟩
abbrev PP:=Pure prog
def fN(n:Nat)(hn:n<2^64):PP 59 [U n] (L (qy n)):=by have:=cx 0 (λS nx a=>nb n hn S nx a) (by simp[Jw]);rw[<-Jw n]at this;exact this
def nf(l:List Int)(hl:l.length=64)(a:∀b∈l,b=0\/b=1):PP 95 [L l] (.sc (.int .u64 (xF l))):=by
 refine c9 func95 λS nx e=>?_;refine EJ ?_;refine ze (EJ ?_);refine zn (zF (λm:Nat=>m<=64) (λm=>[(0,L l),(3,.sc (.int .u64 (xF (l.drop m)))),(4,I ((m:Int)-1))]) (λ_=>[]) (λm=>m) 64 [] EA (by simp[AS (Cx hl),xF]) EA ?_);rintro m hm;refine ze (EJ ?_);refine zA rfl (λhc=>?_) (λhc=>?_)
 .simp at hc;obtain⟨j,rfl⟩:∃j,m=j+1:=⟨m-1,by omega⟩;obtain⟨b,tl,f,g,a3,h⟩:=zH rfl l j D9;have hb:=a b (Ab f);have q:=cB (l.drop (j+1)) (λc hc=>a c (By hc));have p:(2:Int)^(l.drop (j+1)).length<=9223372036854775808:=by
   have:(l.drop (j+1)).length<=63:=ED
   calc (2:Int)^(l.drop (j+1)).length<=2^63:=by exact_mod_cast BS EG this
    _=9223372036854775808:=EG
  have g1:(j:Int)<l.length:=D9;have i:IntKind.u64.wrap (2*xF (l.drop (j+1)))=2*xF (l.drop (j+1)):=IntWalk.u64_in _ D9;have k:IntKind.u64.wrap b=b:=IntWalk.u64_in _ D9;have n:IntKind.u64.wrap (2*xF (l.drop (j+1))+b)=xF (l.drop j):=by rw[IntWalk.u64_in _ D9,g];rfl
  have s1:((j:Int)+1-1)=j:=D9;refine zk (aA (zi [] (zN h g1 i k n s1) ?_));refine zg ?_;have o:i64.wrap ((j:Int)-1)=(j:Int)-1:=wr _ D9 D9;exact zv j [] D9 D9 (by simp[s1,o]) rfl EA
 simp at hc;have d:m=0:=D9;subst d;refine zB (EJ ?_);exact zj (zm e rfl rfl)
def fO(n d:Nat)(h:d<64):(qy n)[d]?=some ((yR n d:Nat):Int):=by simp[qy,h]
def IG(n:Nat)(d:Int)(hn:n<2^64)(h0:0<=d)(h1:d<=63):PP 57 [U n,I d] (B (decide (yR n d.toNat=1))):=by obtain⟨k,rfl⟩:=Az h0;have c:k<64:=D9;have hl:=Jw n;obtain⟨b,tl,a,g,a3,e⟩:=zH rfl (qy n) k D9;rw[fO n k c]at a;cases a;have g1:(k:Int)<64:=D9;have g3:¬(63:Int)<k:=D9;refine c9 func57 λS nx f=>?_;refine ze (aF [(2,8)] g3 ?_);refine zp rfl (zk (EJ ?_));refine zu (fN n hn) ?_;refine aF [] (zD e g1 hl) ?_;exact zj (zm f rfl ED)
def VX(n d:Nat):Int:=xF ((qy n).set d 1)
variable {d:Nat}
def fQ{l:List Int}{v b:Int}(h:b∈l.set d v):b∈l\/b=v:=by obtain h|h:=Bo h;exact .inl h;exact .inr h
def ng(n:Nat)(d:Int)(hn:n<2^64)(h0:0<=d)(h1:d<=63):PP 58 [U n,I d,I 1] (.sc (.int .u64 (VX n d.toNat))):=by
 obtain⟨k,rfl⟩:=Az h0;have g:k<64:=D9;have hl:=Jw n;have g1:(k:Int)<64:=D9;have g3:¬(63:Int)<k:=D9;have hs:=cC (qy n) k 1 D9;refine c9 func58 λS nx f=>?_;refine ze (aF [(2,10)] g3 ?_);refine zp rfl (zk (EJ ?_));refine λc=>((nb n hn _ _ xP).mono ?_).v;rintro _ _ ⟨v,rfl,rfl⟩;refine⟨_,_,jP _,zS c ?_⟩;refine aF [] (zD g1 hs hl) ?_;refine⟨by omega,?_⟩;refine yc 0 rfl ?_;have e:((qy n).set k 1).length=64:=by simp[hl]
 have a:=nf ((qy n).set k 1) e (λb hb=>by obtain h|h:=fQ hb;exact fL n b h;exact .inr h);have this:PP 95 [.lst 64 (((qy n).set k 1).flatMap Enc.enc)] (.sc (.int .u64 (xF ((qy n).set k 1)))):=by rw[show (64:Nat)=((qy n).set k 1).length from e.symm];exact a
 refine aF [] hl ?_;refine zu this ?_;exact zj (zm f rfl rfl)
def yS(n lo hi:Int):Int:=lo+(if n<0 then -(n+1) else n)%(hi-lo+1)
def wP(n lo hi:Int)(h:lo<=hi):lo<=yS n lo hi/\yS n lo hi<=hi:=by unfold yS;have a:=Int.emod_nonneg (if n<0 then -(n+1) else n) (show hi-lo+1≠0 by omega);have b:=Int.emod_lt_of_pos (if n<0 then -(n+1) else n) (show 0<hi-lo+1 by omega);omega
def Yu(n lo hi:Int)(hn:zU n)(h0:0<=lo)(h1:lo<=hi)(h2:hi<=4294967296):PP 25 [I n,I lo,I hi] (I (yS n lo hi)):=by
 have j:=wP n lo hi h1;have c:i64.wrap (hi-lo)=hi-lo:=wr _ D9 D9;have w2:i64.wrap (hi-lo+1)=hi-lo+1:=wr _ D9 D9;have w0:¬hi-lo+1=0:=D9;have d:i64.wrap (yS n lo hi)=yS n lo hi:=wr _ D9 D9;unfold zU at hn;refine c9 func25 λS nx f=>?_;refine ze (EJ ?_);by_cases h:n<0;have g:i64.wrap (n+1)=n+1:=wr _ D9 D9;have i:i64.wrap (-(n+1))=-(n+1):=wr _ D9 D9;have a:(-(n+1)).tmod (hi-lo+1)=(-(n+1))%(hi-lo+1):=Be D9;have b:lo+(-(n+1))%(hi-lo+1)=yS n lo hi:=by unfold yS;rw[if_pos h]
 refine zo (by simp[h]) ?_;have e:-(n+1)=-1+-n:=D9;refine zi [] (zq g i) ?_;refine aF [] (zN c w2 w0 a b d) ?_;exact zj (zm f rfl rfl);have a:n.tmod (hi-lo+1)=n%(hi-lo+1):=Be D9;have b:lo+n%(hi-lo+1)=yS n lo hi:=by unfold yS;rw[if_neg h]
 refine zp (by simp[h]) ?_;refine zk (aF [] (zN c w2 w0 a b d) ?_);exact zj (zm f rfl rfl)
def Wz(n d:Nat):Nat:=(VX n d).toNat
def fR(n d:Nat):VX n d=((Wz n d:Nat):Int)/\Wz n d<2^64:=by have h:=cB ((qy n).set d 1) (λb hb=>by obtain h|h:=fQ hb;exact fL n b h;exact .inr h);rw[Bv,Jw]at h;unfold Wz VX;omega
def wA(p:Nat):Nat->Nat
 |0=>0
 |k+1=>if yR p k=1 then Wz (wA p k) k else wA p k
theorem cD(p:Nat):∀k,wA p k<2^64
 |0=>by simp[wA]
 |k+1=>by unfold wA;split;exact(fR _ _).2;exact cD p k
def Yv(pats:List Nat)(days:Int):List Nat :=
 if pats=[] then [1] else (pats.take 4).map λp=>wA p days.toNat
def xG(c:Cust)(days:Int):Cust :=
 if c.kind.tmod 2=0 then ⟨2,0,[],yS c.H 0 9,yS c.size 1 30,yS c.Q 0 (yS c.size 1 30),yS c.X 1 2,yS c.Y 0 4⟩
 else ⟨1,yS c.O 1 15,Yv c.D days,0,0,0,0,0⟩
structure CustOk (c:Cust):Prop where
 kind:zU c.kind
 O:zU c.O
 D:∀p∈c.D,p<2^64
 npats:c.D.length<=9223372036854775807
 H:zU c.H
 size:zU c.size
 Q:zU c.Q
 X:zU c.X
 Y:zU c.Y
variable {α β:Type}{k:Nat}
def nh(f:α->β){l:List α}{a:α}(b:l.take (k+1)=l.take k++[a]):(l.take (k+1)).map f=(l.take k).map f++[f a]:=by rw[b];simp
abbrev R0:=pures [17,18,19,20,21,22] (.alt 23 (.done) .stop)
abbrev R3:=pures [0,1,2,3,4,5,6,7,8,9,10,11,12,13,14,15] .done
abbrev R4:=pures [0,1,2,3,4,5,6,7,8,9,10,11,12,13,14,15,16,17,18,19,20,21,22,23] .done
abbrev R5:=pures [0,1,2,3,5,6,7,8] (.alt 4 (.alt 9 (pures [10,11,12,13] (.alt 14 (.done) .stop)) .stop) (.alt 9 (.alt 4 (pures [10,11,12,13] (.alt 14 (.done) .stop)) .stop) .stop))
abbrev R6:=pures [0,1,2,3,4,5,6,7,8,9,10,11,12,13,14,15,16,17,18,19,20,21,22,23,24,25,26,27,28,29,30] .done
abbrev R7:=pures [0,1,2,3,4,5,6,7,8,9,10,11,12,13,14,15,16,17,18,19,20,21,22,23,24] .done
abbrev R8:=pures [0,2,3] (.alt 1 (.alt 4 (pures [5,6] (.alt 7 (pures [8] (.alt 9 (.done) .stop)) .stop)) .stop) (.alt 4 (pures [5,6] (.alt 1 (.alt 7 (pures [8] (.alt 9 (.done) .stop)) .stop) .stop)) .stop))
abbrev R9:=pures [0,1,2,3,4,6,7] (.alt 5 (.alt 8 (pures [9,10,11] (.alt 12 (.done) .stop)) .stop) .stop)
abbrev Ra:=pures [0,1,2,3,4,5,6,7,8,9,10,11,12] (.alt 13 (.alt 14 (.done) .stop) .stop)
abbrev Rb:=pures [15,16,17,18,19,20,21] (.alt 22 (.done) .stop)
abbrev Rc:=pures [0,1,2,3,4,5,6,7,8,9,10,11,12,13,14,15,16,17,18,19] .done
abbrev Re:=pures [0,1,2,3,4,5,6,7,8] .done
abbrev Rf:=pures [13,14,15,16,17,18] (.alt 19 (.done) .stop)
abbrev Rg:=pures [12] (.alt 13 (.done) .stop)
abbrev Rh:=pures [0,1,2,3,4,5,6,7] .done
abbrev Ri:=pures [0,1,2,3,4,5,6,7,8,9] .done
abbrev Rj:=pures [0,1,2,3,4,5,6,7,8,9,10,11,12,13] .done
abbrev Rk:=pures [0,1,2,3,4,5,6,7,8,9,10,11,12,13,14,15,16,17,18,19,20,21] .done
abbrev Rl:=pures [0,1,2,3,4,5,6,7,8,9,10] .done
abbrev Rm:=pures [10,11,12,13] (.alt 14 (.done) .stop)
abbrev Rn:=pures [0,1,2,3,4,5,6,7,8,9,10,11,12,13,14,15,16,17,18,19,20] .done
abbrev Ro:=pures [0,1,2,3,4,5,6,7,8,9,10,11,12,13,14] .done
abbrev Rp:=pures [0,1,2,3,4,5,6,7,8,9,10,11] .done
abbrev Rq:=pures [8] (.alt 9 (.done) .stop)
abbrev Rr:=pures [10] (.alt 9 (.alt 11 (pures [12] (.alt 13 (.done) .stop)) .stop) .stop)
abbrev Rs:=pures [0,1,2,3,4] (.alt 5 (pures [6] .done) .stop)
abbrev Rt:=pures [0,1,2,3,4,5,6,7,8,9,10,11,12] .done
abbrev Ru:=pures [9,10] (.alt 11 (pures [12] (.alt 13 (.done) .stop)) .stop)
abbrev Rv:=pures [0,1,2,3,4,5,6,7,8,9,10,11,12] (.alt 13 (.alt 14 (pures [15,16] .done) .stop) .stop)
abbrev Rw:=pures [0,1,2,3,4,5,6,7,8,9,10,11,12,13,14,15,16,17,18] .done
abbrev Rx:=pures [0,1,2,3,5,6] (.alt 4 (.alt 7 (pures [8,9] (.alt 10 (.done) .stop)) .stop) .stop)
abbrev Ry:=pures [0,1,2,3,4,5,6,7,8,9,10,11,12,13,14,15,16,17] (.alt 18 (.alt 19 (.done) .stop) .stop)
abbrev Rz:=pures [0,1,2,3,4,5,6,7,8,10,11] (.alt 9 (pures [12,13] (.alt 14 (.done) .stop)) .stop)
abbrev RA:=pures [0,2,3,4,5,6] (.alt 1 (.alt 7 (pures [8] (.alt 9 (.done) .stop)) .stop) .stop)
abbrev RB:=pures [0,1,2,3,4,5,6,8,9,10,11] (.alt 7 (.alt 12 (pures [13,14] .done) .stop) .stop)
abbrev RC:=pures [0,1,2,3,4,5,6,7,8,9,10,11] (.alt 12 (.alt 13 (pures [14] .done) .stop) .stop)
abbrev RD:=pures [0,1,2,3,4,5,6,7,8,9,10,11,12,13,14,15,16,17,18,19,20,21,22,23,24,25,26,27] .done
abbrev RE:=pures [0,1,2,3,4,5,6,7,8,9,10,11,12,13,14,15,16] .done
abbrev RF:=pures [9,10] (.alt 1 (.alt 11 (pures [12] (.alt 13 (.done) .stop)) .stop) .stop)
abbrev RG:=pures [0,2,3,4] (.alt 1 (.alt 5 (pures [6] (.alt 7 (.done) .stop)) .stop) .stop)
abbrev RH:=pures [9,10,11] (.alt 12 (.done) .stop)
abbrev RI:=pures [5,6] (.alt 1 (.alt 7 (pures [8] (.alt 9 (.done) .stop)) .stop) .stop)
abbrev RJ:=pures [0,1,2,3,4,5,6] .done
abbrev RK:=pures [24] (.alt 25 (pures [26] (.alt 27 (.done) .stop)) .stop)
abbrev RL:=pures [12] (.alt 13 (pures [14] (.alt 15 (.done) .stop)) .stop)
abbrev RM:=pures [5,6] (.alt 7 (pures [8] (.alt 9 (.done) .stop)) .stop)
abbrev RN:=pures [0,1,2,3,4,5,6,7,8,9,10,11,12] (.alt 13 (.done) .stop)
abbrev RO:=pures [0,1,2,3,4,5,6,7] (.alt 8 (pures [9] .done) .stop)
abbrev RP:=pures [6] .done
abbrev RQ:=pures [0,1,2,3,4,5,6,7,8,9,10,11,12,13,14,15,16,17] .done
abbrev RR:=pures [14] (.alt 15 (.done) .stop)
abbrev RS:=pures [0,1,2,3,4] .done
abbrev RT:=pures [0,1,2,3] (.alt 4 (pures [5] .done) .stop)
abbrev RU:=pures [0,1,2,3,4,5,6] (.alt 7 (.done) .stop)
abbrev RV:=pures [10,11] (.alt 12 (.done) .stop)
abbrev RW:=pures [12,13] (.alt 14 (.done) .stop)
abbrev RX:=pures [13,14] (.alt 15 (.done) .stop)
abbrev RY:=pures [8,9] (.alt 10 (.done) .stop)
abbrev RZ:=pures [26] (.alt 27 (.done) .stop)
abbrev U0:=pures [5,6] (.alt 7 (.done) .stop)
abbrev U1:=pures [6] (.alt 7 (.done) .stop)
abbrev U2:=pures [4] (.alt 5 (.done) .stop)
abbrev U3:=pures [14] .done
abbrev U4:=pures [9] .done
abbrev U5:=pures [0,1,2,3] .done
abbrev U6:=pures [13,14] .done
abbrev U7:=pures [15,16] .done
abbrev U9:=pures [5,6] .done
abbrev Ua:=pures [5] .done
abbrev Ub:=pures [8] .done
abbrev Uc:=pures [4] .done
def IH(c:Cust)(days:Int)(hc:CustOk c)(h0:0<=days)(h1:days<=63):PP 26 [.agg (yf c),I days] (.agg (yf (xG c days))):=by
 obtain⟨n,rfl⟩:=Az h0;have hs:=wP c.size 1 30 D9;refine c9 func26 λS nx t=>?_;intro v0 v1;refine ze (EJ ?_);by_cases e:c.kind.tmod 2=0;refine zo (by simp[e]) ?_;refine aG (some [nx]) Ra n' ?_;refine zK (Yu _ _ _ hc.H D9 D9 D9) n' ?_;refine zK (Yu _ _ _ hc.size D9 D9 D9) n' ?_;refine zK (Yu _ _ _ hc.X D9 D9 D9) n' ?_;refine zK (Yu _ _ _ hc.Y D9 D9 D9) n' ?_;intro a;refine EJ ?_;refine zu (Yu _ _ _ hc.Q D9 D9 D9) ?_;refine EJ ?_;refine z8 1 2 rfl rfl ?_;exact zj (zm t EB (by simp[xG,e]));refine zp (by simp[e]) ?_;refine zk (EJ ?_);refine zu (Yu _ _ _ hc.O D9 D9 D9) ?_;intro a;refine ze (qj 2 2 65 1 rfl rfl λv3=>?_);refine EJ ?_;have a0:=hc.npats;refine qg (nx:=nx) (σ:=Nat × Nat × Nat × Nat) (λ_=>True) (λ(v,v1,a,v3)=>[(4,.ptr (nx+1) v1 0),(6,.ptr (nx+2) a 0)]) (λ_=>S)
  (λ(v,v1,a,v3)=>[.cells v 59 (yf c),.cells v1 59 [I 0,I 0,.sc (.slice none 0 0),I 0,I 0,I 0,I 0,I 0],.cells a 59 [I 1,I (yS c.O 1 15),.sl (nx+3) v3 1 0 (c.D.take 4).length,I 0,I 0,I 0,I 0,I 0],.cells v3 65 (((c.D.take 4).map λp=>wA p n).flatMap Enc.enc)]) ?_ ?_
 refine zn (zF (λs:Nat × List Nat × Nat × Nat × Nat × Nat=>s.1<=c.D.length/\s.1<=4/\s.2.1=(c.D.take s.1).map λp=>wA p n) (λ(k,out,v,v1,a,v3)=>[(1,I n),(2,.ptr nx v 0),(4,.ptr (nx+1) v1 0),(6,.ptr (nx+2) a 0),(7,I k)])
  (λ(k,out,v,v1,a,v3)=>[.cells v 59 (yf c),.cells v1 59 [I 0,I 0,.sc (.slice none 0 0),I 0,I 0,I 0,I 0,I 0],.cells a 59 [I 1,I (yS c.O 1 15),.sl (nx+3) v3 1 0 out.length,I 0,I 0,I 0,I 0,I 0],.cells v3 65 (out.flatMap Enc.enc)])
  (λs=>4-s.1) (0,[],v0,v1,a,v3) [] EA EA EA ?_)
 rintro⟨k,out,v0,v1,a,v3⟩ ⟨u,w,ho⟩;simp only at u w ho ⊢;have a4:out.length=k:=by rw[ho];simp;omega
 have h:(k=c.D.length\/k=4)->out=(c.D.take 4).map λp=>wA p n:=by rintro(q|q);rw[ho,Ad D9,Ad D9];rw[ho,q]
 have f:(k=c.D.length\/k=4)->out.length=(c.D.take 4).length:=λq=>by rw[h q];simp
 by_cases b:k<c.D.length;by_cases m:(k:Int)<4;refine ze (aF [(5,43)] (zq b m) ?_);refine zo rfl ?_;obtain⟨p,tl,a1,a2,a3,e0⟩:=zH rfl c.D k b;have hp:=hc.D p (Ab a1);refine zk (aA (EJ ?_));refine ze (EJ ?_);refine zn (zF (λs:Nat × Nat × Nat × Nat × Nat=>s.1<=n) (λ(d,v,v1,a,v3)=>[(1,I n),(2,.ptr nx v 0),(4,.ptr (nx+1) v1 0),(6,.ptr (nx+2) a 0),(7,I k),(8,U (wA p d)),(9,I d)])
  (λ(d,v,v1,a,v3)=>[.cells v 59 (yf c),.cells v1 59 [I 0,I 0,.sc (.slice none 0 0),I 0,I 0,I 0,I 0,I 0],.cells a 59 [I 1,I (yS c.O 1 15),.sl (nx+3) v3 1 0 out.length,I 0,I 0,I 0,I 0,I 0],.cells v3 65 (out.flatMap Enc.enc)])
  (λs=>n-s.1) (0,v0,v1,a,v3) [] EA (by simp[wA]) EA ?_)
 rintro⟨d,v0,v1,a,v3⟩ x;simp only at x ⊢;refine ze (EJ ?_);refine zA rfl (λi=>?_) (λi=>?_);simp at i;refine zk (aA (aF [] (zq b e0) ?_));refine zu (IG p d hp D9 D9) ?_;refine zA rfl (λhb=>?_) (λhb=>?_);simp at hb;refine zg ?_;refine zu (ng _ d (cD p d) D9 D9) ?_;refine zg ?_;exact zv (d+1,v0,v1,a,v3) [] ED ED (by simp[zy d D9,wA,hb,(fR _ _).1]) rfl EA;simp at hb;refine zk (zg ?_);exact zv (d+1,v0,v1,a,v3) [] ED ED (by simp[zy d D9,wA,hb]) rfl EA;simp at i;have y:d=n:=D9;subst y;refine zB (zg ?_);refine⟨by omega,?_⟩;refine zg ?_;exact zv (k+1,out++[wA p d],v0,v1,a,v3+1) [] (by simp[nh _ a3,ho];omega) ED (by simp[zy k D9]) rfl EA;refine ze (aF [(5,43)] (zq b m) ?_);refine zp rfl ?_;have e:=h (.inr D9);have j:=f (.inr D9);exact zB (zY (v0,v1,a,v3) [] n' EA rfl (by simp only[j];rw[<-e];simp));refine ze (aF [(5,43)] (zq b zz) ?_);refine zp rfl ?_;have e:=h (.inl D9);have j:=f (.inl D9);exact zB (zY (v0,v1,a,v3) [] n' EA rfl (by simp only[j];rw[<-e];simp));rintro⟨v0,v1,a,v3⟩ -;simp only;by_cases r:c.D=[];have z:xG c n=⟨1,yS c.O 1 15,[1],0,0,0,0,0⟩:=by simp[xG,e,Yv,r]
 rw[z,r];refine ze (EJ ?_);refine zo rfl (zg ?_);refine EJ ?_;refine yc 3 rfl ?_;exact EK t;have z:xG c n=⟨1,yS c.O 1 15,(c.D.take 4).map λp=>wA p n,0,0,0,0,0⟩:=by simp[xG,e,Yv,r]
 have g:((c.D.take 4).map λp=>wA p n).length=(c.D.take 4).length:=EA;have l:¬(c.D.take 4).length=0:=by simp[r]
 rw[z,<-g];rw[<-g]at l;generalize (c.D.take 4).map (λp=>wA p n)=out at *;have o:out≠[]:=by simpa using l
 refine ze (aF [] (zq l o) ?_);refine zp rfl (zk (EJ ?_));refine yc 3 rfl ?_;exact EK t
def arc(x:Inst)(a b:Int):Int:=if a<0\/b<0 then 0 else ((x.J.getD a.toNat []).getD b.toNat 0)
def cE(x:Inst)(a b:Int)(h:a<0\/b<0):arc x a b=0:=if_pos h
def ni(x:Inst)(a b:Int)(h:(x.J.length:Int)<=a):arc x a b=0:=by
 unfold arc;split;rfl;have:x.J.getD a.toNat []=[]:=by rw[Aa,An D9];rfl
 rw[this];rfl
variable {x:Inst}{a:Int}{row:List Int}
def nj(b:x.J[a.toNat]?=some row):x.J.getD a.toNat []=row:=by rw[Aa,b];rfl
def nk(x:Inst)(a b:Int)(c:x.J[a.toNat]?=some row)(h:(row.length:Int)<=b):arc x a b=0:=by unfold arc;split;rfl;rw[nj c,Aa,An D9];rfl
def nm(x:Inst)(a b:Int){d:Int}(e:0<=a)(hb:0<=b)(c:x.J[a.toNat]?=some row)(h:row[b.toNat]?=some d):arc x a b=d:=by unfold arc;rw[if_neg D9,nj c,Aa,h];rfl
def cF(x:Inst)(a b:Int):PP 27 [.agg (zE x),I a,I b] (I (arc x a b)):=by refine c9 func27 λS nx c=>?_;intros;by_cases e:a<0;refine ze (aF [(2,10),(6,14)] (zq e zz) ?_);refine zo rfl (EJ ?_);exact zj (zm c rfl (by rw[cE _ _ _ (.inl e)];rfl));by_cases hb:b<0;refine ze (aF [(2,10),(6,14)] (zD e hb zz) ?_);refine zo rfl (EJ ?_);exact zj (zm c rfl (by rw[cE _ _ _ (.inr hb)];rfl));by_cases hl:(x.J.length:Int)<=a;refine ze (aF [(2,10),(6,14)] (zD e hb hl) ?_);refine zo rfl (EJ ?_);exact zj (zm c rfl (by rw[ni _ _ _ hl];rfl));have h:a<x.J.length:=D9;have f:0<=a:=D9;obtain⟨row,tl,k,_,_,l⟩:=zH rfl x.J a.toNat D9;refine ze (aF [(2,10),(6,14)] (zD e hb hl) ?_);refine zp rfl (zk (aF [(2,10),(6,14)] (zD f h l) ?_));by_cases i:(row.length:Int)<=b;refine ze (aF [] i ?_);refine zo rfl (EJ ?_);exact zj (zm c rfl (by rw[nk _ _ _ k i];rfl));have j:b<row.length:=D9;have g:0<=b:=D9;obtain⟨d,m,b1,_,_,n⟩:=zH rfl row b.toNat D9;refine ze (aF [] i ?_);refine zp rfl (zk (aF [] (zD g j n) ?_));exact zj (zm c rfl (by rw[nm x a b f g k b1];rfl))
def ul(x:Inst)(a b:Int):PP 215 [.agg (zE x),I a,I b] (I (arc x a b)):=by refine c9 func215 λS nx g=>?_;intros;by_cases f:a<0;refine ze (aF [(2,9),(9,16),(13,20)] (zq f zz) ?_);refine zo rfl (EJ ?_);exact zj (zm g rfl (by rw[cE _ _ _ (.inl f)];rfl));by_cases hl:(x.J.length:Int)<=a;refine ze (aF [(2,9),(9,16),(13,20)] (zD f hl zz) ?_);refine zo rfl (EJ ?_);exact zj (zm g rfl (by rw[ni _ _ _ hl];rfl));by_cases hb:b<0;refine ze (aF [(2,9),(9,16),(13,20)] (zM f hb hl zz) ?_);refine zo rfl (EJ ?_);exact zj (zm g rfl (by rw[cE _ _ _ (.inr hb)];rfl));have e:a<x.J.length:=D9;have c:0<=a:=D9;obtain⟨row,tl,l,_,_,i⟩:=zH rfl x.J a.toNat D9;by_cases j:(row.length:Int)<=b;refine ze (aF [(2,9),(9,16),(13,20)] (zN f hb hl c e (zq i j)) ?_);refine zo rfl (EJ ?_);exact zj (zm g rfl (by rw[nk _ _ _ l j];rfl));have k:b<row.length:=D9;have h:0<=b:=D9;obtain⟨d,m,b1,_,_,n⟩:=zH rfl row b.toNat D9;refine ze (aF [(2,9),(9,16),(13,20)] (zN f hb hl c e (zq i j)) ?_);refine zp rfl (zk (aF [(2,9),(9,16),(13,20)] (zN c e i h k n) ?_));exact zj (zm g rfl (by rw[nm x a b c h l b1];rfl))
def xR(x:Inst):Int->List Int->Int
 |a,[]=>arc x a 0
 |a,c::l=>arc x a (c+1)+xR x (c+1) l
def yT(x:Inst)(l:List Int):Int:=if l=[] then 0 else xR x 0 l
def qz(c:Int):Prop:=-4611686018427387904<=c/\c<=4611686018427387904
def Yw{c:Int}(h:qz c):i64.wrap (c+1)=c+1:=wr _ (by unfold qz at h;omega) (by unfold qz at h;omega)
def nn(x:Inst)(l:List Int)(hl:l.length<=1048576)(hs:∀c∈l,qz c):PP 163 [.agg (zE x),L l] (I (W (yT x l))):=by
 refine c9 func163 λS nx e=>?_;intro v0;refine ze (EJ ?_);refine zA rfl (λhc=>?_) (λhc=>?_);simp at hc;subst hc;refine EJ ?_;exact zj (zm e rfl rfl);refine zk ?_;simp at hc;refine EJ ?_;refine ze (EJ ?_);refine zn (zF (λs:Nat × Int × Int × Nat=>s.1<=l.length/\s.2.1+xR x s.2.2.1 (l.drop s.1)=xR x 0 l) (λ(k,s,a,v)=>[(2,.ptr nx v 0),(5,I (W s)),(6,I a),(12,L l),(13,I l.length),(14,I k)])
  (λ(k,s,a,v)=>[.cells v 25 (zE x)]) (λs=>l.length-s.1) (0,0,0,v0) [] EA EA EA ?_)
 rintro⟨k,s,a,v⟩ ⟨f,ho⟩;simp only at f ho ⊢;refine EJ ?_;refine ze (zA rfl (λb=>?_) (λb=>?_));simp at b;obtain⟨c,tl,g,h,a3,i⟩:=zH rfl l k b;have d:=Yw (hs c (Ab g));rw[h]at ho;refine zk (aA (aF [] (zq b i) ?_));refine aF [] d ?_;refine yK [] (ul _ _ _) d ?_;refine zi [] d ?_;refine zg ?_;exact zv (k+1,s+arc x a (c+1),c+1,v) [] (by simp only[xR]at ho;exact⟨by omega,by rw[<-ho];simp;omega⟩) ED (by simp[zy k D9,uk,d]) rfl EA;simp at b;refine zB (EJ ?_);refine zu (ul _ _ _) ?_;rw[AS b]at ho;exact zj (zm e rfl (by simp only[yT,if_neg hc,<-ho,xR,zr];simp[uk]))
def np(x:Inst)(l:List Int)(hl:l.length<=1048576)(hs:∀c∈l,qz c):PP 88 [.agg (zE x),L l] (I (W (yT x l))):=by
 refine c9 func88 λS nx t=>?_;intro v0;refine ze (EJ ?_);refine zA rfl (λhc=>?_) (λhc=>?_);simp at hc;subst hc;refine EJ ?_;exact zj (zm t rfl rfl);refine zk ?_;simp at hc;cases l with
 |nil=>exact absurd rfl hc
 |cons c0 a =>
 have b:=Yw (hs c0 EA);obtain⟨cl,tl,m,a2,a3,i⟩:=zH rfl (c0::a) a.length EA;simp only[AB,HF,Cy,cons_append,AK]at i;have d:(a.length:Int)<a.length+1:=D9;have e:=Yw (hs cl (Ab m));have wl:i64.wrap (a.length:Int)=(a.length:Int):=wr _ D9 (by simp at hl;omega);refine aG none RE (yp b wl i e d) ?_;refine zK (cF _ _ _) (yp b wl i e d) ?_;refine zK (cF _ _ _) (yp b wl i e d) ?_;refine ze (EJ ?_);generalize f:c0::a=l at *;have u:l.length=a.length+1:=by rw[<-f];rfl
 have y:(PV.lst (a.length+1) (I c0::a.flatMap Enc.enc))=L l:=by rw[<-f];rfl
 refine zn (zF (λs:Nat × Int × Int × Nat=>s.1+1<=l.length/\l[s.1]?=some s.2.2.1/\s.2.1+xR x (s.2.2.1+1) (l.drop (s.1+1))=xR x 0 l+arc x (cl+1) 0) (λ(j,s,p,v)=>[(1,L l),(2,.ptr nx v 0),(5,I (W s)),(6,I ((j+1:Nat):Int))])
  (λ(j,s,p,v)=>[.cells v 25 (zE x)]) (λs=>l.length-s.1) (0,arc x 0 (c0+1)+arc x (cl+1) 0,c0,v0) [] (by rw[<-f];simp[xR];omega) (by simp[y]) EA ?_)
 rintro⟨j,s,p,v⟩ ⟨z,k,ho⟩;simp only at z ho k ⊢;refine ze (EJ ?_);refine zA rfl (λn=>?_) (λn=>?_);simp at n;have o:j+1<l.length:=D9;obtain⟨c,a0,b1,b2,b3,e1⟩:=zH rfl l (j+1) o;obtain⟨p',a4,w,d2,d3,e2⟩:=zH rfl l j D9;rw[k]at w;cases w;have g:=Yw (hs c (Ab b1));have h:=Yw (hs p (Ab k));have wj:i64.wrap (j:Int)=j:=wr _ D9 D9;have g1:(j:Int)<l.length:=D9;have g2:(j:Int)+1<l.length:=D9;have g3:0<=(j:Int)+1:=D9;rw[b2]at ho;refine zk (aA (zC none R3 (zN g h wj e1 e2 (zD g1 g2 g3)) ?_));refine zK (cF _ _ _) (zq g h) ?_;have w2:i64.wrap ((j:Int)+1+1)=((j+1+1:Nat):Int):=by rw[wr _ D9 D9];omega
 refine zg ?_;exact zv (j+1,s+arc x (p+1) (c+1),c,v) [] (by simp only[xR]at ho;exact⟨by omega,b1,by rw[<-ho];simp;omega⟩) ED (by simp[w2,uk]) rfl EA;simp at n;refine zB (EJ ?_);rw[AS D9]at ho;have q:p=cl:=by have:j=a.length:=D9;subst this;rw[k]at m;cases m;rfl
 subst q;have r:s=xR x 0 l:=by simp only[xR]at ho;omega
 exact zj (zm t rfl (by simp[yT,hc,r]))
def Zj(x:Inst)(n a:Nat):List Int:=(range (n+1)).map λb=>if a≠b then yS (arc x a b) 0 60 else 0
def yW(x:Inst):Inst :=
 ⟨yS x.days 1 7,yS x.U 0 5,yS x.R 0 40,yS x.len 0 300,(x.y.take 6).map λc=>xG c (yS x.days 1 7),(range ((x.y.take 6).length+1)).map λa=>Zj x (x.y.take 6).length a⟩
structure InstOk (x:Inst):Prop where
 days:zU x.days
 U:zU x.U
 R:zU x.R
 len:zU x.len
 ah:x.y.length<=9223372036854775807
 y:∀c∈x.y,CustOk c
 ndist:x.J.length<=9223372036854775807
 J:∀r∈x.J,r.length<=9223372036854775807/\∀d∈r,zU d
def II(hx:InstOk x)(a b:Int):zU (arc x a b):=by
 unfold arc;split;unfold zU;omega;rw[Aa,Aa];cases e:x.J[a.toNat]? with
 |none=>simp[zU]
 |some r =>
 cases c:r[b.toNat]? with
 |none=>simp[c,zU]
 |some d =>
 simp only[Option.getD_some,c];exact(hx.J r (Ab e)).2 d (Ab c)
def wZ(x:Inst)(n a k:Nat):List Int:=(range (n+1)).map λb=>if b<k then (if a≠b then yS (arc x a b) 0 60 else 0) else 0
def nq(x:Inst)(n a k:Nat):(wZ x n a k).length=n+1:=by simp[wZ]
def IJ(x:Inst)(n a:Nat):wZ x n a 0=replicate (n+1) 0:=by apply A8;simp[wZ];intro i h1 h2;simp only[DT];simp[wZ]
def nr(x:Inst)(n a:Nat):wZ x n a (n+1)=Zj x n a:=by apply A8;simp[wZ,Zj];intro i h1 h2;simp[wZ]at h1;simp[wZ,Zj,h1]
def IK(x:Inst)(n a k:Nat)(h:k<=n)(b:a≠k):(wZ x n a k).set k (yS (arc x a k) 0 60)=wZ x n a (k+1):=by apply A8;simp[wZ];intro i h1 h2;rw[CJ];simp only[wZ,Cj,Cn];split;rename_i e;subst e;simp[b];rename_i e;by_cases q:i<k;simp[q,show i<k+1 by omega];simp[q,show ¬i<k+1 by omega]
def IL(x:Inst)(n k:Nat):wZ x n k k=wZ x n k (k+1):=by apply A8;simp[wZ];intro i h1 h2;simp only[wZ,Cj,Cn];by_cases q:i<k;simp[q,show i<k+1 by omega];by_cases e:i=k;subst e;simp;simp[q,show ¬i<k+1 by omega]
abbrev cG(x:Inst)(v0 v1 v2:Nat)(cs ds:PV):List Ob :=
 [.cells v0 25 (zE x),.cells v1 25 [I 0,I 0,I 0,I 0,.sc (.slice none 0 0),.sc (.slice none 0 0)],.cells v2 25 [I (yS x.days 1 7),I (yS x.U 0 5),I (yS x.R 0 40),I (yS x.len 0 300),cs,ds]]
def IM(x:Inst)(hx:InstOk x):PP 5 [.agg (zE x)] (.agg (zE (yW x))):=by
 have a4:=wP x.days 1 7 D9;have a5:=hx.ah;refine c9 func5 λS nx hd=>?_;intro v0 v1;refine aG (some [nx]) Ra n' ?_;refine zK (Yu _ _ _ hx.days D9 D9 D9) n' ?_;refine zK (Yu _ _ _ hx.U D9 D9 D9) n' ?_;refine zK (Yu _ _ _ hx.R D9 D9 D9) n' ?_;refine zK (Yu _ _ _ hx.len D9 D9 D9) n' ?_;intro d;refine ze (qj 2 4 59 8 rfl rfl λv3=>?_);refine EJ ?_;have m:yS x.days 1 7<=63:=D9;generalize e:yS x.days 1 7=dz at *;refine qg (nx:=nx) (σ:=Nat × Nat × Nat × Nat) (λ_=>True) (λ(v0,v1,d,v3)=>[(1,.ptr nx v0 0),(2,.ptr (nx+1) v1 0),(3,.ptr (nx+2) d 0)]) (λ_=>S)
  (λ(v0,v1,d,v3)=>cG x v0 v1 d (.sl (nx+3) v3 8 0 ((x.y.take 6).map λc=>xG c dz).length) (.sc (.slice none 0 0))++[.cells v3 59 (((x.y.take 6).map λc=>xG c dz).flatMap Enc.enc)]) ?_ ?_
 .repeat apply ze
  refine zn (zF (λs:Nat × List Cust × Nat × Nat × Nat × Nat=>s.1<=x.y.length/\s.1<=6/\s.2.1=(x.y.take s.1).map λc=>xG c dz) (λ(k,out,v0,v1,d,v3)=>[(1,.ptr nx v0 0),(2,.ptr (nx+1) v1 0),(3,.ptr (nx+2) d 0),(4,I k)])
   (λ(k,out,v0,v1,d,v3)=>cG x v0 v1 d (.sl (nx+3) v3 8 0 out.length) (.sc (.slice none 0 0))++[.cells v3 59 (out.flatMap Enc.enc)]) (λs=>6-s.1) (0,[],v0,v1,d,v3) [] EA EA (by simp[e]) ?_)
  rintro⟨k,out,v0,v1,d,v3⟩ ⟨n,o,ho⟩;simp only at n o ho ⊢;have p:out.length=k:=by rw[ho];simp;omega
  have i:(k=x.y.length\/k=6)->out=(x.y.take 6).map λc=>xG c dz:=by rintro(q|q);rw[ho,Ad D9,Ad D9];rw[ho,q]
  by_cases f:k<x.y.length
  .by_cases j:(k:Int)<6
   .repeat apply ze
    refine zi [(5,27)] (zq f j) ?_;refine zo rfl ?_;obtain⟨c,tl,a1,a2,a3,e1,e0⟩:=el 8 rfl x.y k f;have hc:=hx.y c (Ab a1);refine zk (aA (zC (some [nx]) (pures [0,2,3,4,5,6,7] (.alt 1 (.alt 8 Ru .stop) (.alt 8 RF .stop))) (zD f e0 e) ?_));have w1:=zy k D9;refine⟨?_,?_⟩;all_goals
     refine zK (IH c dz hc D9 m) n' ?_;refine⟨by omega,?_⟩;refine zg ?_;exact zv (k+1,out++[xG c dz],v0,v1,d,v3+1) [] (by simp[nh _ a3,ho];omega) ED (by simp[w1]) rfl (by simp[e])
   refine ze (aF [(5,27)] (zq f j) ?_);refine zp rfl ?_;have r:=i (.inr D9);exact zB (zY (v0,v1,d,v3) [] n' EA rfl (by simp only[<-r];simp))
  refine ze (aF [(5,27)] (zq f zz) ?_);refine zp rfl ?_;have r:=i (.inl D9);exact zB (zY (v0,v1,d,v3) [] n' EA rfl (by simp only[<-r];simp))
 rintro⟨v0,v1,d,v3⟩ -;simp only;have hg:yW x=⟨dz,yS x.U 0 5,yS x.R 0 40,yS x.len 0 300,(x.y.take 6).map λc=>xG c dz,(range ((x.y.take 6).length+1)).map λa=>Zj x (x.y.take 6).length a⟩:=by unfold yW;rw[e]
 have t:((x.y.take 6).map λc=>xG c dz).length=(x.y.take 6).length:=EA;have u:(x.y.take 6).length<=6:=ED;rw[hg];rw[<-t]at u ⊢;generalize (x.y.take 6).map (λc=>xG c dz)=cs at *;refine EJ ?_;refine ze (qj 2 5 26 1 rfl rfl λv4=>?_);refine EJ ?_;have w0:i64.wrap ((cs.length:Int)+1)=((cs.length+1:Nat):Int):=zy _ D9;refine zn (zF (λs:Nat × List (List Int) × Nat × Nat × Nat × Nat × Nat=>s.1<=cs.length+1/\s.2.1=(range s.1).map λa=>Zj x cs.length a) (λ(a,out,v0,v1,d,v3,v4)=>[(1,.ptr nx v0 0),(2,.ptr (nx+1) v1 0),(3,.ptr (nx+2) d 0),(5,I cs.length),(6,I a)])
  (λ(a,out,v0,v1,d,v3,v4)=>cG x v0 v1 d (.sl (nx+3) v3 8 0 cs.length) (.sl (nx+4) v4 1 0 out.length)++[.cells v3 59 (cs.flatMap Enc.enc),.cells v4 26 (out.flatMap Enc.enc)]) (λs=>cs.length+1-s.1) (0,[],v0,v1,d,v3,v4) [] EA EA (by simp[e]) ?_)
 rintro⟨a,out,v0,v1,d,v3,v4⟩ ⟨ha,ho⟩;simp only at ha ho ⊢;have p:out.length=a:=by rw[ho];simp
 refine ze (EJ ?_);refine zA rfl (λhc=>?_) (λhc=>?_);simp at hc;refine zk (aA (aF [] w0 ?_));refine⟨by omega,λv5=>?_⟩;refine ze (EJ ?_);refine zn (zF (λs:Nat × Nat × Nat × Nat × Nat × Nat × Nat=>s.1<=cs.length+1) (λ(b,v0,v1,d,v3,v4,v5)=>[(1,.ptr nx v0 0),(2,.ptr (nx+1) v1 0),(3,.ptr (nx+2) d 0),(5,I cs.length),(6,I a),(7,.sl (nx+5) v5 1 0 (cs.length+1)),(8,I b)])
  (λ(b,v0,v1,d,v3,v4,v5)=>cG x v0 v1 d (.sl (nx+3) v3 8 0 cs.length) (.sl (nx+4) v4 1 0 out.length)++[.cells v3 59 (cs.flatMap Enc.enc),.cells v4 26 (out.flatMap Enc.enc),.cells v5 3 ((wZ x cs.length a b).flatMap Enc.enc)]) (λs=>cs.length+1-s.1) (0,v0,v1,d,v3,v4,v5) [] EA EA (by simp[e,IJ,fM]) ?_)
 rintro⟨b,v0,v1,d,v3,v4,v5⟩ hb;simp only at hb ⊢;refine ze (EJ ?_);refine zA rfl (λh=>?_) (λh=>?_);simp at h;have g:=nq x cs.length a b;have v:=cC (wZ x cs.length a b) b (yS (arc x a b) 0 60) D9;have g1:(b:Int)<cs.length+1:=D9;refine zk (aA (EJ ?_));by_cases l:a=b;subst l;refine aC (zg ?_);exact zv (a+1,v0,v1,d,v3,v4,v5) [] ED ED (by simp[zy a D9]) rfl (by simp[e,IL]);have a0:((a:Int) != b)=true:=ED;refine zo ED ?_;refine zg ?_;refine zu (cF x a b) ?_;refine yK [] (Yu _ _ _ (II hx _ _) D9 D9 D9) (zD g1 v g) ?_;refine⟨by omega,?_⟩;refine zg ?_;exact zv (b+1,v0,v1,d,v3,v4,v5) [] ED ED (by simp[zy b D9]) rfl (by simp[e,IK x _ _ _ (show b<=cs.length by omega) l]);simp at h;have w:b=cs.length+1:=D9;subst w;refine zB ?_;have g:=nq x cs.length a (cs.length+1);refine yc 5 rfl ?_;refine zi [] g ?_;refine⟨by omega,?_⟩;refine zg ?_;have y:(Zj x cs.length a).length=cs.length+1:=by rw[<-nr,g]
 exact zv (a+1,out++[Zj x cs.length a],v0,v1,d,v3,v4+1) [.dead] (by simp[AO,ho];omega) ED (by simp[zy a D9]) rfl (by simp[e,nr,y]);simp at hc;have z:a=cs.length+1:=D9;subst z;refine zB (EJ ?_);refine yc 3 rfl ?_;refine yc 4 rfl ?_;exact zj (zm hd EB (by simp[ho,e]))
def IN(w:World):Zi prog w 59 Cust CustOk:=by
 intro H enc a cs x h;obtain⟨hl,n,hf⟩:=mU underlying59 h;simp only[show prog.cellsOf 59=8 from EC]at hl
 match cs,hl with
 |[v0,v1,g,v3,v4,v5,i,j],_ =>
 obtain⟨s,h0⟩:=hf 0 _ rfl;obtain⟨t,h1⟩:=hf 1 _ rfl;obtain⟨u,h2⟩:=hf 2 _ rfl;obtain⟨v,h3⟩:=hf 3 _ rfl;obtain⟨y,b⟩:=hf 4 _ rfl;obtain⟨z,c⟩:=hf 5 _ rfl;obtain⟨y6,d⟩:=hf 6 _ rfl;obtain⟨y7,e⟩:=hf 7 _ rfl;simp at h0 h1 h2 h3 b c d e;obtain⟨z0,k0,r0⟩:=uH underlying3 H enc n _ _ h0;obtain⟨z1,k1,r1⟩:=uH underlying3 H enc n _ _ h1;obtain⟨z2,f,r2⟩:=VV (α:=Nat) underlying57 EB EG (HY underlying65) H enc n _ _ h2;obtain⟨z3,k,r3⟩:=uH underlying3 H enc n _ _ h3;obtain⟨z4,l,r4⟩:=uH underlying3 H enc n _ _ b;obtain⟨z5,m,r5⟩:=uH underlying3 H enc n _ _ c;obtain⟨z6,o,p⟩:=uH underlying3 H enc n _ _ d;obtain⟨z7,q,r⟩:=uH underlying3 H enc n _ _ e;exact⟨⟨z0,z1,z2,z3,z4,z5,z6,z7⟩,⟨k0,k1,f.2,f.1,k,l,m,o,q⟩,
  Yb (vs:=[v0]) r0 (Yb (vs:=[v1]) r1 (Yb (vs:=[g]) r2 (Yb (vs:=[v3]) r3 (Yb (vs:=[v4]) r4 (Yb (vs:=[v5]) r5 (Yb (vs:=[i]) (us:=[j]) p r))))))⟩
instance:Enc Inst:=⟨zE,6,λ_=>rfl,λ_=>rfl⟩
def IP(w:World):Zi prog w 25 Inst InstOk:=by
 intro H enc a cs x h;obtain⟨hl,n,hf⟩:=mU underlying25 h;simp only[show prog.cellsOf 25=6 from EC]at hl
 match cs,hl with
 |[v0,v1,f,v3,v4,v5],_ =>
 obtain⟨j,h0⟩:=hf 0 _ rfl;obtain⟨k,h1⟩:=hf 1 _ rfl;obtain⟨l,h2⟩:=hf 2 _ rfl;obtain⟨m,h3⟩:=hf 3 _ rfl;obtain⟨o,b⟩:=hf 4 _ rfl;obtain⟨p,c⟩:=hf 5 _ rfl;simp at h0 h1 h2 h3 b c;obtain⟨z0,k0,r0⟩:=uH underlying3 H enc n _ _ h0;obtain⟨z1,k1,r1⟩:=uH underlying3 H enc n _ _ h1;obtain⟨z2,g,r2⟩:=uH underlying3 H enc n _ _ h2;obtain⟨z3,i,r3⟩:=uH underlying3 H enc n _ _ h3;obtain⟨z4,d,r4⟩:=VV (α:=Cust) underlying22 EB EG (IN w) H enc n _ _ b;obtain⟨z5,e,r5⟩:=VV (α:=List Int) underlying23 EB EG (VV (α:=Int) underlying26 EB EG (uH underlying3)) H enc n _ _ c;exact⟨⟨z0,z1,z2,z3,z4,z5⟩,⟨k0,k1,g,i,d.1,d.2,e.1,e.2⟩,
  Yb (vs:=[v0]) r0 (Yb (vs:=[v1]) r1 (Yb (vs:=[f]) r2 (Yb (vs:=[v3]) r3 (Yb (vs:=[v4]) (us:=[v5]) r4 r5))))⟩
def IQ(w:World):Zi prog w 26 (List Int) (λl=>l.length<=9223372036854775807/\∀z∈l,zU z):=VV underlying26 EB EG (uH underlying3)
abbrev qv(l:List Int):List Int:=l.mergeSort λx y=>decide (x<=y)
def Jx(l:List Int):(qv l).length=l.length:=List.length_mergeSort l
def cH(l:List Int):l.flatMap Enc.enc=l.map I:=by induction l<;>simp_all
def WA(S:Store)(o:Nat)(x:Ob)(h:S o=x):S.set o x=S:=by funext i;simp only[Store.set];split;rename_i e;rw[e,h];rfl
variable {S:Store}
def Xs{C:Ctx}{w:World}{x:Int}{v:Value}(h:Rel C S w (I x) v):v=.int .i64 x:=by cases h;rfl
variable {vs:Array Value}
def fS(h:1=vs.size):∃v,vs=#[v]:=by
 match vs,h with
 |⟨[v]⟩,_=>exact⟨v,rfl⟩
def cI{id ver:Nat}(zs:List Int)(hid:S id=.cells ver 3 (zs.flatMap Enc.enc))(hn:zs.length<=1048576):
  SP 157 [.sl id ver 1 0 zs.length] S (λp S'=>S'=S.set id (.cells ver 3 ((qv zs).flatMap Enc.enc))):=by
 refine⟨qN func157 EF rfl,?_⟩;intro C w vs s hl y;obtain⟨v,rfl⟩:=fS hl;have hv:=y 0 _ v rfl rfl;cases hv with
 |sl h1 h2 h3 =>
 obtain⟨a,cap,rfl,q1,q2,q3,q4⟩:=h1;by_cases h0:zs=[];subst h0;refine(slices_Sort_int_none a cap w).mono ?_;rintro e w' ⟨rfl,rfl⟩;exact⟨.junk,_,S,C,rfl,by rw[show qv []=[] from by simp[qv]];exact(WA S id _ hid).symm,.junk _,s,.refl _ _ _⟩;have x:0<zs.length:=Bt.2 h0;obtain⟨a0,f⟩|⟨b,k,c,g1,t,g3,g4,g5,g6⟩:=s.cells id ver _ _ hid;rw[cH]at f;simp at f;exact absurd f h0;have ha:a=some ⟨b,0,none⟩:=by
  rcases (h3 ver (by rw[hid];rfl)).2 rfl with ⟨z1,_⟩|⟨b',k',a',cap',z1,z2,z3,z4⟩
  rw[g1]at z1;cases z1;rw[g1]at z1;cases z1;cases z2;exact(z3 rfl).1
 subst ha;rw[jV]at g4;have g:∀i,i<zs.length->c[i]?=some (.int .i64 (zs.getD i 0)):=by
  intro i hi;have a1:i<c.size:=D9;have e1:(zs.flatMap Enc.enc)[i]?=some (I (zs.getD i 0)):=by rw[cH];simp[hi]
  have e2:c[i]?=some c[i]:=EA;have:=Xs (g6 i _ _ e1 e2);rw[e2,this]
 have j:c.toList.take zs.length=zs.map (Value.int .i64):=by apply A3;intro i;by_cases hi:i<zs.length;rw[AP hi,Array.getElem?_toList,g i hi];simp[hi];rw[An ED,An ED]
 refine(slices_Sort_int b 0 cap zs w (holds_of_blockI t j) (jh t) D9).mono ?_;rintro e w' ⟨rfl,n,os,rfl⟩;have u:=heap_sortedI (n:=n) (os:=os) (qv zs).toArray t;have m:=Jx zs;have q:∀i,(Sort.putCells (Value.int .i64) 0 (qv zs).toArray c)[i]?=if i<zs.length then some (.int .i64 ((qv zs).getD i 0)) else c[i]?:=by intro i;by_cases hi:i<zs.length;rw[if_pos hi];have:i<c.size:=D9;have d:i<(qv zs).length:=D9;simp[Sort.putCells,d,this];intro h;omega;rw[if_neg hi];by_cases hc:i<c.size;have d:¬i<(qv zs).length:=D9;simp[Sort.putCells,d,hc];intro h;omega;rw[DU (by simp[Sort.putCells];omega),DU D9]
 obtain⟨t1,t2⟩:=s.turn (l:=C.loc id) (ver':=ver) (cs':=(qv zs).flatMap Enc.enc) hid (Ag _) (λ_=>rfl) (by rw[g1];exact⟨grownBy_sortedI (n:=n) (os:=os) (qv zs).toArray,De _ _⟩)
  (.inr ⟨b,k,_,g1,.inr (by rw[g1];rfl),u,by simp[Sort.putCells,g3],by rw[jV,m];exact g4,λi z hi o=>by
    rw[q]at o;rw[jV,m]at hi;rw[if_pos hi]at o;cases o;rfl,
   λi p z r o=>by
    rw[q]at o;have hi:i<zs.length:=by have:=(Af.1 r).1;rw[jV,m]at this;exact this
    rw[if_pos hi]at o;cases o;rw[cH,Ai]at r;have d:i<(qv zs).length:=D9;rw[Ac d]at r;cases r;rw[Aa,Ac d];exact .sc _⟩)
 exact⟨.junk,_,_,_,rfl,rfl,.junk _,t1,t2⟩
def yG(l:List Stop):List Value:=l.flatMap λs=>[.int .i64 s.c,.int .i64 s.q]
def nt(l:List Stop):l.flatMap Enc.enc=(yG l).map PV.sc:=by unfold yG;induction l<;>simp_all
theorem WB(l:List Stop):(yG l).length=l.length*2:=by unfold yG;induction l<;>grind
def fT(l m:List Stop):yG (l++m)=yG l++yG m:=by simp[yG]
def nu(l:List Stop)(i:Nat)(h:i<=l.length):(yG l).take (i*2)=yG (l.take i):=by grind[take_append_drop,yG,WB]
def nv(l:List Stop)(i:Nat)(h:i<=l.length):(yG l).drop (i*2)=yG (l.drop i):=by
 conv=>lhs;rw[<-take_append_drop i l,fT]
 grind[WB]
def WC(l:List Stop):∀v∈yG l,v.oneCell'=true:=by intro v hv;obtain⟨s,_,hs⟩:=Bz.1 hv;simp at hs;obtain rfl|rfl:=hs<;>rfl
variable {V:List Value}{i n:Nat}
def IR{vs cur:List Value}(hi:i<n)(a:V.length=n*2)(hv:vs.length=2)(hc:cur.take (n*2)=V)(hl:n*2+2<=cur.length):
  ((cur.take ((i+1)*2)++V.drop (i*2)++cur.drop ((i+1)*2+(V.drop (i*2)).length)).take (i*2)++vs++(cur.take ((i+1)*2)++V.drop (i*2)++cur.drop ((i+1)*2+(V.drop (i*2)).length)).drop (i*2+2)) =
   V.take (i*2)++vs++V.drop (i*2)++cur.drop ((i+1)*2+(V.drop (i*2)).length):=by
 have h1:(cur.take ((i+1)*2)).length=i*2+2:=ED;have h2:(cur.take ((i+1)*2)++V.drop (i*2)++cur.drop ((i+1)*2+(V.drop (i*2)).length)).take (i*2)=V.take (i*2):=by rw[append_assoc,BF D9,Dy,Bm D9,<-hc,Dy,Bm D9]
 simp_all
def IS{vs ROW:List Value}(hi:i<n)(a:V.length=n*2)(hv:vs.length=2)(hc:ROW.take (i*2)=V.take (i*2)):
  ((ROW.take (i*2)++vs++ROW.drop (i*2+2)).take ((i+1)*2)++V.drop (i*2)++(ROW.take (i*2)++vs++ROW.drop (i*2+2)).drop ((i+1)*2+(V.drop (i*2)).length)) =
   V.take (i*2)++vs++V.drop (i*2)++(ROW.take (i*2)++vs++ROW.drop (i*2+2)).drop ((i+1)*2+(V.drop (i*2)).length):=by
 have h1:(ROW.take (i*2)++vs).length=(i+1)*2:=by rw[hc];simp;omega
 grind
def nw(h:3=vs.size):∃u v x,vs=#[u,v,x]:=by
 match vs,h with
 |⟨[u,v,x]⟩,_=>simp
def fU{C:Ctx}{w:World}{rest:List Value}(h:vs.toList=V++rest)(h1:∀v∈V,v.oneCell'=true):
  (∀(i:Nat) (v:Value),i<(V.map PV.sc).length->vs[i]?=some v->v.oneCell'=true)/\∀(i:Nat) (p:PV) (v:Value),(V.map PV.sc)[i]?=some p->vs[i]?=some v->Rel C S w p v:=by
 have a:∀(i:Nat) (v:Value),i<V.length->vs[i]?=some v->V[i]?=some v:=by intro i v hi hv;rw[<-Array.getElem?_toList,h,Au hi]at hv;exact hv
 refine⟨λi v hi hv=>h1 v (Ab (a i v (by simpa using hi) hv)),λi p v b hv=>?_⟩;rw[Ai]at b;obtain⟨u,c,rfl⟩:=Al.1 b;have:=a i v (Af.1 c).1 hv;rw[c]at this;cases this;exact .sc _
def IT{id ver:Nat}(cs:List Stop)(i:Nat)(s:Stop)(hi:i<cs.length)(hn:cs.length<=1000000)(hid:S id=.cells ver 101 (cs.flatMap Enc.enc)):
  SP 329 [.sl id ver 2 0 cs.length,I i,L [s]] S (λp S'=>p=.sl id (ver+1) 2 0 (cs.length+1)/\S'=S.set id (.cells (ver+1) 101 ((cs.take i++s::cs.drop i).flatMap Enc.enc))):=by
 refine⟨qN func329 EF rfl,?_⟩;intro C w vs hS hl hr;obtain⟨u,v,x,rfl⟩:=nw hl;obtain rfl:=Xs (hr 1 _ v rfl rfl);have hu:=hr 0 _ u rfl rfl;have hx:Rel C S w (.lst 1 [I s.c,I s.q]) x:=hr 2 _ x rfl rfl;have d:(yG cs).length=cs.length*2:=WB cs;rw[nt]at hid ⊢;obtain⟨i0,a6⟩:=BZ.1 fI;have hz:=mX;have hc:=fH;have hb:=mW;simp only[Program.zeroOf,Program.cellsOf,Program.bytesOf',a6,CI,AU,Option.getD_some,injEq]at hz hc hb;cases hu with
 |sl h1 h2 h3 =>
 obtain⟨ad,cap,rfl,q1,q2,q3,q4⟩:=h1;have a9:=(h3 ver (by rw[hid];rfl)).2 rfl;obtain⟨e5,b7⟩|⟨b,k,c,g1,g2,g3,g4,g5,g6⟩:=hS.cells id ver _ _ hid;have:=congrArg List.length b7;simp[d]at this;exfalso;omega;obtain⟨z1,_⟩|⟨b',k',e6,a,z1,z2,z3,z4⟩:=a9;rw[g1]at z1;cases z1;rw[g1]at z1;cases z1;cases z2;obtain⟨rfl,b8⟩:=z3 rfl;rw[length_map,d]at g4;have m:∀(j:Nat) v,(yG cs)[j]?=some v->c[j]?=some v:=by intro j v g;have c6:=(Af.1 g).1;have e2:c[j]?=some c[j]:=A5 D9;have:=g6 j (.sc v) _ (by rw[Ai,g];rfl) e2;rw[e2];generalize c[j]=y at this;cases this;rfl
 have c7:c.toList.take (cs.length*2)=yG cs:=by apply A3;intro j;by_cases g:j<cs.length*2;rw[AP g,Array.getElem?_toList];have e:(yG cs)[j]?=some (yG cs)[j]:=Ac D9;rw[e,m j _ e];rw[An ED,An D9]
 have n:∀(j:Nat) v,(yG cs)[j]?=some v->w.cell? ⟨b,j,none⟩=some v:=λj v g=>by simp only[World.cell?,g2];exact m j v g
 have a4:yG (cs.take i++s::cs.drop i)=(yG cs).take (i*2)++[.int .i64 s.c,.int .i64 s.q]++(yG cs).drop (i*2):=by rw[nu cs i D9,nv cs i D9,fT];simp[yG]
 have a3:(yG (cs.take i++s::cs.drop i)).length=(cs.length+1)*2:=by rw[WB];simp;omega
 cases hx with
 |lst1 y1 y2 y3 y4 y5 y6 y7 =>
 rename_i vc vb vo cv ev fz;have d4:=y5 EA;simp only[Ae,Aj]at d4;have o:∀(j:Nat) v,([.int .i64 s.c,.int .i64 s.q]:List Value)[j]?=some v->w.cell? ⟨vb,vo+j,none⟩=some v:=by
  intro j v g;have c6:=(Af.1 g).1;simp at c6;simp only[World.cell?,y3];have e2:cv[vo+j]?=some (cv[vo+j]' D9):=A5 D9;have:=y7 j (.sc v) _ (by
   match j,g with
   |0,g=>cases g;rfl
   |1,g=>cases g;rfl) e2
  rw[if_neg EA,e2];generalize cv[vo+j]' D9=y at this;cases this;rfl
 have d5:vb≠b:=by rintro rfl;exact y4 ⟨id,k,by rw[hid];simp,g1⟩
 have t:∀(w':World) (b' a:Nat),cs.length+1<=a->a<=maxLen ->
   Rel (C.at id (ver+1) (some (b',a*2))) (S.set id (.cells (ver+1) 101 ((yG (cs.take i++s::cs.drop i)).map .sc))) w' (.sl id (ver+1) 2 0 (cs.length+1)) (.slice (some ⟨b',0,none⟩) (cs.length+1) a):=by
  intro w' b' a d6 d7;refine .sl ⟨_,_,rfl,d6,by unfold xO;omega,d7,λ_=>⟨_,_,rfl⟩⟩ ⟨h2.1,by simp only[Ctx.at];omega⟩ λv0 c8=>?_;rw[q11]at c8;cases c8;exact⟨Ag _,λ_=>.inr ⟨b',_,_,_,by simp[Ctx.at],rfl,λ_=>⟨rfl,rfl⟩,λ_=>rfl⟩⟩
 have d0:∀v∈([.int .i64 s.c,.int .i64 s.q]:List Value),v.oneCell'=true:=by intro v hv;simp at hv;obtain rfl|rfl:=hv<;>rfl
 by_cases z:cs.length+1<=cap;obtain⟨R1,r⟩:∃R1:Array Value,R1=(c.toList.take ((i+1)*2)++(yG cs).drop (i*2)++c.toList.drop ((i+1)*2+((yG cs).drop (i*2)).length)).toArray:=⟨_,rfl⟩;obtain⟨R2,a0⟩:∃R2:Array Value,R2=(R1.toList.take (i*2)++([.int .i64 s.c,.int .i64 s.q]:List Value)++R1.toList.drop (i*2+2)).toArray:=⟨_,rfl⟩;have a5:c.size=cap*2:=g3.trans b8.symm;have e4:c.toList.length=cap*2:=by simpa using a5
 have f:R2.toList=yG (cs.take i++s::cs.drop i)++c.toList.drop ((i+1)*2+((yG cs).drop (i*2)).length):=by rw[a0,r,a4];simp only[];exact IR hi d rfl c7 D9
 have a1:R2.size=cap*2:=by rw[<-Array.length_toList,f];simp[a3,d];omega
 refine(Gn b cs.length cap i vb vo vc (yG cs) [.int .i64 s.c,.int .i64 s.q] w (by rw[a6];simp[hc]) c g2 a5 hi z (by unfold maxLen at q3;omega) D9 d rfl d5 n o (WC cs) d0 ev (cv.size-1) (by unfold World.shape?;rw[y3];simp;omega) R1 R2 r a0).mono ?_;rintro e w' ⟨rfl,rfl⟩;obtain⟨r1,r2⟩:=fU (C:=C) (S:=S) (w:=w) f (WC _);have a7:=setRow_heap w.drew b c R1 _ _ g2;obtain⟨t1,t2⟩:=hS.turn (l:=some (b,cap*2)) (ver':=ver+1) (cs':=(yG (cs.take i++s::cs.drop i)).map .sc) hid D9 (λh=>absurd h D9) (w':=(w.drew.setRow b R1).setRow b R2)
  (by rw[g1];refine⟨⟨rfl,rfl,rfl,by simp[World.setRow],λj g d8=>?_⟩,C4 _⟩;have d1:j≠b:=λe=>d8 (by rw[e];rfl);rw[setRow_other _ _ _ _ d1,setRow_other _ _ _ _ d1];rfl)
  (.inr ⟨b,cap*2,R2,rfl,.inr (by rw[g1];rfl),setRow_heap _ _ _ _ _ _ a7,a1,by rw[length_map,a3];omega,r1,r2⟩)
 exact⟨_,_,_,_,rfl,⟨rfl,rfl⟩,t _ b cap z q3,t1,t2⟩;obtain⟨G,hG⟩:∃G,G=grownCap w (cs.length+1) cap 101:=⟨_,rfl⟩;have d9:cs.length+1<=G:=by rw[hG];exact grownCap_ge w _ _ _
 have e0:G<=maxLen:=by rw[hG];exact grownCap_le_maxLen w _ _ _ (by unfold maxLen;omega)
 obtain⟨ROW,a2⟩:∃ROW:Array Value,ROW=((yG cs).take (i*2)).toArray++Builtin.zeroCells (Value.agg #[.int .i64 0,.int .i64 0]).cells (cs.length+1-i)++Builtin.zeroCells (Value.agg #[.int .i64 0,.int .i64 0]).cells (G-(cs.length+1)):=⟨_,rfl⟩;obtain⟨R1,r⟩:∃R1:Array Value,R1=(ROW.toList.take (i*2)++([.int .i64 s.c,.int .i64 s.q]:List Value)++ROW.toList.drop (i*2+2)).toArray:=⟨_,rfl⟩;obtain⟨R2,a0⟩:∃R2:Array Value,R2=(R1.toList.take ((i+1)*2)++(yG cs).drop (i*2)++R1.toList.drop ((i+1)*2+((yG cs).drop (i*2)).length)).toArray:=⟨_,rfl⟩;have d2:((yG cs).take (i*2)).length=i*2:=ED;have e1:ROW.size=G*2:=by rw[a2];simp only[Cr,size_zeroCells,BY,d2];simp[Value.cells];omega
 have a8:ROW.toList.take (i*2)=(yG cs).take (i*2):=by rw[a2];simp only[Array.toList_append];rw[append_assoc];exact DZ d2
 have d3:R1.size=G*2:=by rw[r];simp;omega
 have f:R2.toList=yG (cs.take i++s::cs.drop i)++R1.toList.drop ((i+1)*2+((yG cs).drop (i*2)).length):=by rw[a0,r,a4];simp only[];exact IS hi d rfl a8
 have a1:R2.size=G*2:=by rw[<-Array.length_toList,f];simp[a3,d,d3];omega
 refine(Gm b cs.length cap i vb vo vc (yG cs) [.int .i64 s.c,.int .i64 s.q] w i0 _ a6 hz D9 hb rfl hi q1 D9 D9 d rfl n o (WC cs) d0 G hG ROW a2 R1 R2 r a0).mono ?_;rintro e w' ⟨rfl,rfl⟩;obtain⟨r1,r2⟩:=fU (C:=C) (S:=S) (w:=w) f (WC _);have e3:=QH w.drew (.cells ROW 101);have a7:=setRow_heap (w.drew.alloc (.cells ROW 101)) w.heap.size ROW R1 _ _ e3;obtain⟨t1,t2⟩:=hS.turn (l:=some (w.heap.size,G*2)) (ver':=ver+1) (cs':=(yG (cs.take i++s::cs.drop i)).map .sc) hid D9 (λh=>absurd h D9) (w':=((w.drew.alloc (.cells ROW 101)).setRow w.heap.size R1).drew.setRow w.heap.size R2)
  ⟨⟨rfl,rfl,rfl,by simp[World.setRow],λj g _=>by rw[setRow_other _ _ _ _ D9];show ((w.drew.alloc (.cells ROW 101)).setRow w.heap.size R1).heap[j]?=_;rw[setRow_other _ _ _ _ D9];exact Z7 w.drew _ j g⟩,Bq (C4 _)⟩
  (.inr ⟨w.heap.size,G*2,R2,rfl,.inl (Ag _),setRow_heap _ _ _ _ _ _ a7,a1,by rw[length_map,a3];omega,r1,r2⟩)
 exact⟨_,_,_,_,rfl,⟨rfl,rfl⟩,t _ w.heap.size G d9 e0,t1,t2⟩
def yg(t:List Stop):Int:=(t.map (·.q)).sum
def VY(t:List Stop)(s:Stop):yg (t++[s])=yg t+s.q:=by simp[yg]
def fV(t:List Stop)(g:t.length<=1048576):PP 89 [.agg [L t]] (L (t.map (·.c))):=by
 refine c9 func89 λS nx d=>?_;intro v0;refine EJ ?_;refine ze (qa 3 3 1 rfl λv1=>?_);refine EJ ?_;refine zn (zF (λs:Nat × List Int × Nat × Nat=>s.1<=t.length/\s.2.1=(t.take s.1).map (·.c)) (λ(k,out,v,a)=>[(1,.ptr nx v 0),(3,.sl (nx+1) a 1 0 out.length),(4,I k)]) (λ(k,out,v,a)=>[.cells v 99 [L t],.cells a 3 (out.flatMap Enc.enc)]) (λs=>t.length-s.1) (0,[],v0,v1) [] EA EA EA ?_);rintro⟨k,out,v1,a⟩ ⟨e,ho⟩;simp only at e ho ⊢;refine ze (EJ ?_);refine zA rfl (λhc=>?_) (λhc=>?_);simp at hc;obtain⟨s,tl,h,i,a3,j,f⟩:=el 2 rfl t k hc;refine zk (aA (zi [] (zq hc f) ?_));have hl:out.length=k:=by rw[ho];simp;omega
 refine⟨by omega,?_⟩;refine zg ?_;exact zv (k+1,out++[s.c],v1,a+1) [] (by simp[a3,ho];omega) ED (by simp[zy k D9]) rfl EA;simp at hc;have b:k=t.length:=D9;subst b;refine zB (EJ ?_);refine yc 1 rfl ?_;exact zj (zm d rfl (by simp[ho]))
def IU(t:List Stop)(e:t.length<=1048576):PP 168 [.agg [L t]] (I (W (yg t))):=by refine c9 func168 λS nx b=>?_;intro v0;refine EJ ?_;refine ze (EJ ?_);refine zn (zF (λs:Nat × Nat=>s.1<=t.length) (λ(k,v)=>[(1,.ptr nx v 0),(3,I (W (yg (t.take k)))),(4,I k)]) (λ(k,v)=>[.cells v 99 [L t]]) (λs=>t.length-s.1) (0,v0) [] EA (by simp[yg]) EA ?_);rintro⟨k,v1⟩ c;simp only at c ⊢;refine ze (EJ ?_);refine zA rfl (λhc=>?_) (λhc=>?_);simp at hc;obtain⟨s,tl,f,g,a3,d,h⟩:=el 2 rfl t k hc;refine zk (aA (zi [] (zq hc d) ?_));refine zg ?_;exact zv (k+1,v1) [] hc ED (by simp[zy k D9,a3,VY,uk]) rfl EA;simp at hc;have a:k=t.length:=D9;subst a;refine zB (EJ ?_);exact zj (zm b rfl EA)
def ny(l:List Int)(c:Int)(h:l.Nodup)(hc:c ∉ l):(l++[c]).Nodup:=by rw[DG];exact⟨h,by simp,λa d b hb e=>by simp at hb;subst hb;subst e;exact hc d⟩
def fW{l:List Int}{c:Int}(hi:l[i]?=some c)(a:l[k]?=some c)(h:k<i):¬l.Nodup:=by intro hn;have:=(List.getElem?_inj (Af.1 hi).1 hn).1 (hi.trans a.symm);omega
def nz(l:List Int)(hl:l.length<=1048576):PP 136 [L l] (B (decide (¬l.Nodup))):=by refine c9 func136 λS nx f=>?_;refine ze (EJ ?_);refine zn (zF (λi:Nat=>i<=l.length/\(l.take i).Nodup) (λi=>[(0,L l),(3,I i)]) (λ_=>[]) (λi=>l.length-i) 0 [] EA EA EA ?_);rintro i ⟨hi,hn⟩;refine ze (EJ ?_);refine zA rfl (λhc=>?_) (λhc=>?_);simp at hc;obtain⟨c,tl,g,m,a3,h⟩:=zH rfl l i hc;refine zk (aA (EJ ?_));refine zn (zF (λk:Nat=>k<=i/\c ∉ l.take k) (λk=>[(0,L l),(3,I i),(4,I k)]) (λ_=>[]) (λk=>i-k) 0 [] EA EA EA ?_);rintro k ⟨n,b⟩;refine ze (EJ ?_);refine zA rfl (λa=>?_) (λa=>?_);simp at a;obtain⟨o,tl',b1,b2,b3,j⟩:=zH rfl l k D9;have e:k<l.length:=D9;refine zk (aA (aG none Re (zM h j hc e) ?_));refine zA rfl (λd=>?_) (λd=>?_);simp at d;subst d;refine EJ ?_;exact zj (zm f rfl (by simp[fW g b1 a]));simp at d;refine zk (zg ?_);exact zv (k+1) [] ⟨a,by rw[b3];simp[b,d]⟩ D9 (by simp[zy k D9]) rfl EA;simp at a;have:k=i:=D9;subst this;refine zB (zg ?_);exact zv (k+1) [] ⟨hc,by rw[a3];exact ny _ _ hn b⟩ D9 (by simp[zy k D9]) rfl EA;simp at hc;refine zB (EJ ?_);rw[Ad hc]at hn;exact zj (zm f rfl (by simp[hn]))
def VZ(t:List Stop)(g:t.length<=1048576)(S:Store)(nx:Nat)(d:yh nx S):SP 124 [.agg [L t]] S (λp S'=>∃v,p=.sl (nx+1) v 1 0 t.length/\S'=S.set (nx+1) (.cells v 3 ((t.map (·.c)).flatMap Enc.enc))):=by
 refine ZI d func124 ntmps124 results124 ?_;refine EJ ?_;intro v0;refine EJ ?_;refine ze (qa 3 3 1 rfl λv1=>?_);refine EJ ?_;refine zn (zF (λs:Nat × List Int × Nat × Nat=>s.1<=t.length/\s.2.1=(t.take s.1).map (·.c)) (λ(k,out,v,a)=>[(3,.sl (nx+1) a 1 0 out.length),(7,L t),(8,I t.length),(9,I k)]) (λ(k,out,v,a)=>[.cells v 99 [L t],.cells a 3 (out.flatMap Enc.enc)]) (λs=>t.length-s.1) (0,[],v0,v1) [] EA EA EA ?_);rintro⟨k,out,v1,a⟩ ⟨e,ho⟩;simp only at e ho ⊢;refine EJ ?_;refine ze (zA rfl (λhc=>?_) (λhc=>?_));simp at hc;obtain⟨s,tl,h,i,a3,j,f⟩:=el 2 rfl t k hc;refine zk (aA (aF [] (zq hc f) ?_));intros;have hl:out.length=k:=by rw[ho];simp;omega
 refine zg ?_;refine⟨by omega,?_⟩;refine zg ?_;exact zv (k+1,out++[s.c],v1,a+1) [_] (by simp[a3,ho];omega) ED (by simp[zy k D9]) rfl EB;simp at hc;have b:k=t.length:=D9;subst b;refine zB (EJ ?_);refine zj ⟨_,_,rfl,⟨a,by simp[ho],rfl⟩,Xo d (by simp[ho])⟩
def IV(t:List Stop)(a:t.length<=1048576):PP 124 [.agg [L t]] (L (t.map (·.c))):=by have:=cx 1 (λS nx b=>VZ t a S nx b) EA;rw[<-length_map (f:=(·.c))]at this;exact this
def nA(t:List Stop)(e:t.length<=1048576):PP 243 [.agg [L t]] (I (W (yg t))):=by refine c9 func243 λS nx b=>?_;intro v0;refine EJ ?_;refine ze (EJ ?_);refine zn (zF (λs:Nat × Nat=>s.1<=t.length) (λ(k,v)=>[(3,I (W (yg (t.take k)))),(7,L t),(8,I t.length),(9,I k)]) (λ(k,v)=>[.cells v 99 [L t]]) (λs=>t.length-s.1) (0,v0) [] EA (by simp[yg]) EA ?_);rintro⟨k,v1⟩ c;simp only at c ⊢;refine EJ ?_;refine ze (zA rfl (λhc=>?_) (λhc=>?_));simp at hc;obtain⟨s,tl,f,g,a3,h,d⟩:=el 2 rfl t k hc;refine zk (aA (aF [] (zq hc d) ?_));intros;refine zg ?_;refine zg ?_;exact zv (k+1,v1) [_] hc ED (by simp[zy k D9,a3,VY,uk]) rfl EB;simp at hc;have a:k=t.length:=D9;subst a;refine zB (EJ ?_);exact zj (zm b rfl EA)
def V1(x:Inst)(t:List Stop)(a:t.length<=1048576)(hs:∀s∈t,qz s.c):PP 131 [.agg (zE x),.agg [L t]] (I (W (yT x (t.map (·.c))))):=by refine c9 func131 λS nx b=>?_;intros;refine aG none RS n' ?_;refine zK (IV _ a) n' ?_;refine zK (nn _ _ (by simpa using a) (by simpa using hs)) n' ?_;exact zj (zm b rfl rfl)
def yl(x:Inst)(d:zt):Int:=(d.map λt=>yT x (t.map (·.c))).sum
def nB(x:Inst)(d:zt)(t:zT):yl x (d++[t])=yl x d+yT x (t.map (·.c)):=by simp[yl]
structure DayOk (d:zt):Prop where
 n:d.length<=1048576
 t:∀t∈d,t.length<=1048576
 s:∀t∈d,∀s∈t,qz s.c
def WD(x:Inst)(d:zt)(a:DayOk d):PP 83 [.agg (zE x),.agg [L d]] (I (W (yl x d))):=by have hn:=a.n;refine c9 func83 λS nx f=>?_;intro v0 v1;refine EJ ?_;refine ze (EJ ?_);refine zn (zF (λs:Nat × Nat × Nat=>s.1<=d.length) (λ(k,v,e)=>[(2,.ptr nx v 0),(5,I (W (yl x (d.take k)))),(9,L d),(10,I d.length),(11,I k)]) (λ(k,v,e)=>[.cells v 25 (zE x),.cells e 96 [L d]]) (λs=>d.length-s.1) (0,v0,v1) [] EA (by simp[yl]) EA ?_);rintro⟨k,v1,g⟩ h;simp only at h ⊢;refine EJ ?_;refine ze (zA rfl (λhc=>?_) (λhc=>?_));simp at hc;obtain⟨t,tl,i,l,a3,j⟩:=zH rfl d k hc;have b:=Ab i;refine zk (aA (aF [] (zq hc j) ?_));intros;refine zg ?_;refine zu (V1 _ _ (a.t t b) (a.s t b)) ?_;refine zg ?_;exact zv (k+1,v1,g) [_] hc ED (by simp[zy k D9,a3,nB,uk,cw]) rfl EB;simp at hc;have c:k=d.length:=D9;subst c;refine zB (EJ ?_);exact zj (zm f rfl EA)
def nC(d:zt)(hn:d.length<=1048576)(hf:d.flatten.length<=1048576):PP 125 [.agg [L d]] (L d.flatten):=by
 refine c9 func125 λS nx c=>?_;intro v0;refine EJ ?_;refine ze (qa 3 101 2 rfl λv1=>?_);refine EJ ?_;refine zn (zF (λs:Nat × List Stop × Nat × Nat=>s.1<=d.length/\s.2.1=(d.take s.1).flatten) (λ(k,out,v,a)=>[(3,.sl (nx+1) a 2 0 out.length),(7,L d),(8,I d.length),(9,I k)]) (λ(k,out,v,a)=>[.cells v 96 [L d],.cells a 101 (out.flatMap Enc.enc)]) (λs=>d.length-s.1) (0,[],v0,v1) [] EA EA EA ?_);rintro⟨k,out,v1,a⟩ ⟨f,ho⟩;simp only at f ho ⊢;refine EJ ?_;refine ze (zA rfl (λhc=>?_) (λhc=>?_));simp at hc;obtain⟨t,tl,h,i,a3,g⟩:=zH rfl d k hc;refine zk (aA (aF [] (zq hc g) ?_));intros;have hl:out.length+t.length<=1048576:=by
  have:(out++t).length<=d.flatten.length:=by
   have e:d.flatten=(d.take (k+1)).flatten++(d.drop (k+1)).flatten:=by rw[<-List.flatten_append,take_append_drop]
   rw[e,a3];simp[ho]
  simp only[length_append]at this;omega
 refine zg ?_;refine⟨by omega,?_⟩;refine zg ?_;exact zv (k+1,out++t,v1,a+1) [_] (by simp[a3,ho];omega) ED (by simp[zy k D9]) rfl EB;simp at hc;have b:k=d.length:=D9;subst b;refine zB (EJ ?_);refine yc 1 rfl ?_;exact zj (zm c rfl (by simp[ho]))
def jx(x:Inst)(s:Stop):Bool:=decide (0<=s.c/\s.c<x.y.length/\1<=s.q/\s.q<=2147483648)
def jH(x:Inst)(t:zT):Bool:=t.all (jx x)&&!t.isEmpty
def yd(x:Inst)(t:zT):Int :=
 if jH x t=false then 1 else if ¬(t.map (·.c)).Nodup then 11 else if x.R<W (yg t) then 12 else if x.len<W (yT x (t.map (·.c))) then 13 else 0
variable {t:zT}
def cJ{s:Stop}(h:t[k]?=some s)(hb:¬(0<=s.c/\s.c<x.y.length/\1<=s.q/\s.q<=2147483648)):yd x t=1:=by
 unfold yd;rw[if_pos];unfold jH;have:t.all (jx x)=false:=by rw[Bl];exact⟨s,Ab h,by simp[jx];omega⟩
 rw[this];rfl
def nD{s:Stop}(h:(t.take k).all (jx x)=true)(a:t.take (k+1)=t.take k++[s])(hs:0<=s.c/\s.c<x.y.length/\1<=s.q/\s.q<=2147483648):(t.take (k+1)).all (jx x)=true:=by rw[a,BN,h];simp[jx];omega
def nE(hx:x.y.length<=1048576)(h:t.all (jx x)=true):∀s∈t,qz s.c:=by intro s hs;have:=Av.1 h s hs;simp[jx]at this;unfold qz;omega
def IW(x:Inst)(t:zT)(hx:x.y.length<=1048576)(g:t.length<=1048576):PP 135 [.agg (zE x),.agg [L t]] (I (yd x t)):=by
 refine c9 func135 λS nx a=>?_;intro v0 v1;by_cases h:t=[];subst h;refine ze (EJ ?_);refine zo rfl (EJ ?_);exact zj (zm a rfl rfl);have j:¬t.length=0:=by simpa using h
 refine ze (aF [] (zq h j) ?_);refine zp rfl (zk ?_);refine ze (EJ ?_);refine zn (zF (λs:Nat × Nat × Nat=>s.1<=t.length/\(t.take s.1).all (jx x)=true) (λ(k,v,l)=>[(2,.ptr nx v 0),(3,.ptr (nx+1) l 0),(5,I k)]) (λ(k,v,l)=>[.cells v 25 (zE x),.cells l 99 [L t]]) (λs=>t.length-s.1) (0,v0,v1) [] EA EA EA ?_);rintro⟨k,v0,v1⟩ ⟨o,e⟩;simp only at o e ⊢;refine ze (EJ ?_);refine zA rfl (λhc=>?_) (λhc=>?_);simp at hc;obtain⟨s,tl,i,r,a3,u,p⟩:=el 2 rfl t k hc;refine zk (aA (aF [] (zq hc p) ?_));intros;by_cases h1:s.c<0;refine aF [(3,27),(11,35),(16,40)] (zq h1 zz) ?_;refine zo rfl (EJ ?_);exact zj (zm a rfl (by rw[cJ i D9];rfl));by_cases h2:(x.y.length:Int)<=s.c;refine aF [(3,27),(11,35),(16,40)] (zD h2 h1 zz) ?_;refine zo rfl (EJ ?_);exact zj (zm a rfl (by rw[cJ i D9];rfl));by_cases h3:s.q<1;refine aF [(3,27),(11,35),(16,40)] (zM h3 h1 h2 zz) ?_;refine zo rfl (EJ ?_);exact zj (zm a rfl (by rw[cJ i D9];rfl));by_cases n:2147483648<s.q;refine aF [(3,27),(11,35),(16,40)] (yp n h1 h2 h3 zz) ?_;refine zo rfl (EJ ?_);exact zj (zm a rfl (by rw[cJ i D9];rfl));refine aF [(3,27),(11,35),(16,40)] (zM h1 h2 h3 n) ?_;refine zp rfl (zk (zg ?_));exact zv (k+1,v0,v1) [_] ⟨hc,nD e a3 D9⟩ ED (by simp[zy k D9]) rfl EB;simp at hc;have m:k=t.length:=D9;subst m;rw[Ah]at e;have b:jH x t=true:=by unfold jH;rw[e];simp[h]
 refine zB (EJ ?_);refine zu (fV _ g) ?_;refine ze (EJ ?_);refine zu (nz _ (by simpa using g)) ?_;by_cases hn:(t.map (·.c)).Nodup;refine zp (by simp[hn]) ?_;refine zk ?_;refine ze (aG none RS n' ?_);refine zK (IU _ g) n' ?_;refine zA rfl (λd=>?_) (λd=>?_);simp at d;refine EJ ?_;exact zj (zm a rfl (by simp[yd,b,hn,d]));simp at d;refine zk ?_;refine ze (aG none (pures [0,1,2,3,4,5] .done) n' ?_);refine zK (np _ _ (by simpa using g) (by simpa using nE hx e)) n' ?_;refine zA rfl (λf=>?_) (λf=>?_);simp at f;refine EJ ?_;exact zj (zm a rfl (by simp[yd,b,hn,f,Dk.2 d]));simp at f;refine zk (EJ ?_);exact zj (zm a rfl (by simp[yd,b,hn,Dk.2 f,Dk.2 d]));refine zo (by simp[hn]) ?_;refine EJ ?_;exact zj (zm a rfl (by simp[yd,b,hn]))
def V2(l:List Int):(qv l).Pairwise (·<=·):=by have:=CR (le:=λx y:Int=>decide (x<=y)) (λa b c h1 h2=>by simp at *;omega) (λa b=>by simp;omega) l;simpa using this
def nF(l:List Int):(qv l).Perm l:=Ci l _
def fX(l:List Int):(qv l).Nodup<->l.Nodup:=(nF l).nodup_iff
variable {j:Nat}
def nG{z:List Int}{p c:Int}(b:z.Pairwise (·<=·))(hn:(z.take (j+1)).Nodup)(h1:z.take (j+1)=z.take j++[p])(h2:z.take (j+1+1)=z.take (j+1)++[c])(a:p≠c):(z.take (j+1+1)).Nodup:=by rw[h2];refine ny _ _ hn λhc=>?_;have hs:(z.take (j+1+1)).Pairwise (·<=·):=b.sublist (List.take_sublist _ _);rw[h2,h1,append_assoc,List.pairwise_append]at hs;rw[h1,AC]at hc;obtain hc|hc:=hc;have d:=hs.2.2 c hc p EA;have e:=(Bs.1 hs.2.1).1 c EA;omega;simp at hc;exact a hc.symm
def nH{id ver:Nat}(zs:List Int)(hid:S id=.cells ver 3 (zs.flatMap Enc.enc))(hn:zs.length<=1048576):
  SP 123 [.sl id ver 1 0 zs.length] S (λp S'=>p=B (decide zs.Nodup)/\S'=S.set id .dead):=by
 refine i' func123 λnx x=>?_;have f:id<nx:=by obtain h|h:=Bc id nx;exact h;rw[x id h]at hid;cases hid
 refine EJ ?_;refine ze (x8 [] EF EF λK Gc Gh y b g X a k=>?_);simp -implicitDefEqProofs [a,k];try clear a k X
 refine b _ _ _ _ _ _ _ λl=>((cI zs (by rw[zL f];exact hid) hn).mono ?_).v;rintro p _ rfl;refine⟨S.set id (.cells ver 3 ((qv zs).flatMap Enc.enc)),[],qI _ f,?_⟩;clear b g;clear Gc Gh;refine vr l (D:=[]) EF λGc Gh b g X a k=>?_;simp -implicitDefEqProofs [a,k];clear a k X;refine y _ _ _ ?_;clear y b g;clear K Gc Gh;generalize q:qv zs=z;have r:zs.length=z.length:=by rw[<-q,Jx]
 have s:z.Pairwise (·<=·):=by rw[<-q];exact V2 zs
 have d:∀o,S.set id .dead o=ext (S.set id (.cells ver 3 (z.flatMap Enc.enc))) nx [] o\/S.set id .dead o=.dead:=by intro o;by_cases ho:o=id;subst ho;exact .inr (q11 _ _ _);rw[q10 _ _ _ _ ho];by_cases h2:o<nx;rw[zL h2,q10 _ _ _ _ ho];exact .inl rfl;exact .inr (x o D9)
 have t:(S.set id (.cells ver 3 (z.flatMap Enc.enc))) id=.cells ver 3 (z.flatMap Enc.enc):=q11 _ _ _;have m:decide zs.Nodup=decide z.Nodup:=by rw[<-q,decide_eq_decide,fX]
 rw[m];have a0:z.length<=1048576:=D9;rw[r];generalize S.set id (.cells ver 3 (z.flatMap Enc.enc))=S1 at *;have u:=zL (S:=S1) (obs:=[]) f;refine ze (EJ ?_);refine zn (zF (λj:Nat=>(j=0\/j+1<=z.length)/\(z.take (j+1)).Nodup) (λj=>[(0,.sl id ver 1 0 z.length),(3,I ((j+1:Nat):Int))]) (λ_=>[]) (λj=>z.length-j) 0 [] (by cases z<;>simp) EA EA ?_);rintro j ⟨hj,i⟩;repeat apply ze
 refine zg ?_;refine zA rfl (λhc=>?_) (λhc=>?_);simp at hc;have w:j+1<z.length:=D9;obtain⟨c,a1,b1,b2,b3,e1⟩:=zH rfl z (j+1) w;obtain⟨p,a2,d1,d2,d3,e2⟩:=zH rfl z j D9;have wj:i64.wrap (j:Int)=j:=wr _ D9 D9;have g1:(j:Int)<z.length:=D9;have g2:(j:Int)+1<z.length:=D9;have g3:0<=(j:Int)+1:=D9;refine zk (aA (aG none Ri (zN u t wj e1 e2 (zD g1 g2 g3)) ?_));refine zA rfl (λn=>?_) (λn=>?_);simp at n;refine EJ ?_;exact zj ⟨_,_,rfl,⟨by simp;exact fW b1 (by rw[d1,n]) D9,rfl⟩,d⟩;simp at n;refine zk (zg ?_);have w2:i64.wrap ((j:Int)+1+1)=((j+1+1:Nat):Int):=by rw[wr _ D9 D9];omega
 exact zv (j+1) [] ⟨by omega,nG s i d3 b3 (λe=>n e.symm)⟩ D9 (by simp[w2]) rfl EA;simp at hc;refine zB (EJ ?_);rw[Ad D9]at i;exact zj ⟨_,_,rfl,⟨by simp[i],rfl⟩,d⟩
abbrev V3(x:Inst)(t:zT):List PV:=[I x.days,I x.U,I x.R,I x.len,L x.y,L x.J,L t]
def IX(x:Inst)(t:zT)(l:t.length<=1048576):PP 208 [.agg (V3 x t)] (B (jH x t)):=by
 have bad:∀{k:Nat} {s:Stop},t[k]?=some s->¬(0<=s.c/\s.c<x.y.length/\1<=s.q/\s.q<=2147483648)->jH x t=false:=by
  intro k s h hb;unfold jH;have:t.all (jx x)=false:=by rw[Bl];exact⟨s,Ab h,by simp[jx];omega⟩
  rw[this];rfl
 refine c9 func208 λS nx b=>?_;intro v0;refine ze (EJ ?_);refine zn (zF (λs:Nat × Nat=>s.1<=t.length/\(t.take s.1).all (jx x)=true) (λ(k,v)=>[(1,.ptr nx v 0),(7,L t),(8,I t.length),(9,I k)]) (λ(k,v)=>[.cells v 229 (V3 x t)]) (λs=>t.length-s.1) (0,v0) [] EA EA EA ?_);rintro⟨k,v0⟩ ⟨i,d⟩;simp only at i d ⊢;refine EJ ?_;refine ze (zA rfl (λhc=>?_) (λhc=>?_));simp at hc;obtain⟨s,tl,e,m,a3,n,j⟩:=el 2 rfl t k hc;refine zk (aA (aF [] (zq hc j) ?_));intros;by_cases h1:s.c<0;refine ze (aF [(3,16)] (zq h1 zz) ?_);refine zo rfl (EJ ?_);exact zj (zm b rfl (by rw[bad e D9];rfl));by_cases h2:(x.y.length:Int)<=s.c;refine ze (aF [(3,16)] (zD h2 h1 zz) ?_);refine zo rfl (EJ ?_);exact zj (zm b rfl (by rw[bad e D9];rfl));refine ze (aF [(3,16)] (zq h1 h2) ?_);refine zp rfl (zk ?_);by_cases h3:s.q<1;refine aF [(3,28)] (zq h3 zz) ?_;refine zo rfl (EJ ?_);exact zj (zm b rfl (by rw[bad e D9];rfl));by_cases g:2147483648<s.q;refine aF [(3,28)] (zD g h3 zz) ?_;refine zo rfl (EJ ?_);exact zj (zm b rfl (by rw[bad e D9];rfl));refine aF [(3,28)] (zq h3 g) ?_;refine zp rfl (zk (zg ?_));exact zv (k+1,v0) [_] ⟨hc,nD d a3 D9⟩ ED (by simp[zy k D9]) rfl EB;simp at hc;have f:k=t.length:=D9;subst f;rw[Ah]at d;refine zB (EJ ?_);exact zj (zm b rfl (by cases t with|nil=>rfl|cons a t=>simp[jH,d]))
def IY(x:Inst)(t:zT)(b:t.length<=1048576):PP 209 [.agg (V3 x t)] (B (decide (t.map (·.c)).Nodup)):=by refine c9 func209 λS nx d=>?_;intro v0;refine EJ ?_;refine λa=>((VZ t b _ _ xP).mono ?_).v;rintro _ _ ⟨v1,rfl,rfl⟩;refine⟨_,_,Wv _,xQ [] Nat.add_assoc a ?_⟩;rw[<-length_map (f:=λs:Stop=>s.c)];refine λa=>((nH _ EA (by simpa using b)).mono ?_).v;rintro _ _ ⟨rfl,rfl⟩;refine⟨_,_,yu _ EA EA,zS a ?_⟩;exact zj (zm d rfl rfl)
def IZ(x:Inst)(t:zT)(a:t.length<=1048576):PP 210 [.agg (V3 x t)] (B (decide (W (yg t)<=x.R))):=by refine c9 func210 λS nx b=>?_;intro v0;refine aG none Rh n' ?_;refine zK (nA _ a) n' ?_;exact zj (zm b rfl rfl)
def Ka(x:Inst)(t:zT)(a:t.length<=1048576)(hs:∀s∈t,qz s.c):PP 211 [.agg (V3 x t)] (B (decide (W (yT x (t.map (·.c)))<=x.len))):=by refine c9 func211 λS nx b=>?_;intro v0;refine aG none Ri n' ?_;refine zK (V1 _ _ a hs) n' ?_;exact zj (zm b rfl rfl)
abbrev nI:List PV:=[.fn (.func 208) [] [],I 1,.fn (.func 209) [] [],I 11,.fn (.func 210) [] [],I 12,.fn (.func 211) [] [],I 13]
def Kb:PP 156 [] (.lst 4 nI):=by refine c9 func156 λS nx a=>?_;refine EJ ?_;exact zj (zm a rfl rfl)
def V4(x:Inst)(t:zT)(hx:x.y.length<=1048576)(b:t.length<=1048576):PP 122 [.agg (zE x),.agg [L t]] (I (yd x t)):=by
 refine c9 func122 λS nx a=>?_;intro v0 v1;refine ze (EJ ?_);refine zu Kb ?_;refine zn (zF (λs:Nat × Nat × Nat=>s.1<=4/\(1<=s.1->jH x t=true)/\(2<=s.1->(t.map (·.c)).Nodup)/\(3<=s.1->W (yg t)<=x.R)/\(4<=s.1->W (yT x (t.map (·.c)))<=x.len)) (λ(k,v,d)=>[(2,.ptr nx v 0),(3,.ptr (nx+1) d 0),(7,.lst 4 nI),(8,I 4),(9,I k)]) (λ(k,v,d)=>[.cells v 25 (zE x),.cells d 99 [L t]]) (λs=>4-s.1) (0,v0,v1) [] EA EA EA ?_);rintro⟨k,v0,v1⟩ ⟨f,i1,i2,i3,i4⟩;simp only at f i1 i2 i3 i4 ⊢;have e:1<=k->∀s∈t,qz s.c:=λh=>nE hx (by have:=i1 h;unfold jH at this;simp only[Ar]at this;exact this.1)
 match k,f with
 |0,_ =>
 refine EJ ?_;refine ze (zo rfl (zk (aA (EJ ?_))));intros;refine EJ ?_;refine zu (IX x t b) ?_;refine zA rfl (λh1=>?_) (λh1=>?_);simp at h1;refine EJ ?_;exact zj (zm a rfl (by simp[yd,h1]));simp at h1;refine zk (zg ?_);exact zv (1,v0,v1) [_] (by simp[h1]) EA EB rfl EB
 |1,_ =>
 refine EJ ?_;refine ze (zo rfl (zk (aA (EJ ?_))));intros;refine EJ ?_;refine zu (IY x t b) ?_;refine zA rfl (λh1=>?_) (λh1=>?_);simp at h1;refine EJ ?_;exact zj (zm a rfl (by simp[yd,h1,i1 D9]));simp at h1;refine zk (zg ?_);exact zv (2,v0,v1) [_] (by simp[h1,i1 D9]) EA EB rfl EB
 |2,_ =>
 refine EJ ?_;refine ze (zo rfl (zk (aA (EJ ?_))));intros;refine EJ ?_;refine zu (IZ x t b) ?_;refine zA rfl (λh1=>?_) (λh1=>?_);simp at h1;refine EJ ?_;exact zj (zm a rfl (by simp[yd,h1,i1 D9,i2 D9]));simp at h1;refine zk (zg ?_);exact zv (3,v0,v1) [_] (by simp[h1,i1 D9,i2 D9]) EA EB rfl EB
 |3,_ =>
 refine EJ ?_;refine ze (zo rfl (zk (aA (EJ ?_))));intros;refine EJ ?_;refine zu (Ka x t b (e D9)) ?_;have h3:=Dk.2 (i3 D9);refine zA rfl (λh1=>?_) (λh1=>?_);simp at h1;refine EJ ?_;exact zj (zm a rfl (by simp[yd,h1,i1 D9,i2 D9,h3]));simp at h1;refine zk (zg ?_);exact zv (4,v0,v1) [_] (by simp[h1,i1 D9,i2 D9,i3 D9]) EA EB rfl EB
 |4,_ =>
 refine EJ ?_;refine ze (zp rfl (zB (EJ ?_)));exact zj (zm a rfl (by simp[yd,i1 D9,i2 D9,Dk.2 (i3 D9),Dk.2 (i4 D9)]))
def yx(x:Inst)(d:zt):Int :=
 match d.find? (λt=>yd x t != 0) with
 |some t=>yd x t
 |none=>if ¬(d.flatten.map (·.c)).Nodup then 11 else if x.U<d.length then 14 else 0
def nJ{p:α->Bool}{l:List α}{a:α}(h:(l.take k).find? p=none)(b:l.take (k+1)=l.take k++[a])(c:p a=false):(l.take (k+1)).find? p=none:=by rw[b,DH,h];simp[c]
def fY{p:α->Bool}{l:List α}{a:α}(h:(l.take k).find? p=none)(b:l.drop k=a::l.drop (k+1))(c:p a=true):l.find? p=some a:=by
 have e:l=l.take k++a::l.drop (k+1):=by rw[<-b,take_append_drop]
 rw[e,DH,h];simp[c]
def fZ(x:Inst)(d:zt)(hx:x.y.length<=1048576)(hn:d.length<=1048576)(l:∀t∈d,t.length<=1048576)(hf:d.flatten.length<=1048576):PP 78 [.agg (zE x),.agg [L d]] (I (yx x d)):=by
 refine c9 func78 λS nx g=>?_;intro v0 v1;refine ze (EJ ?_);refine zn (zF (λs:Nat × Nat × Nat=>s.1<=d.length/\(d.take s.1).find? (λt=>yd x t != 0)=none) (λ(k,v,h)=>[(2,.ptr nx v 0),(3,.ptr (nx+1) h 0),(9,L d),(10,I d.length),(11,I k)]) (λ(k,v,h)=>[.cells v 25 (zE x),.cells h 96 [L d]]) (λs=>d.length-s.1) (0,v0,v1) [] EA EA EA ?_);rintro⟨k,v0,v1⟩ ⟨m,e⟩;simp only at m e ⊢;refine EJ ?_;refine ze (zA rfl (λhc=>?_) (λhc=>?_));simp at hc;obtain⟨t,tl,n,o,a3,p⟩:=zH rfl d k hc;refine zk (aA (aF [] (zq hc p) ?_));intros;refine EJ ?_;refine zu (V4 x t hx (l t (Ab n))) ?_;refine EJ ?_;refine zA rfl (λh1=>?_) (λh1=>?_);simp at h1;refine EJ ?_;exact zj (zm g rfl (by simp only[yx,fY e o (by simpa using h1)];simp));simp at h1;refine zk (zg ?_);exact zv (k+1,v0,v1) [_] ⟨hc,nJ e a3 (by simpa using h1)⟩ ED (by simp[zy k D9]) rfl EB;simp at hc;have i:k=d.length:=D9;subst i;rw[Ah]at e;have j:=nC d hn hf;have a:yx x d=if ¬(d.flatten.map (·.c)).Nodup then 11 else if x.U<d.length then 14 else 0:=by unfold yx;rw[e]
 generalize d.flatten=fl at *;refine zB ?_;refine ze (EJ ?_);refine zu j ?_;refine λb=>((VZ fl hf _ _ xP).mono ?_).v;rintro _ _ ⟨q,rfl,rfl⟩;refine⟨_,_,Wv _,xQ [] Nat.add_assoc b ?_⟩;rw[<-length_map (f:=λs:Stop=>s.c)];refine λb=>((nH _ EA (by simpa using hf)).mono ?_).v;rintro _ _ ⟨rfl,rfl⟩;refine⟨_,_,yu _ EA EA,zS b ?_⟩;refine zA rfl (λh2=>?_) (λh2=>?_);simp at h2;refine EJ ?_;exact zj (zm g rfl (by simp[a,h2]));simp at h2;refine zk ?_;refine ze (EJ ?_);refine zA rfl (λh3=>?_) (λh3=>?_);simp at h3;refine EJ ?_;exact zj (zm g rfl (by simp[a,h2,h3]));simp at h3;refine zk (EJ ?_);exact zj (zm g rfl (by simp[a,h2,Dk.2 h3]))
def jI(l:List Stop):zt:=l.map λs=>[s]
def Kc(l:List Stop)(hl:l.length<=1048576):PP 306 [L l] (.agg [L (jI l)]):=by
 refine c9 func306 λS nx d=>?_;intro v0;refine EJ ?_;intro v1;refine ze (qj 1 0 99 1 rfl rfl λa=>?_);refine EJ ?_;refine zn (zF (λs:Nat × zt × Nat × Nat × Nat=>s.1<=l.length/\s.2.1=jI (l.take s.1)) (λ(k,out,v,b,a)=>[(2,.ptr nx v 0),(3,.ptr (nx+1) b 0),(6,L l),(7,I l.length),(8,I k)]) (λ(k,out,v,b,a)=>[.cells v 96 [.sc (.slice none 0 0)],.cells b 96 [.sl (nx+2) a 1 0 out.length],.cells a 99 (out.flatMap Enc.enc)]) (λs=>l.length-s.1) (0,[],v0,v1,a) [] (by simp[jI]) EA EA ?_);rintro⟨k,out,v0,v1,a⟩ ⟨e,ho⟩;simp only at e ho ⊢;refine EJ ?_;refine ze (zA rfl (λhc=>?_) (λhc=>?_));simp at hc;obtain⟨s,tl,h,i,a3,j,f⟩:=el 2 rfl l k hc;refine zk (aA (aF [] (zq hc f) ?_));intros;have g:out.length=k:=by rw[ho];simp[jI];omega
 refine zg ?_;refine⟨by omega,?_⟩;refine zg ?_;exact zv (k+1,out++[[s]],v0,v1,a+1) [_] (by simp[a3,ho,jI];omega) ED (by simp[zy k D9]) rfl EB;simp at hc;have c:k=l.length:=D9;subst c;refine zB (EJ ?_);refine yc 2 rfl ?_;exact zj (zm d EB (by simp[ho]))
def gc(s:Stop):PP 301 [.agg [I s.c,I s.q]] (.agg [L [s]]):=by refine c9 func301 λS nx a=>?_;intro v0 v1;refine EJ ?_;exact EK a
def nK(l:List Int)(hl:l.length<=1048576)(hs:l.Pairwise (·<=·)):PP 302 [L l] (B (decide (¬l.Nodup))):=by
 refine c9 func302 λS nx f=>?_;refine ze (EJ ?_);refine zn (zF (λj:Nat=>(j=0\/j+1<=l.length)/\(l.take (j+1)).Nodup) (λj=>[(0,L l),(3,I ((j+1:Nat):Int))]) (λ_=>[]) (λj=>l.length-j) 0 [] (by cases l<;>simp) EA EA ?_);rintro j ⟨q,a⟩;repeat apply ze
 refine zg ?_;refine zA rfl (λhc=>?_) (λhc=>?_);simp at hc;have d:j+1<l.length:=D9;obtain⟨c,g,b1,b2,b3,h⟩:=zH rfl l (j+1) d;obtain⟨p,i,k,r,m,e2⟩:=zH rfl l j D9;have n:i64.wrap (j:Int)=j:=wr _ D9 D9;have g1:(j:Int)<l.length:=D9;have o:(j:Int)+1<l.length:=D9;have g3:0<=(j:Int)+1:=D9;refine zk (aA (aG none Ri (zN n h e2 g1 o g3) ?_));refine zA rfl (λb=>?_) (λb=>?_);simp at b;refine EJ ?_;exact zj (zm f rfl (by simp;exact fW b1 (by rw[k,b]) D9));simp at b;refine zk (zg ?_);have w2:i64.wrap ((j:Int)+1+1)=((j+1+1:Nat):Int):=by rw[wr _ D9 D9];omega
 exact zv (j+1) [] ⟨by omega,nG hs a m b3 (λe=>b e.symm)⟩ D9 (by simp[w2]) rfl EA;simp at hc;refine zB (EJ ?_);rw[Ad D9]at a;exact zj (zm f rfl (by simp[a]))
def nL(ss:List Stop)(e:ss.length<=1048576):PP 303 [L ss] (L (qv (ss.map (·.c)))):=by
 have a:=λS nx f=>VZ ss e S nx f;obtain⟨zs,d⟩:∃zs,zs=ss.map (·.c):=⟨_,rfl⟩;have g:ss.length=zs.length:=by rw[d];simp
 rw[<-d,g]at a;rw[<-d];have h:=Jx zs;refine c9 func303 λS nx f=>?_;refine EJ ?_;refine λb=>((a _ _ xP).mono ?_).v;rintro _ _ ⟨v1,rfl,rfl⟩;refine⟨_,_,Wv _,xQ [] Nat.add_assoc b ?_⟩;refine EJ ?_;refine λb=>((cI zs EA D9).mono ?_).v;rintro _ _ rfl;refine⟨_,_,yu _ EA EA,zS b ?_⟩;generalize qv zs=c at *;rw[<-h];refine yc 1 rfl ?_;refine EJ ?_;exact EK f
def vK(x:Inst)(l:List Stop):Int :=
 match l.find? (λs=>yd x [s] != 0) with
 |some s=>yd x [s]
 |none=>if ¬(l.map (·.c)).Nodup then 11 else 0
def Kd(x:Inst)(l:List Stop)(hx:x.y.length<=1048576)(hl:l.length<=1048576):PP 286 [.agg (zE x),L l] (I (vK x l)):=by
 have e:=nL l hl;have b:=nK (qv (l.map (·.c))) (by rw[Jx];simpa using hl) (V2 _);have f:decide (¬(qv (l.map (·.c))).Nodup)=decide (¬(l.map (·.c)).Nodup):=by rw[decide_eq_decide,fX]
 rw[f]at b;refine c9 func286 λS nx g=>?_;intro v0;refine ze (EJ ?_);refine zn (zF (λk:Nat=>k<=l.length/\(l.take k).find? (λs=>yd x [s] != 0)=none) (λk=>[(1,L l),(2,.ptr nx v0 0),(8,L l),(9,I l.length),(10,I k)]) (λ_=>[.cells v0 25 (zE x)]) (λk=>l.length-k) 0 [] EA EA EA ?_);rintro k ⟨m,d⟩;refine EJ ?_;refine ze (zA rfl (λhc=>?_) (λhc=>?_));simp at hc;obtain⟨s,tl,n,h,a3,i,j⟩:=el 2 rfl l k hc;refine zk (aA (aF [] (zD hc i j) ?_));intro v1;refine aG none RS n' ?_;refine zK (gc s) n' ?_;refine zK (V4 x [s] hx EA) n' ?_;refine EJ ?_;refine zA rfl (λh1=>?_) (λh1=>?_);simp at h1;refine EJ ?_;exact zj (zm g rfl (by simp only[vK,fY d h (by simpa using h1)];simp));simp at h1;refine zk (zg ?_);exact zv (k+1) [_] ⟨hc,nJ d a3 (by simpa using h1)⟩ D9 (by simp[zy k D9]) rfl EB;simp at hc;obtain rfl:k=l.length:=D9;rw[Ah]at d;have a:vK x l=if ¬(l.map (·.c)).Nodup then 11 else 0:=by unfold vK;rw[d]
 refine zB ?_;refine ze (EJ ?_);refine zu e ?_;refine zu b ?_;by_cases h2:(l.map (·.c)).Nodup;refine zp (by simp[h2]) ?_;refine zk (EJ ?_);exact zj (zm g EB (by simp[a,h2,zr]));refine zo (by simp[h2]) ?_;refine EJ ?_;exact zj (zm g EB (by simp[a,h2,zr]))
def Ke(x:Inst)(d:zt)(hx:x.y.length<=1048576)(hn:d.length<=1048576)(o:∀t∈d,t.length<=1048576)(hf:d.flatten.length<=1048576):PP 93 [.agg (zE x),.agg [L d]] (I (yx x d)):=by
 refine c9 func93 λS nx i=>?_;intro v0 v1;refine EJ ?_;refine ze (qa 5 3 1 rfl λe=>?_);refine EJ ?_;refine zn (zF (λs:Nat × List Int × Nat=>s.1<=d.length/\s.2.1=(d.take s.1).flatten.map (·.c)/\(d.take s.1).find? (λt=>yd x t != 0)=none) (λ(k,out,e)=>[(2,.ptr nx v0 0),(3,.ptr (nx+1) v1 0),(5,.sl (nx+2) e 1 0 out.length),(6,I k)]) (λ(k,out,e)=>[.cells v0 25 (zE x),.cells v1 96 [L d],.cells e 3 (out.flatMap Enc.enc)]) (λs=>d.length-s.1) (0,[],e) [] EA EA EA ?_);rintro⟨k,out,e⟩ ⟨p,ho,f⟩;simp only at p ho f ⊢;have g:out.length=(d.take k).flatten.length:=by rw[ho,length_map]
 refine ze (EJ ?_);refine zA rfl (λhc=>?_) (λhc=>?_);simp at hc;obtain⟨t,tl,q,r,a3,m⟩:=zH rfl d k hc;have h:=o t (Ab q);have b:(d.take (k+1)).flatten.length<=1048576:=by
  have:(d.take (k+1)).flatten.length+(d.drop (k+1)).flatten.length=d.flatten.length:=by rw[<-length_append,<-List.flatten_append,take_append_drop]
  omega
 rw[a3,List.flatten_append,length_append,BB,DO,Ay]at b;have n:out.length+t.length<=1048576:=by rw[g];exact b
 refine zk (aA (aG (some [nx,nx+1]) Rh (zq hc m) ?_));refine zK (IW x t hx h) n' ?_;by_cases hm:yd x t=0;refine ze (aF [] hm ?_);refine aC (zi [] (zq hc m) ?_);refine zu (fV t h) ?_;refine⟨by omega,?_⟩;refine zg ?_;exact zv (k+1,out++t.map (·.c),e+1) [] ⟨hc,by rw[a3,ho];simp,by rw[a3,DH,f];simp[hm]⟩ ED (by simp[zy k D9]) rfl EA;have j:=fY f r (by simpa using hm);refine ze (aF [] hm ?_);refine zo (by simp[hm]) ?_;refine EJ ?_;exact zj (zm i EB (by simp only[yx,j,zr]));simp at hc;obtain rfl:k=d.length:=D9;rw[Ah]at ho f g;have a:yx x d=if ¬(d.flatten.map (·.c)).Nodup then 11 else if x.U<d.length then 14 else 0:=by unfold yx;rw[f]
 have l:=nz out D9;rw[<-ho]at a;clear ho;refine zB (yc 2 rfl ?_);refine ze (EJ ?_);refine zu l ?_;by_cases h2:out.Nodup;refine zp (by simp[h2]) ?_;refine zk ?_;refine ze (EJ ?_);by_cases h3:x.U<d.length;refine zo (by simp[h3]) ?_;refine EJ ?_;exact zj (zm i EB (by rw[a];simp[h2,h3,zr]));refine zp ED ?_;refine zk (EJ ?_);exact zj (zm i EB (by rw[a];simp[h2,h3,zr]));refine zo (by simp[h2]) ?_;refine EJ ?_;exact zj (zm i EB (by rw[a];simp[h2,zr]))
def nM(x:Inst)(d:zt)(a:DayOk d):PP 53 [.agg (zE x),.agg [L d]] (I (W (yl x d))):=by
 have g:=a.1;refine c9 func53 λS nx h=>?_;intro v0 v1;refine EJ ?_;refine ze (EJ ?_);refine zn (zF (λs:Nat=>s<=d.length) (λk=>[(2,.ptr nx v0 0),(3,.ptr (nx+1) v1 0),(5,I (W (yl x (d.take k)))),(6,I k)]) (λ_=>[.cells v0 25 (zE x),.cells v1 96 [L d]]) (λs=>d.length-s) 0 [] EA (by simp[yl]) EA ?_);rintro k m;refine ze (EJ ?_);refine zA rfl (λhc=>?_) (λhc=>?_);simp at hc;obtain⟨t,tl,i,n,a3,j⟩:=zH rfl d k hc;have b:=Ab i;have e:=a.2 t b;have f:=a.3 t b;refine zk (aA (zC none Rl (zq hc j) ?_));refine zK (fV t e) n' ?_;refine zK (np x (t.map (·.c)) (by simpa using e) (by simpa using f)) n' ?_;have l:W (W (yl x (d.take k))+W (yT x (t.map (·.c))))=W (yl x (d.take (k+1))):=by rw[a3,nB,uk,cw]
 refine zg ?_;exact zv (k+1) [] hc D9 (by simp[zy k D9];exact l) rfl EA;simp at hc;obtain rfl:k=d.length:=D9;rw[Ah];refine zB (EJ ?_);exact EK h
structure KeyOk {α:Type} [DecidableEq α] (d:TypeDesc) (key:α->Value):Prop where
 same:∀a b,Instr.sameNow d (key a) (key b)=some (decide (a=b))
def Xt(k:IntKind):KeyOk (.int k) (λi:Int=>Value.int k i):=⟨λa b=>by simp[Instr.sameNow]⟩
def MapIs{α β:Type}(key:α->Value)(enc:β->PV)(es:List (Value × PV))(g:α->Option β):Prop :=
 ∃l:List (α × β),es=l.map (λx=>(key x.1,enc x.2))/\(l.map (·.1)).Nodup/\(∀a b,(a,b)∈l<->g a=some b)
def jQ{α β:Type}[DecidableEq α](g:α->Option β)(a:α)(v:Option β):α->Option β:=λx=>if x=a then v else g x
def nN(key:α->Value)(enc:β->PV):MapIs key enc [] (λ_=>none):=⟨[],rfl,by simp,by simp⟩
theorem nO[DecidableEq α]{d:TypeDesc}{key:α->Value}{enc:β->PV}(b:KeyOk d key)(a:α):∀(l:List (α × β)) (i:Nat),a ∉ l.map (·.1)->j5 d (key a) (l.map λx=>(key x.1,enc x.2)) i=some none
 |[],_,_=>rfl
 |x::l,i,h=>by simp only[Aw,Am,not_or]at h;simp only[Aw,j5,b.same,decide_eq_false h.1];exact nO b a l (i+1) h.2
theorem nP[DecidableEq α]{d:TypeDesc}{key:α->Value}{enc:β->PV}(c:KeyOk d key)(a:α)(b:β):∀(l:List (α × β)) (i:Nat),(l.map (·.1)).Nodup->(a,b)∈l ->
  ∃j,l[j]?=some (a,b)/\j5 d (key a) (l.map λx=>(key x.1,enc x.2)) i=some (some (i+j,enc b))
 |[],_,_,h=>by cases h
 |x::l,i,hn,h=>by
  simp only[Aw,CU]at hn;by_cases e:a=x.1;have hx:x=(a,b):=by obtain h|h:=Am.1 h;exact h.symm;simp_all
  subst hx;exact⟨0,rfl,by simp[j5,c.same]⟩;have hm:(a,b)∈l:=by obtain h|h:=Am.1 h;grind;exact h
  obtain⟨j,h1,h2⟩:=nP c a b l (i+1) hn.2 hm;refine⟨j+1,by simpa using h1,?_⟩;simp only[Aw,j5,c.same,decide_eq_false e];rw[h2,show i+1+j=i+(j+1) by omega]
theorem MapIs.find[DecidableEq α]{d:TypeDesc}{key:α->Value}{enc:β->PV}{es:List (Value × PV)}{g:α->Option β}(o:KeyOk d key)(h:MapIs key enc es g)(a:α):
  ∃c,j5 d (key a) es 0=some c/\(g a=none->c=none)/\(∀b,g a=some b->∃j,c=some (j,enc b))/\(∀b,MapIs key enc (jO (key a) (enc b) es c) (jQ g a (some b)))/\MapIs key enc (VO es c) (jQ g a none):=by
 obtain⟨l,rfl,hn,k⟩:=h;cases f:g a with
 |none =>
 have m:a ∉ l.map (·.1):=by intro hm;obtain⟨x,hx,rfl⟩:=Ak.1 hm;have:=(k x.1 x.2).1 hx;rw[f]at this;cases this
 have r:∀b,MapIs key enc (jO (key a) (enc b) (l.map λx=>(key x.1,enc x.2)) none) (jQ g a (some b)):=λb=>by
  refine⟨l++[(a,b)],by simp[jO],?_,λa' b'=>?_⟩;rotate_left
  focus
   unfold jQ;by_cases e:a'=a;subst e;simp only[if_pos,AC,AX,k,f];simp[eq_comm];simp[AC,k,e]
  rw[List.map_append,DG];refine⟨hn,by simp,λx hx y p=>?_⟩;simp at p;subst p;exact λe=>m (e ▸ hx)
 refine⟨none,nO o a l 0 m,(by intro _;rfl),(by intro b hb;cases hb),r,l,by simp[VO],hn,λa' b'=>?_⟩;grind[jQ]
 |some b0 =>
 obtain⟨j,h1,h2⟩:=nP (enc:=enc) o a b0 l 0 hn ((k a b0).2 f);have v:j<l.length:=(Af.1 h1).1;have s:l[j]=(a,b0):=(Af.1 h1).2;have n:∀(i:Nat) (hi:i<l.length),l[i].1=a->i=j:=by intro i hi w;have z:=BH.1 hn;obtain h|h|h:=Nat.lt_trichotomy i j;grind;exact h;grind
 suffices q:(∀b,MapIs key enc (jO (key a) (enc b) (l.map λx=>(key x.1,enc x.2)) (some (0+j,enc b0))) (jQ g a (some b)))/\MapIs key enc (VO (l.map λx=>(key x.1,enc x.2)) (some (0+j,enc b0))) (jQ g a none) from
  ⟨some (0+j,enc b0),h2,EA,EA,q.1,q.2⟩
 refine⟨λb=>⟨l.set j (a,b),?_,?_,λa' b'=>?_⟩,l.eraseIdx j,?_,?_,λa' b'=>?_⟩;simp[jO];grind[map_set];unfold jQ;rw[Bp];constructor;grind;intro h;by_cases e:a'=a;rw[if_pos e]at h;cases h;exact⟨j,by simp_all⟩;rw[if_neg e]at h;obtain⟨i,hi⟩:=Bp.1 ((k a' b').2 h);refine⟨i,?_⟩;grind;simp only[VO,AV];apply A3;grind;grind;unfold jQ;by_cases e:a'=a;rw[if_pos e];refine⟨λh=>?_,λh=>by cases h⟩;obtain⟨i,hi⟩:=Bp.1 h;grind;rw[if_neg e,<-k];refine⟨λh=>(List.eraseIdx_sublist l j).subset h,λh=>?_⟩;obtain⟨i,hi⟩:=Bp.1 h;have t:i≠j:=by rintro rfl;rw[h1]at hi;cases hi;exact e rfl
 rw[Bp];by_cases u:i<j;exact⟨i,by grind⟩;refine⟨i-1,?_⟩;grind
open Hp
abbrev qO:Int->Int->Bool:=λa b=>decide (a<b)
def Yx:Str qO:=⟨λa=>by simp,λa b c h1 h2=>by simp at *;omega,λa b h1 h2=>by simp at *;omega⟩
def yC(x:Int × Int):List PV:=[.sc (.int .i64 x.1),.sc (.int .i64 x.2)]
theorem Jy(x:Int × Int):(yC x).length=2:=rfl
abbrev jJ(x:Int):Value:=.int .i64 x
structure PosOk (g:Int->Option Nat) (l:zX Int):Prop where
 here:∀i,i<l.length->g (zP l i).1=some i
 gone:∀id,(∀i,i<l.length->(zP l i).1≠id)->g id=none
abbrev ge(i:Nat):PV:=.sc (.int .i64 (i:Int))
def RowIs(cs:List PV)(l:zX Int):Prop:=∃rest,cs=l.flatMap yC++rest
variable {cs:List PV}
theorem RowIs.at{l:zX Int}(h:RowIs cs l)(i:Nat)(hi:i<l.length):∃tl,cs.drop (i*2)=.sc (.int .i64 (zP l i).1)::.sc (.int .i64 (zP l i).2)::tl:=by
 obtain⟨rest,rfl⟩:=h;refine⟨(l.drop (i+1)).flatMap yC++rest,?_⟩;rw[BW (by rw[Wn yC 2 Jy];omega),mB yC 2 Jy l i hi];have:zP l i=l[i]:=by unfold zP;simp[hi]
 rw[this];rfl
theorem RowIs.big{l:zX Int}(h:RowIs cs l):l.length*2<=cs.length:=by obtain⟨rest,rfl⟩:=h;rw[length_append,Wn yC 2 Jy];omega
theorem RowIs.put{l:zX Int}(h:RowIs cs l)(i:Nat)(hi:i<l.length)(x:Int × Int):RowIs (yr cs (i*2) [.sc (.int .i64 x.1),.sc (.int .i64 x.2)]) (l.set i x):=by obtain⟨rest,rfl⟩:=h;refine⟨rest,?_⟩;have hl:(l.flatMap yC).length=l.length*2:=Wn yC 2 Jy l;show List.take (i*2) (l.flatMap yC++rest)++yC x++List.drop (i*2+2) (l.flatMap yC++rest)=_;rw[BF D9,Js yC 2 Jy,show i*2+2=(i+1)*2 by omega,BW D9,Wm yC 2 Jy];simp_all[AE]
theorem RowIs.take{l:zX Int}(h:RowIs cs l):cs.take (l.length*2)=l.flatMap yC:=by obtain⟨rest,rfl⟩:=h;rw[BF (by rw[Wn yC 2 Jy];omega),Js yC 2 Jy,Ah]
structure HS (S:Store) (hid hv rid mid mv:Nat) (l:zX Int) (g:Int->Option Nat):Prop where
 h:∃ver,S hid=.cells hv 440 [.sl rid ver 2 0 l.length,.mp mid mv]/\∃cs,S rid=.cells ver 444 cs/\RowIs cs l
 m:∃es,S mid=.map mv es/\MapIs jJ ge es g
 ne:hid≠rid/\hid≠mid/\rid≠mid
 len:l.length<=2147483648
def Offd(S:Store)(ids:List Nat)(S':Store):Prop:=∀o,o ∉ ids->S' o=S o\/S o=.dead
def Off(S:Store)(ids:List Nat)(S':Store):Prop:=∀o,o ∉ ids->S' o=S o
theorem Offd.refl(S:Store)(ids:List Nat):Offd S ids S:=λ_ _=>.inl rfl
variable {ids:List Nat}{o:Nat}
theorem Offd.set{T:Store}(h:Offd S ids T)(ho:o∈ids\/S o=.dead)(x:Ob):Offd S ids (T.set o x):=by intro i hi;by_cases e:i=o;simp_all;rw[xl _ _ _ _ e];exact h i hi
theorem Off.offd{T:Store}(h:Off S ids T):Offd S ids T:=λo ho=>.inl (h o ho)
theorem Off.trans{T U:Store}(h:Off S ids T)(k:Off T ids U):Off S ids U:=λo ho=>(k o ho).trans (h o ho)
def cut(S:Store)(ids:List Nat)(S':Store):Store:=λo=>if o∈ids then S' o else S o
def Y5(S:Store)(ids:List Nat)(S':Store):Off S ids (cut S ids S'):=λo ho=>by simp[cut,ho]
def Kf(S:Store)(ids:List Nat)(S':Store)(h:o∈ids):cut S ids S' o=S' o:=by simp[cut,h]
variable {S':Store}
def Y6(h:Offd S ids S'):∀o,cut S ids S' o=S' o\/cut S ids S' o=.dead:=by intro o;unfold cut;split;simp;rename_i ho;obtain h|h:=h o ho<;>simp_all
variable {mid:Nat}{g:Int->Option Nat}
theorem HS.congr{T:Store}{l:zX Int}(h:HS S d k i mid n l g)(e:∀o∈[d,i,mid],T o=S o):HS T d k i mid n l g:=by obtain⟨ver,h1,cs,h2,a⟩:=h.h;obtain⟨es,h3⟩:=h.m;exact⟨⟨ver,by simp_all,cs,by simp_all,a⟩,⟨es,by simp_all⟩,h.ne,h.len⟩
theorem HS.cut{T:Store}{l:zX Int}(h:HS T d k i mid n l g):HS (cut S [d,i,mid] T) d k i mid n l g:=h.congr λ_ ho=>Kf _ _ _ ho
theorem um(S:Store)(o:Nat)(x:Ob)(i:Nat):S.set o x i=if i=o then x else S i:=by grind[q11,xl]
def nQ{x:Ob}(h:S.set o x i=.dead)(hx:x≠.dead):i≠o/\S i=.dead:=by grind[um]
def Zk{x:Ob}(h:S o=x)(hx:x≠.dead)(d:S i=.dead):o≠i:=EH
def Kg{l:zX Int}(hs:HS S d k i mid n l g):
  PCalls prog 404 [.ptr d k 0] S (λp S'=>p=yk l.length/\S'=S):=by
 obtain⟨ver,h1,cs,h2,b⟩:=hs.h;refine uG func404 rfl ntmps404 (congrArg Array.toList results404) EA ?_;refine ze (js EF EB (ze (qt [] EF λK a=>?_)));simp[h1];refine a _ _ (zj ?_);simp[Yr,yk]
variable {hid hv rid:Nat}
theorem Kh{mv:Nat}{l:zX Int}(hs:HS S hid hv rid mid mv l g)(i j:Nat)(hi:i<l.length)(v:j<l.length):
  PCalls prog 405 [.ptr hid hv 0,yk i,yk j] S (λp S'=>p=uh (il qO (zP l i) (zP l j))/\S'=S):=by
 obtain⟨ver,h1,cs,h2,w⟩:=hs.h;obtain⟨x,y⟩:=w.at i hi;obtain⟨z,e2⟩:=w.at j v;refine uG func405 rfl ntmps405 (congrArg Array.toList results405) EA ?_;refine ze (js EF EB (ze ?_));refine Xm (some [hid,rid]) (pures [0,1,2,3,4,5,6,7,8,9,10,11,12,13] (.alt 14 (.alt 15 (.alt 16 (.alt 17 (.done) .stop) .stop) .stop) (.alt 15 (.alt 14 (.alt 16 (.alt 17 (.done) .stop) .stop) .stop) .stop))) mixed EF EF EF λK hK=>?_;have z1:hid≠rid:=hs.ne.1;have tail:∀(F:Nat->PV) (T:Store) (a b:Nat),F 7=.ptr a 0 0->F 8=.ptr b 0 0->T a=.cells 0 444 (yC (zP l i))->T b=.cells 0 444 (yC (zP l j))->Offd S [] T->K F T:=by intro F T a b n q ta r f;have k:∀o,S o=T o\/S o=.dead:=λo=>(f o EA).imp Eq.symm id;refine hK _ _ ?_;refine ze (ze (qt [] EF λK' s=>?_));simp[n,q,ta,r,yC];refine s _ _ (zA rfl (λhc=>?_) (λhc=>?_));refine ze (qt [] EF λK2 d=>?_);simp[n,q,ta,r,yC];refine d _ _ (zj ⟨_,S,rfl,⟨?_,rfl⟩,k⟩);simp at hc;simp[il,hc,uh];refine aB (qt [] EF λK2 d=>?_);simp[n,q,ta,r,yC];refine d _ _ (zj ⟨_,S,rfl,⟨?_,rfl⟩,k⟩);simp at hc;simp[il,hc,uh]
 simp[h1,h2,hi,v,y,e2,yk];constructor
 .refine Xn rfl EB EA λa e=>?_;have n1:=Zk h1 EA e;have m:=Zk h2 EA e;simp[h1,h2,um,n1,m];refine Xn rfl EB EA λb hb=>?_;have c:=nQ hb EA;have t:=Zk h1 EA c.2;have u:=Zk h2 EA c.2;simp[h1,h2,um,n1,m,c,t,u,c.1.symm];exact tail _ _ a b rfl rfl (by simp[um,c.1,c.1.symm,yC]) (by simp[um,c.1,c.1.symm,yC]) (by repeat (first|exact Offd.refl _ _|refine Offd.set ?_ (by first|exact .inr e|exact .inr c.2) _))
 refine Xn rfl EB EA λa e=>?_;have n1:=Zk h1 EA e;have m:=Zk h2 EA e;simp[h1,h2,um,n1,m];refine Xn rfl EB EA λb hb=>?_;have c:=nQ hb EA;have t:=Zk h1 EA c.2;have u:=Zk h2 EA c.2;simp[h1,h2,um,n1,m,c,t,u,c.1.symm];exact tail _ _ b a rfl rfl (by simp[um,c.1,c.1.symm,yC]) (by simp[um,c.1,c.1.symm,yC]) (by repeat (first|exact Offd.refl _ _|refine Offd.set ?_ (by first|exact .inr e|exact .inr c.2) _))
def Ki{mv:Nat}{l:zX Int}(hs:HS S hid hv rid mid mv l g)(i j:Nat)(hi:i<l.length)(c:j<l.length):
  PCalls prog 408 [.ptr hid hv 0,yk i,yk j] S (λ_ S'=>Off S [hid,rid,mid] S'/\HS S' hid hv rid mid mv (swp l i j) (jQ (jQ g (zP (swp l i j) i).1 (some i)) (zP (swp l i j) j).1 (some j))):=by
 obtain⟨ver,h1,cs,h2,e⟩:=hs.h;obtain⟨es,h3,h4⟩:=hs.m;obtain⟨z1,z2,z3⟩:=hs.ne;obtain⟨q,f⟩:=e.at i hi;obtain⟨r,e2⟩:=e.at j c;have b0:=e.big;have b1:i*2+2<=cs.length:=D9;have b2:j*2+2<=cs.length:=D9;refine uG func408 rfl ntmps408 (congrArg Array.toList results408) EA ?_;refine ze (Xm (some [hid]) (pures [0,1,2,3,4,5,6,7,8,9,10,11,12,13,14,15,17,18,19,20,21,22] (.alt 16 (.alt 23 RK .stop) (.alt 23 (.alt 16 RK .stop) .stop))) mixed EF EF EF λK b=>?_);have r1:=(e.put i hi (zP l j)).put j (by simpa using c) (zP l i);have s:(l.set i (zP l j)).set j (zP l i)=swp l i j:=rfl;rw[s]at r1;have d:(swp l i j).length=l.length:=Z6 l i j;have tail:∀(F:Nat->PV),F 0=.ptr hid hv 0->F 1=yk i->F 2=yk j->K F (S.set rid (.cells ver 444 (yr (yr cs (i*2) [.sc (.int .i64 (zP l j).1),.sc (.int .i64 (zP l j).2)]) (j*2) [.sc (.int .i64 (zP l i).1),.sc (.int .i64 (zP l i).2)]))):=by intro F t u v;refine b _ _ ?_;generalize w:yr (yr cs (i*2) [.sc (.int .i64 (zP l j).1),.sc (.int .i64 (zP l j).2)]) (j*2) [.sc (.int .i64 (zP l i).1),.sc (.int .i64 (zP l i).2)]=cs' at r1;obtain⟨q,f⟩:=r1.at i D9;obtain⟨r,e2⟩:=r1.at j D9;have b0:=r1.big;have b1:i*2+2<=cs'.length:=D9;have b2:j*2+2<=cs'.length:=D9;have x:Offd S [hid,rid,mid] (S.set rid (.cells ver 444 cs')):=(Offd.refl _ _).set (.inl EA) _;have k:S.set rid (.cells ver 444 cs') hid=_:=(xl _ _ _ _ z1).trans h1;have n:S.set rid (.cells ver 444 cs') rid=_:=q11 _ _ _;have t3:S.set rid (.cells ver 444 cs') mid=_:=(xl _ _ _ _ (Ne.symm z3)).trans h3;generalize S.set rid (.cells ver 444 cs')=T at x k n t3;obtain⟨a,m1,_,_,m2,_⟩:=h4.find (Xt .i64) (zP (swp l i j) i).1;refine ze (Xm (some [hid,rid]) RN mixed EF EF EF λK b=>?_);simp -implicitDefEqProofs [t,u,v,k,n,hi,c,f,e2,yk,b1,b2];refine QM (.inl rfl) underlying379 underlying3 rfl rfl rfl t3 m1 ?_;simp -implicitDefEqProofs [xl,z2,z3,k,n];refine b _ _ ?_;clear b;have o:T.set mid (.map mv (jO (jJ (zP (swp l i j) i).1) (yk i) es a)) hid=_:=(xl _ _ _ _ z2).trans k;have p:T.set mid (.map mv (jO (jJ (zP (swp l i j) i).1) (yk i) es a)) rid=_:=(xl _ _ _ _ z3).trans n;have y:T.set mid (.map mv (jO (jJ (zP (swp l i j) i).1) (yk i) es a)) mid=_:=q11 _ _ _;have z:Offd S [hid,rid,mid] (T.set mid (.map mv (jO (jJ (zP (swp l i j) i).1) (yk i) es a))):=x.set (.inl EA) _;have m3:=m2 i;obtain⟨a0,m4,_,_,m5,_⟩:=m3.find (Xt .i64) (zP (swp l i j) j).1;show PW _ _ _ _ _ _ _ (T.set mid (.map mv (jO (jJ (zP (swp l i j) i).1) (yk i) es a)));change MapIs jJ ge (jO (jJ (zP (swp l i j) i).1) (yk i) es a) _ at m3;generalize T.set mid (.map mv (jO (jJ (zP (swp l i j) i).1) (yk i) es a))=U at o p y z;refine Xm (some [hid,rid]) RN mixed EF EF EF λK b=>?_;simp -implicitDefEqProofs [t,u,v,o,p,hi,c,f,e2,yk,b1,b2];refine QM (.inl rfl) underlying379 underlying3 rfl rfl rfl y m4 ?_;simp -implicitDefEqProofs [xl,z2,z3,o,p];refine b _ _ ⟨_,_,rfl,⟨Y5 _ _ _,HS.cut ⟨⟨ver,?_,cs',?_,r1⟩,⟨_,?_,m5 j⟩,⟨z1,z2,z3⟩,?_⟩⟩,Y6 (z.set (.inl EA) _)⟩;rw[xl _ _ _ _ z2,o,d];rw[xl _ _ _ _ z3,p];exact q11 _ _ _;rw[d];exact hs.len
 simp -implicitDefEqProofs [h1,h2,hi,c,f,e2,yk,b1,b2,um,z1];exact⟨tail _ rfl rfl rfl,tail _ rfl rfl rfl⟩
def Kj:ElemOk prog 436 444 (.agg #[.int .i64 0,.int .i64 0]) 16 :=
 ⟨underlying436,by simp,by simp,by simp,by simp,by omega⟩
def Kk{mv:Nat}{l:zX Int}(hs:HS S hid hv rid mid mv l g)(x:Int × Int)(hn:l.length+1<=2147483648):
  PCalls prog 407 [.ptr hid hv 0,.ifc 444 (.agg (yC x))] S (λ_ S'=>Off S [hid,rid,mid] S'/\HS S' hid hv rid mid mv (l++[x]) (jQ g x.1 (some l.length))):=by
 obtain⟨ver,h1,cs,h2,k⟩:=hs.h;obtain⟨es,h3,v⟩:=hs.m;obtain⟨z1,z2,z3⟩:=hs.ne;have b0:=k.big;refine uG func407 rfl ntmps407 (congrArg Array.toList results407) EA ?_;refine ze (qt [] EF λK c=>?_);simp -implicitDefEqProofs [yC];refine Hr rfl underlying444 (by intro ms;simp) EB (p:=.tup [.agg (yC x),.sc (.bool true)]) (by simp[fq,yC]) ?_;simp -implicitDefEqProofs [yC];refine Xn rfl EB EA λa d=>?_;simp -implicitDefEqProofs [yC];have n1:=Zk h1 EA d;have n:=Zk h2 EA d;have f:=Zk h3 EA d;refine c _ _ ?_;clear c;have o:Offd S [hid,rid,mid] (S.set a (.cells 0 444 (yC x))):=(Offd.refl _ _).set (.inr d) _;have e:S.set a (.cells 0 444 (yC x)) hid=_:=(xl _ _ _ _ n1).trans h1;have q:S.set a (.cells 0 444 (yC x)) rid=_:=(xl _ _ _ _ n).trans h2;have t3:S.set a (.cells 0 444 (yC x)) mid=_:=(xl _ _ _ _ f).trans h3;have t4:S.set a (.cells 0 444 (yC x)) a=_:=q11 _ _ _;show PW _ _ _ _ _ _ _ (S.set a (.cells 0 444 (yC x)));generalize S.set a (.cells 0 444 (yC x))=T at o e q t3 t4;refine ze (js EF EB (zA rfl (λ_=>?_) (λh=>by simp at h)));obtain⟨b,w,_,_,y,_⟩:=v.find (Xt .i64) x.1;refine ze (Xm (some [hid,a]) (pures [0,1,2,3,4,5,6,7,8,9,10] (.alt 11 (.done) .stop)) mixed EF EF EF λK c=>?_);simp -implicitDefEqProofs [e,t4,yC];refine QM (.inl rfl) underlying379 underlying3 rfl rfl rfl t3 w ?_;simp -implicitDefEqProofs [xl,z2,f.symm,e,t4,yC];refine c _ _ ?_;clear c;have r:=y l.length;have i:T.set mid (.map mv (jO (jJ x.1) (yk l.length) es b)) hid=_:=(xl _ _ _ _ z2).trans e;have s:T.set mid (.map mv (jO (jJ x.1) (yk l.length) es b)) rid=_:=(xl _ _ _ _ z3).trans q;have t:T.set mid (.map mv (jO (jJ x.1) (yk l.length) es b)) mid=_:=q11 _ _ _;have j:T.set mid (.map mv (jO (jJ x.1) (yk l.length) es b)) a=_:=(xl _ _ _ _ f.symm).trans t4;have u:Offd S [hid,rid,mid] (T.set mid (.map mv (jO (jJ x.1) (yk l.length) es b))):=o.set (.inl EA) _;show PW _ _ _ _ _ _ _ (T.set mid (.map mv (jO (jJ x.1) (yk l.length) es b)));change MapIs jJ ge (jO (jJ x.1) (yk l.length) es b) _ at r;generalize T.set mid (.map mv (jO (jJ x.1) (yk l.length) es b))=U at i s t j u;refine Xm (some [a]) Rx mixed EF EF EF λK c=>?_;simp -implicitDefEqProofs [i,j,yC];refine Hk rfl Kj EB s (by simpa using b0) (m:=1) (ds:=yC x) (by simp[yC]) D9 D9 ?_;simp -implicitDefEqProofs [um,z1,n1.symm,n.symm,i,j,yC];have r1:RowIs (cs.take (l.length*2)++yC x) (l++[x]):=⟨[],by rw[k.take];simp⟩;refine c _ _ ⟨_,_,rfl,⟨Y5 _ _ _,HS.cut ⟨⟨ver+1,?_,_,?_,r1⟩,⟨_,?_,r⟩,⟨z1,z2,z3⟩,?_⟩⟩,Y6 ((u.set (.inl EA) _).set (.inl EA) _)⟩;rw[fp];simp;rw[xl _ _ _ _ z1.symm,fp];simp[yC];rw[xl _ _ _ _ z2.symm,xl _ _ _ _ z3.symm,t];simp;omega
def Kl{mv:Nat}{l:zX Int}(x:Int × Int)(hs:HS S hid hv rid mid mv (l++[x]) g):
  PCalls prog 406 [.ptr hid hv 0] S (λp S'=>p=.ifc 444 (.agg (yC x))/\Off S [hid,rid,mid] S'/\HS S' hid hv rid mid mv l (jQ g x.1 none)):=by
 obtain⟨ver,h1,cs,h2,i⟩:=hs.h;obtain⟨es,h3,s⟩:=hs.m;obtain⟨z1,z2,z3⟩:=hs.ne;have b0:=i.big;have e:=hs.len;simp only[length_append,Ae,Aj,AV]at h1 b0 e;refine uG func406 rfl ntmps406 (congrArg Array.toList results406) EA ?_;have t:i64.wrap (l.length:Int)=l.length:=YZ _ D9 D9;obtain⟨tl,n⟩:=i.at l.length EA;have d:zP (l++[x]) l.length=x:=by simp[zP]
 rw[d]at n;refine ze (js EF EB (ze (qt [] EF λK b=>?_)));simp -implicitDefEqProofs [h1,t];refine b _ _ ?_;clear b;refine ze (qt [] EF λK b=>?_);have c:(l.length:Int)<l.length+1:=D9;have b1:l.length*2+2<=cs.length:=D9;simp -implicitDefEqProofs [h1,h2,n,c];refine Xn rfl EB EA λa d=>?_;have n1:=Zk h1 EA d;have j:=Zk h2 EA d;have k:=Zk h3 EA d;simp -implicitDefEqProofs;refine b _ _ ?_;clear b;refine ze (qt [] EF λK b=>?_);simp -implicitDefEqProofs [um,n1,j,h1,h2,c,b1];refine b _ _ ?_;clear b;refine ze (qt [] EF λK b=>?_);simp -implicitDefEqProofs [um,n1,j,z1,h1,h2,c,b1];refine b _ _ ?_;clear b;have r1:RowIs (yr cs (l.length*2) [.sc (.int .i64 0),.sc (.int .i64 0)]) l:=by obtain⟨rest,q⟩:=i.put l.length EA (0,0);exact⟨yC (0,0)++rest,by rw[q,Bw _ _ (Ag _)];simp⟩
 have o:Offd S [hid,rid,mid] (((S.set a (.cells 0 444 (yC x))).set rid (.cells ver 444 (yr cs (l.length*2) [.sc (.int .i64 0),.sc (.int .i64 0)]))).set hid (.cells hv 440 [.sl rid ver 2 0 l.length,.mp mid mv])) :=
  (((Offd.refl _ _).set (.inr d) _).set (.inl EA) _).set (.inl EA) _
 have f:(((S.set a (.cells 0 444 (yC x))).set rid (.cells ver 444 (yr cs (l.length*2) [.sc (.int .i64 0),.sc (.int .i64 0)]))).set hid (.cells hv 440 [.sl rid ver 2 0 l.length,.mp mid mv])) hid=.cells hv 440 [.sl rid ver 2 0 l.length,.mp mid mv]:=EA;have r:(((S.set a (.cells 0 444 (yC x))).set rid (.cells ver 444 (yr cs (l.length*2) [.sc (.int .i64 0),.sc (.int .i64 0)]))).set hid (.cells hv 440 [.sl rid ver 2 0 l.length,.mp mid mv])) rid=.cells ver 444 (yr cs (l.length*2) [.sc (.int .i64 0),.sc (.int .i64 0)]):=by simp[um,z1.symm]
 have t3:(((S.set a (.cells 0 444 (yC x))).set rid (.cells ver 444 (yr cs (l.length*2) [.sc (.int .i64 0),.sc (.int .i64 0)]))).set hid (.cells hv 440 [.sl rid ver 2 0 l.length,.mp mid mv])) mid=.map mv es:=by simp[um,z2.symm,z3.symm,k,h3]
 have t4:(((S.set a (.cells 0 444 (yC x))).set rid (.cells ver 444 (yr cs (l.length*2) [.sc (.int .i64 0),.sc (.int .i64 0)]))).set hid (.cells hv 440 [.sl rid ver 2 0 l.length,.mp mid mv])) a=.cells 0 444 (yC x):=by simp[um,n1.symm,j.symm]
 show PW _ _ _ _ _ _ _ (((S.set a (.cells 0 444 (yC x))).set rid (.cells ver 444 (yr cs (l.length*2) [.sc (.int .i64 0),.sc (.int .i64 0)]))).set hid (.cells hv 440 [.sl rid ver 2 0 l.length,.mp mid mv]));generalize (((S.set a (.cells 0 444 (yC x))).set rid (.cells ver 444 (yr cs (l.length*2) [.sc (.int .i64 0),.sc (.int .i64 0)]))).set hid (.cells hv 440 [.sl rid ver 2 0 l.length,.mp mid mv]))=T at o f r t3 t4;obtain⟨u,v,_,_,_,w⟩:=s.find (Xt .i64) x.1;refine ze (Xm (some [hid,a]) (pures [0,1,2,3,4,5] (.alt 6 (.done) .stop)) mixed EF EF EF λK b=>?_);simp -implicitDefEqProofs [f,t4,yC];refine Ho rfl rfl underlying379 underlying3 rfl rfl rfl t3 v ?_;simp -implicitDefEqProofs [xl,z2,k.symm,f,t4,yC];refine b _ _ ?_;clear b;refine ze (qt [] EF λK b=>?_);simp -implicitDefEqProofs [xl,z2,k.symm,f,t4,yC];refine b _ _ (zj ⟨_,_,rfl,⟨rfl,Y5 _ _ _,HS.cut ⟨⟨ver,?_,_,?_,r1⟩,⟨_,?_,w⟩,⟨z1,z2,z3⟩,?_⟩⟩,Y6 (o.set (.inl EA) _)⟩);rw[xl _ _ _ _ z2,f];rw[xl _ _ _ _ z3,r];exact fp _ _ _;omega
def HP(S:Store)(hid hv rid mid mv:Nat)(l:zX Int):Prop:=∃g,HS S hid hv rid mid mv l g/\PosOk g l
theorem PosOk.inj{l:zX Int}(h:PosOk g l)(hi:i<l.length)(a:j<l.length)(e:(zP l i).1=(zP l j).1):i=j:=by have h1:=h.here i hi;rw[e,h.here j a]at h1;simp_all
theorem PosOk.swp{l:zX Int}(h:PosOk g l)(i j:Nat)(hi:i<l.length)(d:j<l.length):PosOk (jQ (jQ g (zP (swp l i j) i).1 (some i)) (zP (swp l i j) j).1 (some j)) (swp l i j):=by
 have a:=λk=>VD l i j k hi d;have f:(zP (Hp.swp l i j) i).1=(zP l j).1:=by rw[a i];by_cases e:i=j;rw[if_pos e,e];simp_all
 have m:(zP (Hp.swp l i j) j).1=(zP l i).1:=by rw[a j,if_pos rfl]
 rw[f,m];refine⟨λk b=>?_,λid hid=>?_⟩;rw[Z6]at b;rw[a k];unfold jQ;by_cases k1:k=j;simp_all;rw[if_neg k1];by_cases c:k=i;rw[if_pos c];rw[if_neg (λe=>k1 (by rw[c];exact(h.inj d hi e).symm)),if_pos rfl,c];rw[if_neg c,if_neg (λe=>c (h.inj b hi e)),if_neg (λe=>k1 (h.inj b d e))];exact h.here k b;unfold jQ;have n:=hid i (by rw[Z6];exact hi);have o:=hid j (by rw[Z6];exact d);rw[f]at n;rw[m]at o;rw[if_neg (Ne.symm o),if_neg (Ne.symm n)];refine h.gone id λk b e=>?_;grind[Z6]
theorem V5(l:zX Int)(x:Int × Int)(k:Nat)(a:k<l.length):zP (l++[x]) k=zP l k:=by simp_all[zP,Au]
theorem cK(l:zX Int)(x:Int × Int):zP (l++[x]) l.length=x:=by simp[zP]
theorem PosOk.push{l:zX Int}(h:PosOk g l)(x:Int × Int)(hx:g x.1=none):PosOk (jQ g x.1 (some l.length)) (l++[x]):=by refine⟨λk b=>?_,λid hid=>?_⟩;simp only[length_append,Ae,Aj,AV]at b;unfold jQ;by_cases k1:k=l.length;simp_all[cK];have a:k<l.length:=D9;rw[V5 l x k a,if_neg];exact h.here k a;intro e;have:=h.here k a;simp_all;have q:=hid l.length EA;rw[cK]at q;unfold jQ;rw[if_neg (Ne.symm q)];refine h.gone id λk b=>?_;have:=hid k ED;simp_all[V5]
theorem PosOk.pop{l:zX Int}(x:Int × Int)(h:PosOk g (l++[x])):PosOk (jQ g x.1 none) l:=by have hl:l.length<(l++[x]).length:=EA;refine⟨λk b=>?_,λid hid=>?_⟩;have a:k<(l++[x]).length:=ED;have:=h.here k a;rw[V5 l x k b]at this;unfold jQ;rw[if_neg];omega;intro e;have:=h.inj a hl (by simp_all[V5,cK]);omega;unfold jQ;by_cases e:id=x.1;rw[if_pos e];rw[if_neg e];refine h.gone id λk b=>?_;grind[cK,V5]
def nR : Wp prog 442 "Len" 404 := by intro v w; kernel_rfl
def gf : Wp prog 442 "Less" 405 := by intro v w; kernel_rfl
def gg : Wp prog 442 "Swap" 408 := by intro v w; kernel_rfl
def Km : Wp prog 442 "Push" 407 := by intro v w; kernel_rfl
def Kn : Wp prog 442 "Pop" 406 := by intro v w; kernel_rfl
abbrev hI(hid hv:Nat):PV:=.ifc 442 (.ptr hid hv 0)
theorem HP.len{l:zX Int}(h:HP S hid hv rid mid d l):l.length<=2147483648:=by obtain⟨g,h,_⟩:=h;exact h.len
theorem HP.cut{T:Store}{l:zX Int}(h:HP T hid hv rid mid d l):HP (cut S [hid,rid,mid] T) hid hv rid mid d l:=by obtain⟨g,h,k⟩:=h;exact⟨g,h.cut,k⟩
def nS{l:zX Int}(h:HP S hid hv rid mid d l):PCalls prog 404 [.ptr hid hv 0] S (λp S'=>p=yk l.length/\S'=S):=by obtain⟨g,h,_⟩:=h;exact Kg h
def gh{l:zX Int}(h:HP S hid hv rid mid d l)(i j:Nat)(hi:i<l.length)(a:j<l.length):PCalls prog 405 [.ptr hid hv 0,yk i,yk j] S (λp S'=>p=uh (il qO (zP l i) (zP l j))/\S'=S):=by obtain⟨g,h,_⟩:=h;grind[Kh]
def gi{l:zX Int}(h:HP S hid hv rid mid d l)(i j:Nat)(hi:i<l.length)(a:j<l.length):PCalls prog 408 [.ptr hid hv 0,yk i,yk j] S (λ_ S'=>Off S [hid,rid,mid] S'/\HP S' hid hv rid mid d (swp l i j)):=by obtain⟨g,h,k⟩:=h;exact(Ki h i j hi a).mono λp S' q=>⟨q.1,_,q.2,k.swp i j hi a⟩
def Ko{l:zX Int}(h:HP S hid hv rid mid d l)(x:Int × Int)(hx:∀i,i<l.length->(zP l i).1≠x.1)(hn:l.length+1<=2147483648):PCalls prog 407 [.ptr hid hv 0,.ifc 444 (.agg (yC x))] S (λ_ S'=>Off S [hid,rid,mid] S'/\HP S' hid hv rid mid d (l++[x])):=by obtain⟨g,h,k⟩:=h;exact(Kk h x hn).mono λp S' q=>⟨q.1,_,q.2,k.push x (k.gone _ hx)⟩
def Kp{l:zX Int}(x:Int × Int)(h:HP S hid hv rid mid d (l++[x])):PCalls prog 406 [.ptr hid hv 0] S (λp S'=>p=.ifc 444 (.agg (yC x))/\Off S [hid,rid,mid] S'/\HP S' hid hv rid mid d l):=by obtain⟨g,h,k⟩:=h;exact(Kl x h).mono λp S' q=>⟨q.1,q.2.1,_,q.2.2,k.pop x⟩
def Kq(j:Nat):((j:Int)-1).tdiv 2=(yv j:Nat):=by grind[yv]
def nT{mv:Nat}{l:zX Int}(h:HP S hid hv rid mid mv l)(j:Nat)(u:j<l.length):
  PCalls prog 368 [hI hid hv,yk j] S (λ_ S'=>Off S [hid,rid,mid] S'/\HP S' hid hv rid mid mv (ud qO (j+1) l j)):=by
 refine uG func368 rfl ntmps368 (congrArg Array.toList results368) EA ?_;refine zn (eX (λF S' m=>∃(c:zX Int) (jc:Nat),m=jc/\jc<c.length/\F 0=hI hid hv/\F 1=yk jc/\Off S [hid,rid,mid] S'/\HP S' hid hv rid mid mv c/\ud qO (jc+1) c jc=ud qO (j+1) l j) j ⟨l,j,rfl,u,rfl,rfl,λ_ _=>rfl,h,rfl⟩ ?_);rintro jc F T ⟨c,_,rfl,d,e,i,a,f,g⟩;have s:=f.len;have v:i64.wrap ((jc:Int)-1)=(jc:Int)-1:=YZ _ D9 D9;have t:yv jc<=jc:=by unfold yv;omega
 have w2:i64.wrap (yv jc:Int)=yv jc:=YZ _ D9 D9;refine zn (ze (qt [] EF λK b=>?_));simp -implicitDefEqProofs [e,i,yk,v,Kq,w2];refine b _ _ ?_;clear b;by_cases hc:yv jc=jc;refine ze (ze (qt [] EF λK b=>?_));simp -implicitDefEqProofs [e,i,yk,hc];refine b _ _ (zA rfl (λ_=>zB ?_) (λq=>by simp at q));refine⟨_,_,rfl,⟨Y5 _ _ _,?_⟩,Y6 a.offd⟩;rw[<-g];unfold ud;rw[if_pos (.inl hc)];exact f.cut;refine ze (ze (qt [] EF λK b=>?_));have k:¬((yv jc:Nat):Int)=jc:=D9;simp -implicitDefEqProofs [e,i,yk,hc,k];refine Y1 rfl rfl rfl gf fJ (by exact gh f jc (yv jc) d D9) λp S' n=>?_;obtain⟨rfl,rfl⟩:=n;simp -implicitDefEqProofs [uh];refine b _ _ ?_;clear b;cases hl:il qO (zP c jc) (zP c (yv jc)) with
 |false =>
 refine zA rfl (λ_=>zB ?_) (λq=>by simp at q);refine⟨_,_,rfl,⟨Y5 _ _ _,?_⟩,Y6 a.offd⟩;rw[<-g];unfold ud;rw[if_pos (.inr hl)];exact f.cut
 |true =>
 refine zA rfl (λq=>by simp at q) (λ_=>aB (qt [] EF λK b=>?_));simp -implicitDefEqProofs [e,i,yk];refine Y1 rfl rfl rfl gg fK (by exact gi f (yv jc) jc D9 d) λp S' n=>?_;obtain⟨o,r⟩:=n;refine b _ _ ?_;clear b;refine js EF EB ?_;refine⟨yv jc,⟨swp c (yv jc) jc,yv jc,rfl,by rw[Z6];omega,e,by rfl,a.trans o,r,?_⟩,by omega⟩;grind[ud,Gr]
def Kr{mv:Nat}{l:zX Int}(h:HP S hid hv rid mid mv l)(i n:Nat)(hi:i<n)(hn:n<=l.length):
  PCalls prog 371 [hI hid hv,yk i,yk n] S (λp S'=>p=uh (decide (i<(qT qO n l i n).2))/\Off S [hid,rid,mid] S'/\HP S' hid hv rid mid mv (qT qO n l i n).1):=by
 refine uG func371 rfl ntmps371 (congrArg Array.toList results371) EA ?_;refine ze (js EF EB (ze (js EF EB (ze ?_))));refine VI (Q:=λe F T=>e=.normal/\F 1=yk i/\F 7=yk (qT qO n l i n).2/\Off S [hid,rid,mid] T/\HP T hid hv rid mid mv (qT qO n l i n).1) (zn (eX (λF S' m=>∃(b:zX Int) (a:Nat),m=n-a/\a<n/\n<=b.length/\F 0=hI hid hv/\F 1=yk i/\F 2=yk n/\F 7=yk a/\Off S [hid,rid,mid] S'/\HP S' hid hv rid mid mv b/\qT qO n b a n=qT qO n l i n) (n-i) ⟨l,i,rfl,hi,hn,rfl,rfl,rfl,rfl,λ_ _=>rfl,h,rfl⟩ ?_)) ?_;rotate_left;rintro e F T ⟨rfl,f,g,k,w⟩;refine ze (qt [] EF λK c=>?_);simp -implicitDefEqProofs [f,g,yk];refine c _ _ (zj ⟨_,_,rfl,⟨?_,Y5 _ _ _,w.cut⟩,Y6 k.offd⟩);simp[uh];rintro _ F T ⟨b,a,rfl,a5,a6,j,f,o,g,k,w,r⟩;have a4:=w.len;have w1:i64.wrap (2*(a:Int))=2*(a:Int):=YZ _ D9 D9;have w2:i64.wrap (2*(a:Int)+1)=((2*a+1:Nat):Int):=by rw[YZ _ D9 D9];omega
 have z:i64.wrap (((2*a+1:Nat):Int)+1)=((2*a+2:Nat):Int):=by rw[YZ _ D9 D9];omega
 refine zn (ze (qt [] EF λK c=>?_));simp -implicitDefEqProofs only [j,f,g,yk,w1,w2];generalize s:2*a+1=k1 at w2 z;simp -implicitDefEqProofs [j,f,g,yk,w1,w2];refine c _ _ ?_;clear c;by_cases hc:n<=k1;refine ze (ze (qt [] EF λK c=>?_));have t:(n:Int)<=k1:=D9;simp -implicitDefEqProofs [j,f,o,g,yk,hc,t];refine c _ _ (zA rfl (λ_=>zB ?_) (λq=>by simp at q));have hd:qT qO n b a n=(b,a):=by
  cases n with
  |zero=>omega
  |succ n=>unfold qT;rw[if_pos D9]
 rw[r]at hd;simp_all;refine ze (ze (qt [] EF λK c=>?_));have t:¬(n:Int)<=k1:=D9;have a0:¬(k1:Int)<0:=D9;simp -implicitDefEqProofs [j,f,o,g,yk,t,a0];refine c _ _ (zA rfl (λq=>by simp at q) (λ_=>zk ?_));clear c;refine ze (js EF EB ?_);obtain⟨c1,c2,c3,c4,c5⟩:=lL Yx b a n D9;have a1:xN qO b a n<b.length:=D9;refine ze (VI (Q:=λe F' T'=>e=.normal/\T'=T/\F' 0=hI hid hv/\F' 1=yk i/\F' 2=yk n/\F' 7=yk a/\F' 9=yk (xN qO b a n)) ?_ ?_);generalize u:2*a+2=x at z;refine ze (qt [] EF λK c=>?_);simp -implicitDefEqProofs [j,f,o,g,yk,z];refine c _ _ ?_;clear c;by_cases h2:x<n
 .refine ze (qt [] EF λK c=>?_);have v:(x:Int)<n:=D9;simp -implicitDefEqProofs [j,f,o,g,yk,h2,v];refine Y1 rfl rfl rfl gf fJ (by exact gh w x k1 D9 D9) λp S' y=>?_;obtain⟨rfl,rfl⟩:=y;simp -implicitDefEqProofs [uh];refine c _ _ ?_;clear c;cases hl:il qO (zP b x) (zP b k1) with
  |true =>
  refine zA rfl (λ_=>js EF EB ?_) (λq=>by simp at q);refine⟨rfl,rfl,j,f,o,g,?_⟩;unfold xN;rw[s,u,if_pos ⟨h2,hl⟩];rfl
  |false =>
  refine zA rfl (λq=>by simp at q) (λ_=>zk ⟨rfl,rfl,j,f,o,g,?_⟩);unfold xN;rw[s,u,if_neg (by rw[hl];simp)];rfl
 refine ze (qt [] EF λK c=>?_);have v:¬(x:Int)<n:=D9;simp -implicitDefEqProofs [j,f,o,g,yk,h2,v];refine c _ _ (zA rfl (λq=>by simp at q) (λ_=>zk ⟨rfl,rfl,j,f,o,g,?_⟩));unfold xN;rw[s,u,if_neg (λq=>h2 q.1)];rfl;clear j f o g F;rintro e F S' ⟨rfl,rfl,j,f,o,g,f9⟩;have d:qT qO n b a n=if il qO (zP b (xN qO b a n)) (zP b a)=false then (b,a) else qT qO n (swp b a (xN qO b a n)) (xN qO b a n) n:=by
  cases n with
  |zero=>omega
  |succ n =>
  grind[qT,Gt]
 rw[r]at d;generalize a7:xN qO b a n=kk at *;refine ze (ze (qt [] EF λK c=>?_));simp -implicitDefEqProofs [j,f,o,g,f9,yk];refine Y1 rfl rfl rfl gf fJ (by exact gh w kk a D9 D9) λp S' y=>?_;obtain⟨rfl,rfl⟩:=y;simp -implicitDefEqProofs [uh];refine c _ _ ?_;clear c;cases hl:il qO (zP b kk) (zP b a) with
 |false =>
 rw[if_pos hl]at d;refine zA rfl (λ_=>zB ⟨rfl,f,?_,k,?_⟩) (λq=>by simp at q)<;>simp_all
 |true =>
 rw[if_neg (by rw[hl];simp)]at d;refine zA rfl (λq=>by simp at q) (λ_=>aB (qt [] EF λK c=>?_));simp -implicitDefEqProofs [j,f,o,g,f9,yk];refine Y1 rfl rfl rfl gg fK (by exact gi w a kk D9 a1) λp S' y=>?_;obtain⟨a2,a3⟩:=y;refine c _ _ ?_;clear c;refine js EF (by simp[f9];rfl) ?_;refine⟨n-kk,⟨swp b a kk,kk,rfl,c2,by simp_all[Z6],j,f,o,rfl,k.trans a2,a3,d.symm⟩,by omega⟩
end Go.Proofs.YtdjbbndbalhekaaGreatDoor.Pv
namespace Go.Proofs.YtdjbbndbalhekaaGreatDoor.Hp
section
variable {α:Type} [DecidableEq α] [Inhabited α] {lt:α->α->Bool}
def Y7(lt:α->α->Bool)(l:zX α)(i n:Nat):zX α:=if i<(qT lt n l i n).2 then (qT lt n l i n).1 else ud lt (i+1) (qT lt n l i n).1 i
def Ks(h:Str lt)(l:zX α)(i n:Nat)(hn:n<=l.length)(hi:i<n)(a:DownInv lt l n i):Yo lt (Y7 lt l i n) n/\(Y7 lt l i n).Perm l/\(Y7 lt l i n).length=l.length/\∀k,n<=k->zP (Y7 lt l i n) k=zP l k:=by obtain⟨b,c,d,f,g,e,q7⟩:=lM h n l n i hn hi D9 a;unfold Y7;split;rename_i hm;exact⟨e hm,b,c,d⟩;rename_i hm;obtain⟨r1,r2⟩:=q7 D9;rw[r1];exact lK h (i+1) l n i hn hi D9 ⟨r2,a.kids⟩
def Kt{l:zX α}(x:Int × α)(h:Yo lt l l.length):UpInv lt (l++[x]) (l.length+1) l.length:=by
 have a:∀k,k<l.length->zP (l++[x]) k=zP l k:=λk b=>by unfold zP;rw[Aa,Aa,Au b]
 refine⟨λk k0 c d=>?_,λk k0 c e f=>?_⟩;have:=ZD k0;rw[a k D9,a (yv k) D9];exact h k k0 D9;have:=ZD k0;omega
def Ku(hs:Str lt){l:zX α}(i n:Nat)(hi:i<n)(hn:n+1=l.length)(h:Yo lt l l.length):DownInv lt (swp l i n) n i:=by have a:=λk=>VD l i n k D9 D9;refine⟨λk k0 d b e=>?_,λk k0 d b i0=>?_⟩;have:=ZD k0;rw[a k,a (yv k),if_neg D9,if_neg e,if_neg D9,if_neg b];exact h k k0 D9;have:=ZD k0;have:=ZD i0;rw[a k,a (yv i),if_neg D9,if_neg D9,if_neg D9,if_neg D9];have c:=h k k0 D9;rw[b]at c;exact VE hs c (h i i0 D9)
def Kv{l:zX α}(n:Nat)(h:Yo lt l n):Yo lt (l.take n) n:=by
 intro k k0 a;have:=ZD k0;have e:∀j,j<n->zP (l.take n) j=zP l j:=λj b=>by unfold zP;rw[Aa,Aa,BT,if_pos b]
 rw[e k a,e (yv k) D9];exact h k k0 a
end
def Kw{α:Type}[Inhabited α](l:zX α)(n:Nat)(hn:n+1=l.length):l=l.take n++[zP l n]:=by apply A3;intro k;rw[List.getElem?_append];by_cases h1:k<n;rw[if_pos ED,BT,if_pos h1];rw[if_neg ED];by_cases h2:k=n;subst h2;have:k<l.length:=D9;simp[zP,this,Bm (D0 this)];rw[An D9,An ED]
end Go.Proofs.YtdjbbndbalhekaaGreatDoor.Hp
namespace Go.Proofs.YtdjbbndbalhekaaGreatDoor.Pv
open Go Hp
def HH(S:Store)(hid hv rid mid mv:Nat)(l:zX Int):Prop:=HP S hid hv rid mid mv l/\Yo qO l l.length
variable {S:Store}{hid hv rid mid i:Nat}
theorem HH.cut{T:Store}{l:zX Int}(h:HH T hid hv rid mid i l):HH (cut S [hid,rid,mid] T) hid hv rid mid i l:=⟨h.1.cut,h.2⟩
def Kx{mv:Nat}{l:zX Int}(h:HH S hid hv rid mid mv l)(x:Int × Int)(hx:∀i,i<l.length->(zP l i).1≠x.1)(hn:l.length+1<=2147483648):
  PCalls prog 358 [hI hid hv,.ifc 444 (.agg (yC x))] S (λ_ S'=>Off S [hid,rid,mid] S'/\∃l',HH S' hid hv rid mid mv l'/\l'.Perm (x::l)):=by
 obtain⟨d,e⟩:=h;refine uG func358 rfl ntmps358 (congrArg Array.toList results358) EA ?_;refine ze (qt [] EF λK b=>?_);simp -implicitDefEqProofs;refine Y1 rfl rfl rfl Km IB (by exact Ko d x hx hn) λp S1 a=>?_;obtain⟨f,c⟩:=a;refine b _ _ ?_;clear b;refine qt [] EF λK b=>?_;simp -implicitDefEqProofs;refine Y1 rfl rfl rfl nR mZ (by exact nS c) λp S2 a=>?_;obtain⟨rfl,rfl⟩:=a;have g:i64.wrap (l.length:Int)=l.length:=YZ _ D9 D9;simp -implicitDefEqProofs [yk,g];obtain⟨j,k,m,_⟩:=lK Yx (l.length+1) (l++[x]) (l.length+1) l.length EA D9 D9 (Kt x e);refine Jq rfl rfl rfl mY (by exact nT c l.length EA) λp S3 a=>?_;obtain⟨n,o⟩:=a;refine b _ _ ⟨_,_,rfl,⟨Y5 _ _ _,_,HH.cut ⟨o,?_⟩,k.trans (Da (l₁:=l) (l₂:=[x]))⟩,Y6 (f.trans n).offd⟩;rw[m];simpa using j
def Ky{mv:Nat}{l:zX Int}(h:HH S hid hv rid mid mv l)(i:Nat)(hi:i<l.length):
  PCalls prog 369 [hI hid hv,yk i] S (λp S'=>p=.ifc 444 (.agg (yC (zP l i)))/\Off S [hid,rid,mid] S'/\∃l',HH S' hid hv rid mid mv l'/\(zP l i::l').Perm l):=by
 obtain⟨r,w⟩:=h;have x:=r.len;obtain⟨n,hn⟩:∃n,n+1=l.length:=⟨l.length-1,by omega⟩;refine uG func369 rfl ntmps369 (congrArg Array.toList results369) EA ?_;refine ze (js EF EB (ze (qt [] EF λK a=>?_)));simp -implicitDefEqProofs;refine Y1 rfl rfl rfl nR mZ (by exact nS r) λp S2 d=>?_;obtain⟨rfl,rfl⟩:=d;have w1:i64.wrap ((l.length:Int)-1)=n:=by rw[YZ _ D9 D9];omega
 simp -implicitDefEqProofs [yk,w1];refine a _ _ ?_;clear a;refine ze (VI (Q:=λe F' T'=>e=.normal/\F' 0=hI hid hv/\Off S2 [hid,rid,mid] T'/\∃b:zX Int,HP T' hid hv rid mid mv b/\Yo qO b n/\b.Perm l/\b.length=l.length/\zP b n=zP l i) ?_ ?_);refine ze (js EF (by simp[yk];rfl) ?_);by_cases hc:n=i;refine zA rfl (λq=>by simp[hc]at q) (λ_=>zk ⟨rfl,rfl,λ_ _=>rfl,l,r,λk k0 kn=>w k k0 D9,.refl _,rfl,by rw[hc]⟩);have v:¬(n:Int)=i:=D9;refine zA rfl (λ_=>?_) (λq=>by simp[v]at q);refine ze (qt [] EF λK a=>?_);simp -implicitDefEqProofs [yk];refine Y1 rfl rfl rfl gg fK (by exact gi r i n D9 D9) λp S3 d=>?_;obtain⟨y,s⟩:=d;refine a _ _ ?_;clear a;have j:=Ku Yx i n D9 hn w;have f:=Z6 l i n;obtain⟨s1,s2,s3,s4⟩:=Ks Yx (swp l i n) i n D9 D9 j;have c:zP (Y7 qO (swp l i n) i n) n=zP l i:=by rw[s4 n (Ag _),VD l i n n hi D9,if_pos rfl]
 refine ze (qt [] EF λK a=>?_);simp -implicitDefEqProofs [yk];refine Jq rfl rfl rfl Iz (by exact Kr s i n D9 D9) λp S4 d=>?_;obtain⟨rfl,t,u⟩:=d;simp -implicitDefEqProofs [uh];refine a _ _ ?_;clear a;by_cases hm:i<(qT qO n (swp l i n) i n).2;refine zA rfl (λq=>by simp at q;omega) (λ_=>zk ⟨rfl,rfl,y.trans t,Y7 qO (swp l i n) i n,?_,s1,s2.trans (bw l _ _ hi D9),s3.trans f,c⟩);unfold Y7;rw[if_pos hm];exact u;refine zA rfl (λ_=>?_) (λq=>by simp at q;omega);refine qt [] EF λK a=>?_;simp -implicitDefEqProofs [yk];have a0:(qT qO n (swp l i n) i n).1.length=l.length:=((lM Yx n (swp l i n) n i D9 D9 D9 j).2.1).trans f;refine Jq rfl rfl rfl mY (by exact nT u i D9) λp S5 d=>?_;obtain⟨o5,p5⟩:=d;refine a _ _ ⟨rfl,rfl,(y.trans t).trans o5,Y7 qO (swp l i n) i n,?_,s1,s2.trans (bw l _ _ hi D9),s3.trans f,c⟩;unfold Y7;rw[if_neg hm];exact p5;rintro e F T ⟨rfl,f0,m,b,s,h3,z,a1,hx⟩;have o:=Kw b n D9;rw[hx]at o;rw[o]at s z;refine ze (qt [] EF λK a=>?_);simp -implicitDefEqProofs [f0];refine Y1 rfl rfl rfl Kn IA (by exact Kp _ s) λp S4 d=>?_;obtain⟨rfl,t,u⟩:=d;have g:Yo qO (b.take n) (b.take n).length:=by have e:(b.take n).length=n:=ED;rw[e];exact Kv n h3
 refine a _ _ (zj ⟨_,_,rfl,⟨rfl,Y5 _ _ _,_,HH.cut ⟨u,g⟩,?_⟩,Y6 (m.trans t).offd⟩);exact(Da (l₁:=[zP l i]) (l₂:=b.take n)).trans z
abbrev Zl(a b:Int × Int):Bool:=il qO a b
def Zm(r:zX Int):Prop:=r.Pairwise (λa b=>Zl a b=true)
def Y8(x:Int × Int):zX Int->zX Int
 |[]=>[x]
 |y::r=>if Zl x y=true then x::y::r else y::Y8 x r
def QP(id:Int)(r:zX Int):zX Int:=r.filter λx=>decide (x.1≠id)
def wC(id:Int)(r:zX Int):Bool:=r.any λx=>decide (x.1=id)
theorem V6(x:Int × Int):∀r,(Y8 x r).Perm (x::r)
 |[]=>.refl _
 |y::r=>by unfold Y8;split;exact .refl _;exact((V6 x r).cons y).trans (.swap x y r)
variable {a:Int × Int}
def Kz{b c:Int × Int}(h1:Zl a b=true)(h2:Zl b c=true):Zl a c=true:=(QG Yx).tr _ _ _ h1 h2
def KA{b:Int × Int}(h:Zl a b=false)(c:a.1≠b.1):Zl b a=true:=by
 cases d:Zl b a with
 |true=>rfl
 |false=>exact absurd (congrArg Prod.fst ((QG Yx).tot _ _ h d)) c
theorem nU(x:Int × Int):∀r,Zm r->(∀y∈r,y.1≠x.1)->Zm (Y8 x r)
 |[],_,_=>by simp[Y8,Zm]
 |y::r,h,hx=>by
  unfold Y8;have h':=Bs.1 h;split;rename_i hl;refine Bs.2 ⟨λz a=>?_,h⟩;obtain rfl|a:=Am.1 a;exact hl;exact Kz hl (h'.1 z a);rename_i hl;have b:Zl x y=false:=by simpa using hl
  refine Bs.2 ⟨λz a=>?_,nU x r h'.2 λz a=>hx z (BR _ a)⟩;obtain rfl|a:=Am.1 ((V6 x r).subset a);exact KA b (Ne.symm (hx y EA));exact h'.1 z a
def KB(id:Int)(r:zX Int)(h:Zm r):Zm (QP id r):=List.Pairwise.filter _ h
def HM(S:Store)(hid hv rid mid mv:Nat)(r:zX Int):Prop:=∃l,HH S hid hv rid mid mv l/\l.Perm r/\Zm r
variable {r:zX Int}
theorem HM.cut{T:Store}(h:HM T hid hv rid mid i r):HM (cut S [hid,rid,mid] T) hid hv rid mid i r:=by obtain⟨l,h,k⟩:=h;exact⟨l,h.cut,k⟩
def gj{l:zX Int}(hi:i<l.length):zP l i∈l:=by
 have:zP l i=l[i]:=by unfold zP;simp[hi]
 rw[this];exact AY hi
def gl{l:zX Int}{x:Int × Int}(h:x∈l):∃i,i<l.length/\zP l i=x:=by obtain⟨i,hi,rfl⟩:=List.getElem_of_mem h;exact⟨i,hi,by unfold zP;simp[hi]⟩
theorem HS.look{mv:Nat}{l:zX Int}{g:Int->Option Nat}(h:HS S hid hv rid mid mv l g)(k:PosOk g l)(id:Int):∃es a,S mid=.map mv es/\j5 (.int .i64) (jJ id) es 0=some a /\
  ((wC id l=false/\Y0 true (.int .i64 0) a=.tup [yk 0,.sc (.bool false)])\/(wC id l=true/\∃i,i<l.length/\(zP l i).1=id/\Y0 true (.int .i64 0) a=.tup [yk i,.sc (.bool true)])):=by
 obtain⟨es,h3,c⟩:=h.m;obtain⟨a,d,f,n,_,_⟩:=c.find (Xt .i64) id;refine⟨es,a,h3,d,?_⟩;by_cases hi:∃i,i<l.length/\(zP l i).1=id;obtain⟨i,hi,e⟩:=hi;refine .inr ⟨?_,i,hi,e,?_⟩;simp only[wC,BX];exact⟨_,gj hi,by simpa using e⟩;obtain⟨j,rfl⟩:=n i (by rw[<-e];exact k.here i hi);rfl;refine .inl ⟨?_,?_⟩;simp only[wC,CA];intro x hx;obtain⟨i,b,rfl⟩:=gl hx;simp;exact λe=>hi ⟨i,b,e⟩;have:=f (k.gone id λi b e=>hi ⟨i,b,e⟩);subst this;rfl
def gm{id:Int}{l:zX Int}(h:l.Perm r):wC id l=wC id r:=by unfold wC;rw[Dm,BX,BX];exact⟨λ⟨x,hx,e⟩=>⟨x,h.subset hx,e⟩,λ⟨x,hx,e⟩=>⟨x,h.symm.subset hx,e⟩⟩
def KC{mv:Nat}(h:HM S hid hv rid mid mv r)(id w:Int)(hn:r.length+1<=2147483648):
  PCalls prog 339 [.ptr hid hv 0,yk id,yk w] S (λp S'=>p=uh (!wC id r)/\Off S [hid,rid,mid] S'/\HM S' hid hv rid mid mv (bif wC id r then r else Y8 (id,w) r)):=by
 obtain⟨l,⟨d,s⟩,b,hs⟩:=h;have f:=d;obtain⟨g,t,u⟩:=f;obtain⟨ver,h1,cs,h2,hR⟩:=t.h;obtain⟨es,v,h3,x,c⟩:=t.look u id;refine uG func339 rfl ntmps339 (congrArg Array.toList results339) EA ?_;refine ze (js EF EB (ze (ze (qt [] EF λK a=>?_))));simp -implicitDefEqProofs [h1];refine Ys rfl underlying379 underlying3 rfl rfl rfl h3 x EB ?_;obtain⟨c,k⟩|⟨c,i,hi,hid,k⟩:=c;rw[k];simp -implicitDefEqProofs;refine a _ _ ?_;clear a;refine ze (js EF EB (zA rfl (λq=>by simp at q) (λ_=>zk ?_)));refine ze (qt [] EF λK a=>?_);simp -implicitDefEqProofs [yk];have hx:∀i,i<l.length->(zP l i).1≠id:=by
  intro i hi e;have:wC id l=true:=by simp only[wC,BX];exact⟨_,gj hi,by simpa using e⟩
  rw[c]at this;cases this
 refine Jq rfl rfl rfl Iv (by exact Kx ⟨d,s⟩ (id,w) hx (by rw[b.length_eq];exact hn)) λp S3 z=>?_;obtain⟨o3,l',m,n⟩:=z;refine a _ _ ?_;clear a;refine ze (js EF EB (zj ?_));rw[<-gm b,c];refine⟨_,_,rfl,⟨rfl,Y5 _ _ _,HM.cut ⟨l',m,n.trans (((List.Perm.cons _ b)).trans (V6 _ _).symm),nU _ _ hs λy hy e=>?_⟩⟩,Y6 o3.offd⟩;obtain⟨j,hj,rfl⟩:=gl (b.symm.subset hy);exact hx j hj e;rw[k];simp -implicitDefEqProofs;refine a _ _ ?_;clear a;refine ze (js EF EB (zA rfl (λ_=>?_) (λq=>by simp at q)));refine ze (js EF EB (zj ?_));rw[<-gm b,c];exact⟨_,_,rfl,⟨rfl,λ_ _=>rfl,⟨l,⟨d,s⟩,b,hs⟩⟩,λo=>.inl rfl⟩
def Once(r:zX Int):Prop:=(r.map (·.1)).Nodup
theorem HP.once{mv:Nat}{l:zX Int}(h:HP S hid hv rid mid mv l):Once l:=by
 obtain⟨g,_,k⟩:=h;unfold Once;refine BH.2 λi j hi a b e=>?_;simp only[length_map]at hi a;simp only[Cj]at e;have q:∀i (hi:i<l.length),zP l i=l[i]:=λi hi=>by unfold zP;simp[hi]
 have:=k.inj hi a (by rw[q i hi,q j a];exact e);omega
theorem Once.perm{l:zX Int}(h:l.Perm r)(k:Once l):Once r:=(List.Perm.nodup_iff (h.map λx:Int × Int=>x.1)).1 k
theorem HM.once(h:HM S hid hv rid mid i r):Once r:=by obtain⟨l,⟨a,_⟩,b,_⟩:=h;exact a.once.perm b
def nV{x:Int × Int}{l:zX Int}(h:Once (x::l)):QP x.1 (x::l)=l:=by unfold QP;rw[Ck,if_neg EA,List.filter_eq_self];intro y a;simp only[decide_eq_true_eq];intro e;have:=(CU.1 (show (x.1::l.map (·.1)).Nodup from h)).1;exact this (Ak.2 ⟨y,a,e⟩)
def KD{l:zX Int}(id:Int)(h:l.Perm r):(QP id l).Perm (QP id r):=h.filter _
def KE{id:Int}{l:zX Int}(h:wC id l=false):QP id l=l:=by unfold QP;rw[List.filter_eq_self];intro y a;simp only[wC,CA]at h;simpa using h y a
def KF{mv:Nat}(h:HM S hid hv rid mid mv r)(id:Int):
  PCalls prog 360 [.ptr hid hv 0,yk id] S (λp S'=>p=uh (wC id r)/\Off S [hid,rid,mid] S'/\HM S' hid hv rid mid mv (QP id r)):=by
 have hM:=h;obtain⟨l,⟨d,n⟩,k,hs⟩:=h;have e:=d;obtain⟨g,m,s⟩:=e;obtain⟨ver,h1,cs,h2,y⟩:=m.h;obtain⟨es,t,h3,u,a⟩:=m.look s id;refine uG func360 rfl ntmps360 (congrArg Array.toList results360) EA ?_;refine ze (js EF EB (ze (qt [] EF λK b=>?_)));simp -implicitDefEqProofs [h1];refine Ys rfl underlying379 underlying3 rfl rfl rfl h3 u EB ?_;rw[gm k]at a;obtain⟨a,f⟩|⟨a,i,hi,hid,f⟩:=a;rw[f];simp -implicitDefEqProofs;refine b _ _ ?_;clear b;refine ze (ze (js EF EB (zA rfl (λ_=>?_) (λq=>by simp at q))));refine ze (js EF EB (zj ?_));rw[a,KE a];exact⟨_,_,rfl,⟨rfl,λ_ _=>rfl,hM⟩,λo=>.inl rfl⟩;rw[f];simp -implicitDefEqProofs [yk];refine b _ _ ?_;clear b;refine ze (ze (js EF EB (zA rfl (λq=>by simp at q) (λ_=>zk ?_))));refine ze (qt [] EF λK b=>?_);simp -implicitDefEqProofs;refine Jq rfl rfl rfl Iy (by exact Ky ⟨d,n⟩ i hi) λp S3 v=>?_;obtain⟨_,w,l',j,c⟩:=v;refine b _ _ ?_;clear b;refine ze (js EF EB (zj ?_));rw[a];have x:QP id (zP l i::l')=l':=by rw[<-hid];exact nV (Once.perm c.symm d.once)
 refine⟨_,_,rfl,⟨rfl,Y5 _ _ _,HM.cut ⟨l',j,?_,KB id r hs⟩⟩,Y6 w.offd⟩;have:=KD id (c.trans k);rw[x]at this;exact this
end Go.Proofs.YtdjbbndbalhekaaGreatDoor.Pv
namespace Go.Proofs.YtdjbbndbalhekaaGreatDoor.Hp
section
variable {α:Type} [DecidableEq α] [Inhabited α] {lt:α->α->Bool}
def KG(hs:Str lt){l:zX α}(h:Yo lt l l.length):∀k,k<l.length->il lt (zP l k) (zP l 0)=false:=by
 intro k;induction k using Nat.strongRecOn with
 |_ k a =>
 intro b;obtain e|e:=Ca k;subst e;exact(QG hs).irr _;have:=ZD e;exact VE hs (h k e b) (a (yv k) this D9)
end
end Go.Proofs.YtdjbbndbalhekaaGreatDoor.Hp
namespace Go.Proofs.YtdjbbndbalhekaaGreatDoor.Pv
open Go Hp
variable {S:Store}{hid hv rid mid nx:Nat}{r:zX Int}
def HM.root{x:Int × Int}{l:zX Int}(h:HH S hid hv rid mid nx l)(a:l.Perm (x::r))(hs:Zm (x::r)):zP l 0=x:=by
 have hl:0<l.length:=by rw[a.length_eq];simp
 obtain⟨k,b,e⟩:=gl (a.symm.subset (Co));have h1:=KG Yx h.2 k b;rw[e]at h1;obtain h2|h2:=Am.1 (a.subset (gj hl));exact h2;have:=(Bs.1 hs).1 _ h2;rw[show Zl x (zP l 0)=false from h1]at this;cases this
def Xu:zX Int->PV
 |[]=>.tup [yk 0,yk 0,uh false]
 |x::_=>.tup [yk x.1,yk x.2,uh true]
def KH(h:HM S hid hv rid mid nx r):
  PCalls prog 359 [.ptr hid hv 0] S (λp S'=>p=Xu r/\S'=S):=by
 obtain⟨l,i,c,hs⟩:=h;have j:=i.1;obtain⟨g,k,s⟩:=j;obtain⟨ver,h1,cs,h2,m⟩:=k.h;refine uG func359 rfl ntmps359 (congrArg Array.toList results359) EA ?_;refine ze (js EF EB (ze (ze (qt [] EF λK b=>?_))));simp -implicitDefEqProofs [h1];refine b _ _ ?_;clear b;cases r with
 |nil =>
 have hl:l.length=0:=by rw[c.length_eq];rfl
 refine zA rfl (λ_=>?_) (λq=>by simp at q;exact absurd (As hl) q);refine ze (js EF EB (ze (js EF EB (zj ?_))));exact⟨_,S,rfl,⟨rfl,rfl⟩,λo=>.inl rfl⟩
 |cons x r =>
 have hl:0<l.length:=by rw[c.length_eq];simp
 have hx:=HM.root i c hs;obtain⟨tl,d⟩:=m.at 0 hl;rw[hx]at d;simp at d;refine zA rfl (λq=>by simp at q;subst q;simp at hl) (λ_=>zk ?_);refine ze (qt [] EF λK b=>?_);have f:0<l.length:=hl;simp -implicitDefEqProofs [h1,h2,f,d];refine Xn rfl EB EA λa n=>?_;simp -implicitDefEqProofs;refine b _ _ ?_;clear b;refine ze (He mixed EF EF EF EB (zj ?_));refine⟨_,S,rfl,⟨rfl,rfl⟩,λo=>?_⟩;by_cases e:o=a;exact .inr (e ▸ n);exact .inl (by rw[xl _ _ _ _ e])
def KI(h:HM S hid hv rid mid nx r):
  PCalls prog 340 [.ptr hid hv 0] S (λp S'=>p=Xu r/\Off S [hid,rid,mid] S'/\HM S' hid hv rid mid nx r.tail):=by
 refine uG func340 rfl ntmps340 (congrArg Array.toList results340) EA ?_;refine ze (js EF EB (ze (qt [] EF λK a=>?_)));simp -implicitDefEqProofs;refine Jq rfl rfl rfl Iw (by exact KH h) λp S2 b=>?_;obtain⟨rfl,rfl⟩:=b;cases r with
 |nil =>
 simp -implicitDefEqProofs [Xu];refine a _ _ ?_;clear a;refine ze (ze (js EF EB (zA rfl (λq=>by simp at q) (λ_=>zk ?_))));refine ze (js EF EB (zj ?_));exact⟨_,S2,rfl,⟨rfl,λ_ _=>rfl,h⟩,λo=>.inl rfl⟩
 |cons x r =>
 simp -implicitDefEqProofs [Xu];refine a _ _ ?_;clear a;refine ze (ze (js EF EB (zA rfl (λ_=>?_) (λq=>by simp at q))));refine qt [] EF λK a=>?_;simp -implicitDefEqProofs;refine Jq rfl rfl rfl Ix (by exact KF h x.1) λp S3 b=>?_;obtain⟨_,c,h3⟩:=b;refine a _ _ ?_;clear a;refine ze (js EF EB (zj ?_));rw[nV h.once]at h3;exact⟨_,S3,rfl,⟨rfl,c,h3⟩,λo=>.inl rfl⟩
theorem HM.congr{T:Store}(h:HM S hid hv rid mid nx r)(e:∀o∈[hid,rid,mid],T o=S o):HM T hid hv rid mid nx r:=by obtain⟨l,⟨⟨g,h,k⟩,a⟩,b,hs⟩:=h;exact⟨l,⟨⟨g,h.congr e,k⟩,a⟩,b,hs⟩
def HX(o:Ob × Ob × Ob)(a hv mv:Nat)(r:zX Int):Prop:=∀S:Store,S a=o.1->S (a+1)=o.2.1->S (a+2)=o.2.2->HM S (a+1) hv (a+2) a mv r
def Y9(obs:List Ob)(j:Nat)(o:Ob × Ob × Ob):List Ob:=((obs.set j o.1).set (j+1) o.2.1).set (j+2) o.2.2
variable {a:Nat}
theorem HM.hx(h:HM S (a+1) hv (a+2) a hid r):HX (S a,S (a+1),S (a+2)) a hv hid r:=by intro T h1 h2 h3;refine h.congr λo ho=>?_;simp at ho;obtain rfl|rfl|rfl:=ho;exact h2;exact h3;exact h1
variable {obs:List Ob}
theorem HX.hm{j:Nat}{o:Ob × Ob × Ob}(h:HX o (nx+j) hv hid r)(h1:obs[j]?=some o.1)(h2:obs[j+1]?=some o.2.1)(h3:obs[j+2]?=some o.2.2):HM (ext S nx obs) (nx+j+1) hv (nx+j+2) (nx+j) hid r:=by refine h _ ?_ ?_ ?_;rw[zZ,Aa,h1];rfl;rw[Nat.add_assoc,zZ,Aa,h2];rfl;rw[Nat.add_assoc,zZ,Aa,h3];rfl
def KJ{T:Store}{j:Nat}(h:Off (ext S nx obs) [nx+j+1,nx+j+2,nx+j] T)(hl:j+2<obs.length):T=ext S nx (Y9 obs j (T (nx+j),T (nx+j+1),T (nx+j+2))):=by funext i;by_cases h1:i=nx+j;subst h1;rw[zZ,Aa,Y9,A6 D9,A6 D9,A4 D9];rfl;by_cases h2:i=nx+j+1;subst h2;rw[Nat.add_assoc,zZ,Aa,Y9,A6 D9,A4 ED];rfl;by_cases h3:i=nx+j+2;subst h3;rw[Nat.add_assoc,zZ,Aa,Y9,A4 ED];rfl;rw[h i ED];simp only[ext];split;rfl;rw[Aa,Aa,Y9,A6 D9,A6 D9,A6 D9]
section
variable {S:Store} {nx j hv mv:Nat} {obs:List Ob} {o:Ob × Ob × Ob} {r:zX Int}
def nW{f:FuncId}{args:List PV}{q:PV}{a:zX Int}(b:qU prog f)(hl:j+2<obs.length)
  (h:PCalls prog f args (ext S nx obs) (λp T=>p=q/\Off (ext S nx obs) [nx+j+1,nx+j+2,nx+j] T/\HM T (nx+j+1) hv (nx+j+2) (nx+j) mv a)) :
  Spec prog f args (ext S nx obs) (λp T=>p=q/\∃o',HX o' (nx+j) hv mv a/\T=ext S nx (Y9 obs j o')):=by
 refine⟨b,h.mono ?_⟩;rintro p T ⟨h1,h2,h3⟩;exact⟨h1,_,h3.hx,KJ h2 hl⟩
variable (h:HX o (nx+j) hv mv r) (h1:obs[j]?=some o.1) (h2:obs[j+1]?=some o.2.1) (h3:obs[j+2]?=some o.2.2)
include h h1 h2 h3
def nX(id w:Int)(hn:r.length+1<=2147483648):SP 339 [.ptr (nx+j+1) hv 0,I id,I w] (ext S nx obs) (λp T=>p=B (!wC id r)/\∃o',HX o' (nx+j) hv mv (bif wC id r then r else Y8 (id,w) r)/\T=ext S nx (Y9 obs j o')) :=
 nW It (Af.1 h3).1 (KC (h.hm h1 h2 h3) id w hn)
def KK:SP 340 [.ptr (nx+j+1) hv 0] (ext S nx obs) (λp T=>p=Xu r/\∃o',HX o' (nx+j) hv mv r.tail/\T=ext S nx (Y9 obs j o')) :=
 nW Iu (Af.1 h3).1 (KI (h.hm h1 h2 h3))
end
def KL:SP 337 [] (ext S nx obs) (λp T=>∃hv mv o,p=.ptr (nx+obs.length+1) hv 0/\HX o (nx+obs.length) hv mv []/\T=ext S nx (obs++[o.1,o.2.1,o.2.2])):=by
 have b:=xP (S:=S) (nx:=nx) (obs:=obs);have e:∀o:Ob × Ob × Ob,ext S nx (obs++[o.1,o.2.1,o.2.2])=ext (ext S nx obs) (nx+obs.length) [o.1,o.2.1,o.2.2]:=by intro o;have c:=jP (S:=S) (nx:=nx) (obs:=obs) o.1;have d:=jP (S:=S) (nx:=nx) (obs:=obs++[o.1]) o.2.1;have f:=jP (S:=S) (nx:=nx) (obs:=obs++[o.1]++[o.2.1]) o.2.2;have q0:=jt b;have g:=jP (S:=ext S nx obs) (nx:=nx+obs.length) (obs:=[]) o.1;have h:=jP (S:=ext S nx obs) (nx:=nx+obs.length) (obs:=[o.1]) o.2.1;have j:=jP (S:=ext S nx obs) (nx:=nx+obs.length) (obs:=[o.1,o.2.1]) o.2.2;simp only[length_append,Ae,Aj,append_assoc,cons_append,AK,BJ,AV]at c d f g h j;rw[<-f,<-d,<-c,<-j,<-h,<-g,q0];simp only[Nat.add_assoc]
 generalize ext S nx obs=S1 at *;generalize nx+obs.length=m at *;refine ZI b func337 ntmps337 results337 ?_;refine EJ ?_;refine EJ ?_;intro mv hv;refine qj 1 0 444 2 rfl rfl λa=>?_;refine zj ⟨_,_,rfl,⟨hv,mv,(.map mv [],.cells hv 440 [.sl (m+2) a 2 0 0,.mp m mv],.cells a 444 []),rfl,?_,(e _).symm⟩,λo=>.inl EA⟩;intro T h1 h2 h3;refine⟨[],⟨⟨λ_=>none,⟨⟨a,h2,[],h3,[],rfl⟩,⟨[],h1,nN _ _⟩,⟨by omega,by omega,by omega⟩,by simp⟩,⟨λi hi=>by simp at hi,λ_ _=>rfl⟩⟩,λk k0 l=>by simp at l⟩,.refl _,by simp[Zm]⟩
@[simp] theorem ZCC(a b c:Ob)(l:List Ob)(o:Ob × Ob × Ob):Y9 (a::b::c::l) 0 o=o.1::o.2.1::o.2.2::l:=rfl
instance:Enc (Int × Int):=⟨λx=>[I x.1,I x.2],2,λ_=>rfl,λ_=>rfl⟩
@[simp] theorem ZCD(s:Int × Int):Enc.enc s=[I s.1,I s.2]:=rfl
@[simp high] theorem ZCE(l:zX Int):(l.flatMap Enc.enc).length=l.length*2:=ju l
@[simp high] theorem ZCF(l:zX Int):(l.flatMap Enc.enc).take (l.length*2)=l.flatMap Enc.enc:=Yt l
structure Deed where
 kind:Int
 id:Int
 w:Int
instance:Enc Deed:=⟨λd=>[I d.kind,I d.id,I d.w],3,λ_=>rfl,λ_=>rfl⟩
@[simp] theorem ZCG(d:Deed):Enc.enc d=[I d.kind,I d.id,I d.w]:=rfl
@[simp high] theorem ZCH(l:List Deed):(l.flatMap Enc.enc).length=l.length*3:=ju l
@[simp high] theorem ZCI(l:List Deed):(l.flatMap Enc.enc).take (l.length*3)=l.flatMap Enc.enc:=Yt l
open Go.Sort
def ZJ(a b:Int):Int:=if a<b then -1 else if b<a then 1 else 0
def uJ(l:List Int)(i:Nat):Int × Int:=((i:Int),l.getD i 0)
def un(l:List Int)(i j:Fin l.length):Int:=if ZJ (l.getD i 0) (l.getD j 0)=0 then ZJ (i.val:Int) j.val else ZJ (l.getD i 0) (l.getD j 0)
def V7(l:List Int)(i j:Fin l.length):ltOf (un l) i j=Zl (uJ l i) (uJ l j):=by grind[ltOf,un,ZJ,il,uJ]
def cL(l:List Int):SWO (ltOf (un l)):=by
 have H:=QG Yx;refine⟨λx=>?_,λx y z h1 h2=>?_,λx y z h1 h2=>?_⟩;rw[V7];exact H.irr _;rw[V7]at *;exact H.tr _ _ _ h1 h2;rw[V7]at *;cases h:Zl (uJ l x) (uJ l z) with
 |false=>rfl
 |true =>
 exfalso;cases h3:Zl (uJ l y) (uJ l x) with
 |true=>have a:Zl (uJ l y) (uJ l z)=true:=H.tr _ _ _ h3 h;simp_all
 |false =>
 have e:=H.tot _ _ h1 h3;simp_all
def nY(l:List Int):∀x y,ltOf (un l) x y=false->ltOf (un l) y x=false->x=y:=by intro x y h1 h2;rw[V7]at h1 h2;have:=(QG Yx).tot _ _ h1 h2;have:(x.val:Int)=y.val:=congrArg Prod.fst this;omega
def Xv(l:List Int):List (Fin l.length):=(List.finRange l.length).mergeSort λx y=>!(ltOf (un l)) y x
def gn(l:List Int):(Xv l).Perm (List.finRange l.length):=Ci _ _
def KM(l:List Int):((Xv l).map λi:Fin l.length=>uJ l i.val).Perm ((range l.length).map (uJ l)):=by
 refine((gn l).map _).trans ?_;have e:(List.finRange l.length).map (λi:Fin l.length=>uJ l i.val)=(range l.length).map (uJ l):=by apply A8;simp;simp
 rw[e]
def KN(l:List Int):(Xv l).Nodup:=(gn l).nodup_iff.2 (List.nodup_finRange _)
def KO(l:List Int):Zm ((Xv l).map λi:Fin l.length=>uJ l i.val):=by
 have H:=QG Yx;have h1:(Xv l).Pairwise λa b=>(!(ltOf (un l)) b a)=true:=by
  refine CR ?_ ?_ _;intro a b c h1 h2;simp only[Cq]at *;exact(cL l).ntrans c b a h2 h1;intro a b;simp only[Dl,Cq];cases h:ltOf (un l) b a with
  |false=>exact .inl rfl
  |true =>
  refine .inr ?_;cases h2:ltOf (un l) a b with
  |false=>rfl
  |true=>have:=(cL l).trans _ _ _ h h2;rw[(cL l).irrefl]at this;cases this
 have h2:=List.Pairwise.and h1 (KN l);unfold Zm;refine List.Pairwise.map _ ?_ h2;rintro a b ⟨h3,e⟩;have d:ltOf (un l) b a=false:=by simpa using h3
 rw[<-V7];cases h:ltOf (un l) a b with
 |true=>rfl
 |false=>exact absurd (nY l a b h d) e
def Zn(l:List Int):List Int:=(Xv l).map λi=>(i.val:Int)
def go(l:List Int):(Zn l).length=l.length:=by unfold Zn;rw[length_map,(gn l).length_eq];simp
def KP{l:List Int}{z:Int}(h:z∈Zn l):0<=z/\z<l.length:=by obtain⟨i,_,rfl⟩:=Ak.1 h;have:=i.isLt;omega
end Go.Proofs.YtdjbbndbalhekaaGreatDoor.Pv
namespace Go.Proofs.YtdjbbndbalhekaaGreatDoor.Hp
section
variable {α:Type} {lt:α->α->Bool}
def Sd(lt:α->α->Bool)(l:List α):Prop:=l.Pairwise λa b=>lt a b=true
def KQ(rows:List (List α))(i:Nat)(y:α)(tl:List α)(h:rows[i]?=some (y::tl)):rows.flatten.Perm (y::(rows.set i tl).flatten):=by
 induction rows generalizing i with
 |nil=>simp at h
 |cons r rows a =>
 cases i with
 |zero =>
 simp_all
 |succ i =>
 simp only[Bj]at h;have:=a i h;simp only[BB,AM];exact(this.append_left r).trans List.perm_middle
def KR(H:Str lt){P:List α}(u:Sd lt P){rows:List (List α)}(o:∀r∈rows,Sd lt r){k:Nat}(n:rows.flatten.Perm (P.drop k)){i:Nat}{y:α}{tl:List α}(hi:rows[i]?=some (y::tl))
  (d:∀(j:Nat) z tz,rows[j]?=some (z::tz)->j≠i->lt y z=true) :
  P[k]?=some y/\(rows.set i tl).flatten.Perm (P.drop (k+1))/\∀r∈rows.set i tl,Sd lt r:=by
 have f:=KQ rows i y tl hi;have g:Sd lt (y::tl):=o _ (Ab hi);have p:∀z∈rows.flatten,z=y\/lt y z=true:=by
  intro z v;obtain⟨r,b,c⟩:=BA.1 v;obtain⟨j,q⟩:=Bp.1 b;by_cases e:j=i;subst e;rw[hi]at q;cases q;obtain e|e:=Am.1 c;exact .inl e;exact .inr ((Bs.1 g).1 z e);cases r with
  |nil=>cases c
  |cons a w =>
  have h1:=d j a w q e;obtain e2|e2:=Am.1 c;simp_all;exact .inr (H.tr _ _ _ h1 ((Bs.1 (o _ b)).1 z e2))
 have l:y∈P.drop k:=n.subset (f.symm.subset Co);cases m:P.drop k with
 |nil=>simp_all
 |cons x rest =>
 have s:Sd lt (x::rest):=by rw[<-m];exact List.Pairwise.sublist (List.drop_sublist k P) u
 have hx:x=y:=by rw[m]at l;obtain e|e:=Am.1 l;exact e.symm;have h1:=(Bs.1 s).1 y e;obtain h|h:=p x (n.symm.subset EI);exact h;have:=H.tr _ _ _ h1 h;rw[H.irr]at this;cases this
 subst hx;have hk:P[k]?=some x:=by
  have:(P.drop k)[0]?=some x:=by rw[m];rfl
  rwa[AL,BJ]at this
 have t:P.drop (k+1)=rest:=by
  have:P.drop (k+1)=(P.drop k).drop 1:=by rw[List.drop_drop]
  rw[this,m];rfl
 refine⟨hk,?_,λr b=>?_⟩;rw[t];rw[m]at n;exact List.Perm.cons_inv (f.symm.trans n);obtain h|h:=Bo b;exact o r h;rw[h];exact(Bs.1 g).2
def KS{P:List α}{rows:List (List α)}{k:Nat}(a:rows.flatten.Perm (P.drop k))(b:k<=P.length)(h0:∀r∈rows,r=[]):k=P.length:=by have:rows.flatten=[]:=List.flatten_eq_nil_iff.2 h0;rw[this]at a;have:=a.length_eq;simp at this;omega
theorem nZ(H:Str lt):∀{a b:List α},a.Perm b->Sd lt a->Sd lt b->a=b
 |[],b,h,_,_=>by simp_all
 |x::a,[],h,_,_=>by simp_all
 |x::a,y::b,h,f,hb=>by
  have c:=Bs.1 f;have d:=Bs.1 hb;have e:x=y:=by obtain e|hx:=Am.1 (h.subset (Co));exact e;obtain e|g:=Am.1 (h.symm.subset (Co));exact e.symm;have:=H.tr _ _ _ (c.1 y g) (d.1 x hx);rw[H.irr]at this;cases this
  subst e;rw[nZ H (List.Perm.cons_inv h) c.2 d.2]
def KU(H:Str lt)(l:List α)(hn:l.Nodup):Sd lt (l.mergeSort λx y=>!lt y x):=by
 have h1:(l.mergeSort λx y=>!lt y x).Pairwise λa b=>(!lt b a)=true:=by
  refine CR ?_ ?_ _
  .intro a b c h1 h2;simp only[Cq]at *;cases e:lt c a with
   |false=>rfl
   |true =>
   exfalso;cases e2:lt b c with
   |true=>have:=H.tr _ _ _ e2 e;simp_all
   |false=>have f:=H.tot _ _ e2 h2;simp_all
  intro a b;simp only[Dl,Cq];cases e:lt b a with
  |false=>simp
  |true =>
  refine .inr ?_;cases e2:lt a b with
  |false=>rfl
  |true=>have:=H.tr _ _ _ e e2;rw[H.irr]at this;cases this
 have h2:=List.Pairwise.and h1 ((Ci l _).nodup_iff.2 hn);refine List.Pairwise.imp ?_ h2;rintro a b ⟨h3,d⟩;cases e:lt a b with
 |true=>rfl
 |false=>exact absurd (H.tot _ _ e (by simpa using h3)) d
end
end Go.Proofs.YtdjbbndbalhekaaGreatDoor.Hp
namespace Go.Proofs.YtdjbbndbalhekaaGreatDoor.Pv
open Go Hp
def ZK(x:Inst)(a b:Int):Int:=arc x (a+1) 0+arc x 0 (b+1)-arc x (a+1) (b+1)
structure Pr where
 a:Int
 b:Int
 s:Int
deriving DecidableEq
def vM(p q:Pr):Bool:=if p.s=q.s then (if p.a=q.a then decide (p.b<q.b) else decide (p.a<q.a)) else decide (q.s<p.s)
def gp:Str vM:=by refine⟨λa=>by simp[vM],λa b c h1 h2=>?_,λa b h1 h2=>?_⟩;grind[vM];obtain⟨d,e,a3⟩:=a;obtain⟨b1,b2,b3⟩:=b;grind[vM]
def wd(x:Inst)(c:List Int)(a:Int):List Pr:=(c.filter λb=>decide (b≠a)).map λb=>⟨a,b,ZK x a b⟩
def Yc(x:Inst)(c:List Int):List Pr:=c.flatMap (wd x c)
def jW(x:Inst)(c:List Int):List Pr:=(Yc x c).mergeSort λp q=>!vM q p
variable {x:Inst}{p:Pr}
theorem cM{c:List Int}:p∈Yc x c<->p.a∈c/\p.b∈c/\p.b≠p.a/\p.s=ZK x p.a p.b:=by unfold Yc wd;simp only[Bz,Ak,Bu,decide_eq_true_eq];constructor;grind;rintro⟨e,hb,d,hs⟩;exact⟨p.a,e,p.b,⟨hb,d⟩,by rw[<-hs]⟩
def oa{c:List Int}(h:c.Nodup):(Yc x c).Nodup:=by unfold Yc;unfold List.Nodup;rw[List.pairwise_flatMap];grind[wd,List.Pairwise.imp]
def gq{c:List Int}(h:c.Nodup):Sd vM (jW x c):=KU gp _ (oa h)
theorem Xw(x:Inst)(c:List Int):(jW x c).Perm (Yc x c):=Ci _ _
def KV{c:List Int}(h:c.Nodup):(jW x c).length=c.length*(c.length-1):=by
 rw[(Xw x c).length_eq];unfold Yc;rw[List.length_flatMap];have:c.map (λa=>(wd x c a).length)=c.map λ_=>c.length-1:=by refine AQ λa d=>?_;unfold wd;rw[length_map];have:=List.Nodup.erase_eq_filter h a;have h2:=DE d;rw[this]at h2;rw[<-h2];congr 1;refine List.filter_congr λb _=>?_;by_cases e:b=a<;>simp[e]
 simp_all[List.map_const']
def KW{c:List Int}(h:c.Nodup){l:List Pr}(a:l.Perm (Yc x c))(hs:Sd vM l):l=jW x c :=
 nZ gp (a.trans (Xw x c).symm) hs (gq h)
def KY{c d:List Int}(hc:c.Nodup)(a:d.Nodup)(h:c.Perm d):(Yc x c).Perm (Yc x d):=by simp_all[Du,oa,cM]
def KZ{c d:List Int}(hc:c.Nodup)(a:d.Nodup)(h:c.Perm d):jW x c=jW x d :=
 KW a ((Xw x c).trans (KY hc a h)) (gq hc)
def qu:Nat->List (List Pr)->zX Int
 |_,[]=>[]
 |i,[]::rows=>qu (i+1) rows
 |i,(p::_)::rows=>((i:Int),-p.s)::qu (i+1) rows
theorem WE:∀(rows:List (List Pr)) (i:Nat) (x:Int × Int),x∈qu i rows<->∃(k:Nat) (p:Pr) (tl:List Pr),rows[k]?=some (p::tl)/\x=(((i+k:Nat):Int),-p.s)
 |[],i,x=>by simp[qu]
 |[]::rows,i,x=>by rw[qu,WE rows (i+1) x];constructor;rintro⟨k,p,tl,h,rfl⟩;exact⟨k+1,p,tl,by simpa using h,by rw[show i+1+k=i+(k+1) by omega]⟩;grind
 |(q::a)::rows,i,x=>by rw[qu,Am,WE rows (i+1) x];constructor;rintro(rfl|⟨k,p,tl,h,rfl⟩);exact⟨0,q,a,rfl,rfl⟩;exact⟨k+1,p,tl,by simpa using h,by rw[show i+1+k=i+(k+1) by omega]⟩;grind
theorem cN:∀(rows:List (List Pr)) (i k:Nat) (p:Pr) (tl:List Pr),k<rows.length->(qu i (rows.set k (p::tl))).Perm ((((i+k:Nat):Int),-p.s)::qu i (rows.set k []))
 |[],_,_,_,_,h=>by simp at h
 |r::rows,i,0,p,tl,_=>by simp[qu]
 |[]::rows,i,k+1,p,tl,h=>by have:=cN rows (i+1) k p tl (by simpa using h);grind[qu]
 |(q::a)::rows,i,k+1,p,tl,h=>by have:=cN rows (i+1) k p tl (by simpa using h);grind[qu]
variable {rows:List (List Pr)}{k:Nat}
def La{tl:List Pr}(h:rows[k]?=some (p::tl)):(qu 0 rows).Perm ((((k:Nat):Int),-p.s)::qu 0 (rows.set k [])):=by grind[cN,List.set_getElem_self]
theorem cO:∀(rows:List (List Pr)) (i:Nat),(qu i rows).length<=rows.length
 |[],_=>by simp[qu]
 |[]::rows,i=>by have:=cO rows (i+1);grind[qu]
 |(q::a)::rows,i=>by have:=cO rows (i+1);simp_all[qu]
structure Rows' (c:List Int) (rows:List (List Pr)):Prop where
 len:rows.length=c.length
 a:∀(i:Nat) r,rows[i]?=some r->∀p∈r,c[i]?=some p.a
variable {r:zX Int}
def Lb{c:List Int}(hc:c.Pairwise (· < ·))(f:Rows' c rows){x:Int × Int}(hs:Zm (x::r))(b:(qu 0 rows).Perm (x::r)):
  ∃(i:Nat) (y:Pr) (tl:List Pr),x=((i:Int),-y.s)/\rows[i]?=some (y::tl)/\r.Perm (qu 0 (rows.set i []))/\∀(j:Nat) z d,rows[j]?=some (z::d)->j≠i->vM y z=true:=by
 obtain⟨i,y,tl,hi,g⟩:=(WE rows 0 x).1 (b.symm.subset Co);rw[AV]at g;subst g;refine⟨i,y,tl,rfl,hi,(List.Perm.cons_inv ((La hi).symm.trans b)).symm,λj z d h k=>?_⟩;have l:(((j:Nat):Int),-z.s)∈qu 0 rows:=(WE rows 0 _).2 ⟨j,z,d,h,by simp⟩;obtain e|e:=Am.1 (b.subset l);grind;have h1:=(Bs.1 hs).1 _ e;have m:=f.a i _ hi y EA;have n:=f.a j _ h z EA;grind[il,vM,List.pairwise_iff_getElem]
def jK(l:List Pr):List Int:=l.map λp=>-p.s
def Zo(l:List Pr)(i:Int):Pr:=l.getD i.toNat ⟨0,0,0⟩
def vN(x:Inst)(c:List Int)(a:Int):List Pr:=(Zn (jK (wd x c a))).map (Zo (wd x c a))
def Lc(l:List Int):(Zn l).Perm ((range l.length).map λi:Nat=>(i:Int)):=by have h:=(KM l).map (·.1);rw[B3,B3]at h;exact h
def Ld(l:List Pr):((Zn (jK l)).map (Zo l)).Perm l:=by
 refine((Lc _).map _).trans ?_;have:((range (jK l).length).map λi:Nat=>(i:Int)).map (Zo l)=l:=by rw[B3];apply A8;simp[jK];simp_all[Zo]
 rw[this]
def Le{l:List Pr}(h:∀(i j:Nat) p q,i<j->l[i]?=some p->l[j]?=some q->p.a=q.a/\p.b<q.b):Sd vM ((Zn (jK l)).map (Zo l)):=by
 have hs:=KO (jK l);unfold Zn;rw[B3];unfold Zm at hs;rw[C5]at hs;unfold Sd;rw[C5];refine List.Pairwise.imp ?_ hs;intro i j d;have hn:(jK l).length=l.length:=by simp[jK]
 have hi:i.val<l.length:=by have:=i.isLt;omega
 have c:j.val<l.length:=by have:=j.isLt;omega
 have e:l[i.val]?=some l[i.val]:=Ac hi;have f:l[j.val]?=some l[j.val]:=Ac c;have g:(jK l).getD i.val 0=-(l[i.val]).s:=by simp[jK,Aa,hi]
 have k:(jK l).getD j.val 0=-(l[j.val]).s:=by simp[jK,Aa,c]
 have m:Zo l (i.val:Int)=l[i.val]:=by simp[Zo,Aa,hi]
 have n:Zo l (j.val:Int)=l[j.val]:=by simp[Zo,Aa,c]
 grind[il,uJ,vM]
def Lf{c:List Int}(hc:c.Pairwise (· < ·))(a:Int):∀(i j:Nat) p q,i<j->(wd x c a)[i]?=some p->(wd x c a)[j]?=some q->p.a=q.a/\p.b<q.b:=by
 have h:(wd x c a).Pairwise λp q=>p.a=q.a/\p.b<q.b:=by unfold wd;rw[C5];exact List.Pairwise.imp (λh=>⟨rfl,h⟩) (List.Pairwise.filter _ hc)
 grind[List.pairwise_iff_getElem]
theorem gr(x:Inst)(c:List Int)(a:Int):(vN x c a).Perm (wd x c a):=Ld _
theorem Lg{c:List Int}(hc:c.Pairwise (· < ·))(a:Int):Sd vM (vN x c a):=Le (Lf hc a)
def Lh{c:List Int}(hc:c.Pairwise (· < ·)):Rows' c (c.map (vN x c))/\(∀r∈c.map (vN x c),Sd vM r)/\(c.map (vN x c)).flatten.Perm (jW x c):=by
 refine⟨⟨by simp,λi r d p e=>?_⟩,λr d=>?_,?_⟩;grind[gr,wd];grind[Lg];refine List.Perm.trans ?_ (Xw x c).symm;unfold Yc;rw[<-List.flatMap_def];have b:∀l:List Int,(l.flatMap (vN x c)).Perm (l.flatMap (wd x c)):=by
  intro l;induction l with
  |nil=>simp
  |cons a l f=>grind[gr]
 exact b c
def Li{c:List Int}(hc:c.Pairwise (· < ·))(h1:Rows' c rows)(h2:∀r∈rows,Sd vM r)(h3:rows.flatten.Perm ((jW x c).drop k)){f:Int × Int}(hs:Zm (f::r))(g:(qu 0 rows).Perm (f::r)):
  ∃(i:Nat) (y:Pr) (tl:List Pr),f=((i:Int),-y.s)/\rows[i]?=some (y::tl)/\r.Perm (qu 0 (rows.set i []))/\(jW x c)[k]?=some y/\Rows' c (rows.set i tl)/\(∀r∈rows.set i tl,Sd vM r)/\(rows.set i tl).flatten.Perm ((jW x c).drop (k+1)):=by
 have hn:c.Nodup:=List.Pairwise.imp (λh e=>by omega) hc;obtain⟨i,y,tl,l,e2,m,n⟩:=Lb hc h1 hs g;obtain⟨o,q,t⟩:=KR gp (gq hn) h2 h3 e2 n;refine⟨i,y,tl,l,e2,m,o,⟨by rw[Bv];exact h1.len,λj r b p d=>?_⟩,t,q⟩;rw[BG]at b;split at b;rename_i e;subst e;split at b;cases b;exact h1.a i _ e2 p (BR _ d);cases b;exact h1.a j r b p d
instance:Inhabited Pr:=⟨⟨0,0,0⟩⟩
instance:Enc Pr:=⟨λp=>[I p.a,I p.b,I p.s],3,λ_=>rfl,λ_=>rfl⟩
@[simp] theorem ZCJ(p:Pr):Enc.enc p=[I p.a,I p.b,I p.s]:=rfl
@[simp high] theorem ZCK(l:List Pr):(l.flatMap Enc.enc).length=l.length*3:=ju l
@[simp high] theorem ZCL(l:List Pr):(l.flatMap Enc.enc).take (l.length*3)=l.flatMap Enc.enc:=Yt l
def jk(x:Inst):Prop:=∀a b,0<=arc x a b/\arc x a b<=2147483648
def gt(h:jk x)(a b:Int):-2147483648<=ZK x a b/\ZK x a b<=4294967296:=by have h1:=h (a+1) 0;have h2:=h 0 (b+1);have h3:=h (a+1) (b+1);unfold ZK;omega
def Lj(x:Inst)(a b:Int)(hx:jk x)(f:qz a)(hb:qz b):PP 356 [.agg (zE x),I a,I b] (I (ZK x a b)):=by have c:=Yw f;have w2:=Yw hb;have h1:=hx (a+1) 0;have h2:=hx 0 (b+1);have h3:=hx (a+1) (b+1);have d:i64.wrap (arc x (a+1) 0+arc x 0 (b+1))=arc x (a+1) 0+arc x 0 (b+1):=wr _ D9 D9;have e:i64.wrap (arc x (a+1) 0+arc x 0 (b+1)-arc x (a+1) (b+1))=ZK x a b:=wr _ D9 D9;refine c9 func356 λS nx g=>?_;intro v0;refine aG none RE (zM c w2 d e) ?_;refine zK (ul _ _ _) (zM c w2 d e) ?_;refine zK (ul _ _ _) (zM c w2 d e) ?_;refine zK (ul _ _ _) (zM c w2 d e) ?_;exact zj (zm g rfl rfl)
def oc{vs:Array Value}(h:2=vs.size):∃u v,vs=#[u,v]:=by
 match vs,h with
 |⟨[u,v]⟩,_=>simp
variable {C:Ctx}{S:Store}{w:World}
def Lk{v:Value}(h:Rel C S w (.sc (.slice none 0 0)) v):v=.slice none 0 0:=by cases h;rfl
def Ll(n:Nat)(h0:0<n)(hn:n<=1048576)(S:Store)(nx:Nat)(g:yh nx S):
  SP 361 [.sc (.slice none 0 0),I n] S (λp S'=>∃v,p=.sl nx v 2 0 0/\S'=S.set nx (.cells v 101 [])):=by
 refine⟨qN func361 EF rfl,?_⟩;intro C w vs h hl d;obtain⟨u,v,rfl⟩:=oc hl;obtain rfl:=Lk (d 0 _ u rfl rfl);obtain rfl:=Xs (d 1 _ v rfl rfl);obtain⟨i0,a⟩:=BZ.1 fI;have f:=mX;have hc:=fH;have hb:=mW;simp only[Program.zeroOf,Program.cellsOf,Program.bytesOf',a,CI,AU,Option.getD_some,injEq]at f hc hb;refine(slices_Grow_stop i0 _ a f D9 n w h0 (by rw[hb];omega) D9).mono ?_;rintro e w' ⟨rfl,rfl⟩;have b:Fresh C S nx C.clock:=.clock C (g nx (Ag _));obtain⟨j,k⟩:=h.drew;obtain⟨l,m⟩:=j.object' b 101 ((#[]:Array Value)++Builtin.zeroCells (Value.agg #[.int .i64 0,.int .i64 0]).cells (0+n-0)++Builtin.zeroCells (Value.agg #[.int .i64 0,.int .i64 0]).cells (grownCap w (0+n) 0 101-(0+n))) [] EA (λi v hi=>by simp at hi) (λi p v o=>by simp at o);have c:=grownCap_ge w (0+n) 0 101;simp only[AV]at c;refine⟨_,_,_,_,rfl,⟨C.clock,rfl,rfl⟩,VM C S w _ _ _ _ _ _ _ _ rfl (Bx _) (Bx _) (grownCap_le_maxLen w _ _ _ (by unfold maxLen;omega)) ?_,l,k.trans m⟩;grind[size_zeroCells,Value.cells]
def Lm(ls:List (List Stop))(g:ls.length<=1048576)(h0:0<ls.flatten.length)(hn:ls.flatten.length<=1048576):PP 341 [L ls] (L ls.flatten):=by
 refine c9 func341 λS nx h=>?_;refine EJ ?_;refine ze (EJ ?_);refine zn (zF (λs:Nat × Nat=>s.1<=ls.length/\s.2=(ls.take s.1).flatten.length) (λ(k,n)=>[(0,L ls),(3,I (n:Int)),(9,L ls),(10,I ls.length),(11,I k)]) (λ_=>[]) (λs=>ls.length-s.1) (0,0) [] ⟨by simp,by simp⟩ EA EA ?_);rintro⟨k,n⟩ ⟨d,ho⟩;simp only at d ho ⊢;refine EJ ?_;refine ze (zA rfl (λhc=>?_) (λhc=>?_))
 .simp at hc;obtain⟨t,tl,i,j,a3,e⟩:=zH rfl ls k hc;have a:(ls.take (k+1)).flatten.length=n+t.length:=by rw[a3,ho];simp
  have b:(ls.take (k+1)).flatten.length<=ls.flatten.length:=by
   conv=>rhs;rw[<-take_append_drop (k+1) ls,List.flatten_append,length_append]
   omega
  have l:i64.wrap ((n:Int)+(t.length:Nat))=(n:Int)+(t.length:Nat):=wr _ D9 D9;have w2:¬((n:Int)+(t.length:Nat)<0):=D9;refine zk (aA (aF [] (zq e hc) ?_));refine aF [] l ?_;refine aF [] w2 ?_;refine zp rfl (zk (zg ?_));exact zv (k+1,n+t.length) [] ⟨hc,a.symm⟩ D9 (by simp[zy k D9]) rfl EA
 simp at hc;obtain rfl:k=ls.length:=D9;rw[Ah]at ho;rw[<-ho]at h0;have f:n<=1048576:=D9;clear ho;refine zB (EJ ?_);refine λc=>((Ll n h0 f _ _ xP).mono ?_).v;rintro _ _ ⟨v1,rfl,rfl⟩;refine⟨_,_,jP _,zS c ?_⟩;refine ze (EJ ?_);refine zn (zF (λs:Nat × List Stop × Nat=>s.1<=ls.length/\s.2.1=(ls.take s.1).flatten) (λ(k,out,v)=>[(6,.sl nx v 2 0 out.length),(25,L ls),(26,I ls.length),(27,I k)]) (λ(k,out,v)=>[.cells v 101 (out.flatMap Enc.enc)]) (λs=>ls.length-s.1) (0,[],v1) [] ⟨by simp,by simp⟩ EA EA ?_);rintro⟨k,out,v⟩ ⟨d,ho⟩;simp only at d ho ⊢;refine EJ ?_;refine ze (zA rfl (λhc=>?_) (λhc=>?_))
 .simp at hc;obtain⟨t,tl,i,j,a3,e⟩:=zH rfl ls k hc;have a:(ls.take (k+1)).flatten=out++t:=by rw[a3,ho];simp
  have b:(ls.take (k+1)).flatten.length<=ls.flatten.length:=by
   conv=>rhs;rw[<-take_append_drop (k+1) ls,List.flatten_append,length_append]
   omega
  rw[a]at b;simp only[length_append]at b;refine zk (aA (aF [] (zq e hc) ?_));refine zg ?_;refine⟨by omega,?_⟩;refine zg ?_;exact zv (k+1,out++t,v+1) [] ⟨hc,a.symm⟩ D9 (by simp[zy k D9]) rfl EA
 simp at hc;obtain rfl:k=ls.length:=D9;rw[Ah]at ho;refine zB (yc 0 rfl ?_);refine EJ ?_;exact zj (zm h EB (by simp[zr,ho]))
def Yd(T:zt)(c:Int):Nat:=T.findIdx λt=>t.any λs=>decide (s.c=c)
def Jz(a:zT):Option Int:=a[a.length-1]?.map (·.c)
def Xx(b:zT):Option Int:=b[0]?.map (·.c)
def jl(x:Inst)(num:Int)(p:Pr)(i k:Nat)(a b:zT):Bool :=
 decide (i≠k)&&decide (Jz a=some p.a)&&decide (Xx b=some p.b)&&!(decide (p.s<=0)&&decide (num<=x.U))&&decide (yd x (a++b)=0)
def V8(x:Inst)(st:zt × Int)(p:Pr)(i k:Nat):zt × Int :=
 bif jl x st.2 p i k (st.1.getD i []) (st.1.getD k []) then ((st.1.set i (st.1.getD i []++st.1.getD k [])).set k [],st.2-1) else st
def j6(x:Inst)(st:zt × Int)(p:Pr):zt × Int:=V8 x st p (Yd st.1 p.a) (Yd st.1 p.b)
def gu(x:Inst)(ss:List Stop):zt × Int:=(jW x (ss.map (·.c))).foldl (j6 x) (ss.map λs=>[s],(ss.length:Int))
def uo(x:Inst)(ss:List Stop):zt:=(gu x ss).1.filter λt=>!t.isEmpty
structure JI (ss:List Stop) (T:zt) (g:Int->Option Int):Prop where
 len:T.length=ss.length
 perm:T.flatten.Perm ss
 g:∀(i:Nat) t s,T[i]?=some t->s∈t->g s.c=some (i:Int)
variable {ss:List Stop}{g:Int->Option Int}{i:Nat}{t:zT}
theorem JI.place{T:zt}(h:JI ss T g){s:Stop}(hi:T[i]?=some t)(hs:s∈t):Yd T s.c=i:=by
 have b:∃t∈T,(t.any λs'=>decide (s'.c=s.c))=true:=⟨t,Ab hi,BX.2 ⟨s,hs,by simp⟩⟩;have a:Yd T s.c<T.length:=List.findIdx_lt_length_of_exists b;have d:=List.findIdx_getElem (w:=a);obtain⟨s',h1,h2⟩:=BX.1 d;have e:s'.c=s.c:=by simpa using h2
 have f:=h.g (Yd T s.c) _ s' (Ac a) h1;have e2:=h.g i t s hi hs;grind
theorem JI.there{T:zt}(h:JI ss T g){c:Int}(hc:c∈ss.map (·.c)):∃(i:Nat) (t:zT) (s:Stop),T[i]?=some t/\s∈t/\s.c=c/\g c=some (i:Int)/\Yd T c=i:=by obtain⟨s,hs,rfl⟩:=Ak.1 hc;obtain⟨t,b,a⟩:=BA.1 (h.perm.symm.subset hs);obtain⟨i,hi⟩:=Bp.1 b;exact⟨i,t,s,hi,a,rfl,h.g i t s hi a,h.place hi a⟩
def V9{T:zt}:∀{i:Nat} {a:zT},T[i]?=some a->T.flatten.Perm (a++(T.set i []).flatten):=by
 induction T with
 |nil=>simp
 |cons t T b =>
 intro i a h;cases i<;>grind
def Lo{T:zt}(b:zT)(h:i<T.length):(T.set i b).flatten.Perm (b++(T.set i []).flatten):=by have:=V9 (T:=T.set i b) (i:=i) (a:=b) (by simp[h]);simp_all
def Lp{T:zt}{a b:zT}(hi:T[i]?=some a)(f:T[k]?=some b)(c:i≠k):((T.set i (a++b)).set k []).flatten.Perm T.flatten:=by have d:=(Af.1 hi).1;rw[List.set_comm _ _ c];have h1:=Lo (T:=T.set k []) (i:=i) (a++b) (by simpa using d);have h2:=V9 f;have h3:=V9 (T:=T.set k []) (i:=i) (a:=a) (by rw[A6 (λe=>c e.symm)];exact hi);grind
def JA(g:Int->Option Int)(b:zT)(i:Nat)(j:Nat):Int->Option Int:=λc=>if c∈(b.take j).map (·.c) then some (i:Int) else g c
def Lq(g:Int->Option Int)(b:zT)(i:Nat):JA g b i 0=g:=by funext c;simp[JA]
variable {j:Nat}
def Lr{b:zT}{s:Stop}(h:b.take (j+1)=b.take j++[s]):jQ (JA g b i j) s.c (some (i:Int))=JA g b i (j+1):=by grind[jQ,JA]
theorem JI.join{T:zt}(h:JI ss T g){a b:zT}(hi:T[i]?=some a)(f:T[k]?=some b)(j:i≠k):JI ss ((T.set i (a++b)).set k []) (JA g b i b.length):=by have l:=(Af.1 hi).1;have o:=(Af.1 f).1;refine⟨by simp[h.len],(Lp hi f j).trans h.perm,λm t s d hs=>?_⟩;unfold JA;rw[Ah];by_cases p:k=m;simp_all;rw[A6 p]at d;by_cases e2:i=m;subst e2;rw[A4 l]at d;cases d;by_cases e:s.c∈b.map (·.c);rw[if_pos e];rw[if_neg e];obtain hs|hs:=AC.1 hs;exact h.g i a s hi hs;grind;rw[A6 e2]at d;have h1:=h.g m t s d hs;rw[if_neg];exact h1;intro e;obtain⟨s',n,q⟩:=Ak.1 e;have h2:=h.g k b s' f n;grind
theorem JI.nil:JI [] [] (λ_=>none):=⟨rfl,.refl _,λi t s h=>by simp at h⟩
theorem JI.snoc{T:zt}(h:JI ss T g)(s:Stop)(hs:s.c ∉ ss.map (·.c)):JI (ss++[s]) (T++[[s]]) (jQ g s.c (some (ss.length:Int))):=by
 refine⟨by simp[h.len],by simpa using h.perm.append_right [s],λi t s' b a=>?_⟩;unfold jQ;obtain hl|hl:=Bc i T.length;rw[Au hl]at b;have h1:s'∈ss:=h.perm.subset (BA.2 ⟨t,Ab b,a⟩);rw[if_neg];exact h.g i t s' b a;simp_all;rw[Ao hl]at b;have hi:i-T.length=0:=by have:=(Af.1 b).1;simp at this;omega
 rw[hi]at b;simp at b;subst b;simp at a;subst a;rw[if_pos rfl,<-h.len];grind
variable {n N:Nat}{Q:Exit->(Nat->PV)->Store->Prop}{F:Nat->PV}
def cP{P:Program}{r:Rd}{c:Code}{T:Store}{o ver d:Nat}{cs:List PV}(i:Nat)(hs:T o=.cells ver d cs)(hi:cs[i]?=some (.sc (.slice none 0 0)))
  (h:PW P r n N c Q F (T.set o (.cells ver d (cs.set i (.lst 0 []))))):PW P r n N c Q F T:=by
 refine QK (F':=F) (S':=T.set o (.cells ver d (cs.set i (.lst 0 [])))) (λC w a st=>?_) h;have:=st.sim.relabel (cs':=cs.set i (.lst 0 [])) hs EA (by intro k f b;rw[BG]at b;split at b;rename_i e;subst e;split at b;cases b;refine .inr ⟨_,hi,λv hv=>?_⟩;cases hv;exact .lst0;cases b;exact .inl b);exact⟨C,⟨this.1,st.size,λk=>(st.fr k).mono this.2,r.keep this.2 st.v⟩,this.2⟩
abbrev WF(x:Inst)(tid tv n:Nat)(num:Int)(mid mv:Nat):List PV:=[I x.days,I x.U,I x.R,I x.len,L x.y,L x.J,.sl tid tv 1 0 n,I num,.mp mid mv]
def gw(cs:List PV)(k:Nat)(x:PV)(h:k<cs.length):yr cs k [x]=cs.set k x:=by simp_all[yr,AE]
def oe(T:zt):T.flatMap Enc.enc=T.map λt=>L t:=by induction T<;>simp_all
variable {nx:Nat}
def qA{id:Nat}{o:Ob}(a:yh nx S)(h:S id=o)(b:o≠.dead):id<nx:=by obtain q|q:=Bc id nx;exact q;rw[a id q]at h;simp_all
def Ls(x:Inst)(ss:List Stop)(T:zt)(g:Int->Option Int)(d:Int)(es:List (Value × PV)){jid tid tv mid mv:Nat}(hx:x.y.length<=1048576)(i6:ss.length<=1000)(h6:-1048576<=d/\d<=1048576)(hI:JI ss T g)(hm:MapIs jJ I es g)
  (hj:S jid=.cells N 382 (WF x tid tv ss.length d mid mv)) (ht:S tid=.cells tv 97 (T.flatMap Enc.enc)) (f:S mid=.map mv es) (d1:jid≠tid) (d2:jid≠mid) (d3:tid≠mid)
  (p:Pr) (e8:p.a∈ss.map (·.c)) (e9:p.b∈ss.map (·.c)) :
  SP 323 [.ptr jid N 0,.agg [I p.a,I p.b,I p.s]] S (λ_ S'=>∃es' g',MapIs jJ I es' g'/\JI ss (j6 x (T,d) p).1 g' /\
   S'=((S.set jid (.cells N 382 (WF x tid tv ss.length (j6 x (T,d) p).2 mid mv))).set tid (.cells tv 97 ((j6 x (T,d) p).1.flatMap Enc.enc))).set mid (.map mv es')):=by
 obtain⟨i,a,sa,n,f0,h7,f2,f3⟩:=hI.there e8;obtain⟨k,b,sb,r,d8,h8,f5,f6⟩:=hI.there e9;have t:KeyOk (.int .i64) jJ:=Xt .i64;obtain⟨ra,d9,i7,f7,i8,j0⟩:=hm.find t p.a;obtain⟨rb,e2,j1,f8,j2,j3⟩:=hm.find t p.b;obtain⟨ja,rfl⟩:=f7 _ f2;obtain⟨jb,rfl⟩:=f8 _ f5;refine i' func323 λnx hd=>?_;have b8:jid<nx:=qA hd hj EA;have a0:tid<nx:=qA hd ht EA;have c6:mid<nx:=qA hd f EA;have xj:=λobs=>zL (S:=S) (obs:=obs) b8;have xt:=λobs=>zL (S:=S) (obs:=obs) a0;have xm:=λobs=>zL (S:=S) (obs:=obs) c6;refine EJ ?_;intro v0;have f9:=(Af.1 n).1;have g0:=(Af.1 r).1;have g1:T.getD i []=a:=by rw[Aa,n];rfl
 have g2:T.getD k []=b:=by rw[Aa,r];rfl
 have a5:j6 x (T,d) p=bif jl x d p i k a b then ((T.set i (a++b)).set k [],d-1) else (T,d):=by unfold j6 V8;simp only[f3,f6,g1,g2]
 have h:jl x d p i k a b=false->∃es' g',MapIs jJ I es' g'/\JI ss (j6 x (T,d) p).1 g' /\
   S=((S.set jid (.cells N 382 (WF x tid tv ss.length (j6 x (T,d) p).2 mid mv))).set tid (.cells tv 97 ((j6 x (T,d) p).1.flatMap Enc.enc))).set mid (.map mv es'):=by
  intro hc;rw[a5,hc];refine⟨es,g,hm,hI,?_⟩;simp only[cond_false];rw[WA S jid _ hj,WA S tid _ ht,WA S mid _ f]
 have h9:a.length<=1000:=by have h1:=(V9 n).length_eq;have h2:=hI.perm.length_eq;rw[length_append]at h1;omega
 have i5:b.length<=1000:=by have h1:=(V9 r).length_eq;have h2:=hI.perm.length_eq;rw[length_append]at h1;omega
 obtain⟨m,u⟩:∃m,a.length=m+1:=⟨a.length-1,by cases a with|nil=>cases f0|cons _ _=>simp⟩;have j4:0<b.length:=by cases b with|nil=>cases d8|cons _ _=>simp
 obtain⟨la,k4,g3,k5,k6,c7,c8⟩:=el 2 rfl a m D9;obtain⟨fb,b',a4⟩:∃fb b',b=fb::b':=by cases b with|nil=>cases d8|cons x y=>simp
 have a6:Jz a=some la.c:=by unfold Jz;rw[u,Cc,g3];rfl
 have v:Xx b=some fb.c:=by rw[a4];rfl
 obtain⟨ai,k7,i1,i2,i3,i0⟩:=zH rfl T i f9;rw[n]at i1;cases i1;obtain⟨bk,k8,k1,k2,k3,k0⟩:=zH rfl T k g0;rw[r]at k1;cases k1;have d0:=hI.len;have a7:i<ss.length:=D9;have a8:k<ss.length:=D9;refine ze (qg (nx:=nx) (σ:=Unit) (λ_=>True) (λ_=>[(0,.ptr jid N 0),(3,.ptr nx v0 0),(4,I i),(5,I k)]) (λ_=>S) (λ_=>[.cells v0 387 [I p.a,I p.b,I p.s]]) ?_ ?_);refine zC none (pures [0,1,2,3,4,5,7,8,9,10,11,12] (.alt 6 (pures [14] (.alt 13 (pures [15] .done) .stop)) (.alt 13 (.alt 6 (pures [14,15] .done) .stop) .stop))) (zN xj xt xm hj ht f) ?_;refine⟨?_,?_⟩;refine⟨by rfl,(Ys rfl underlying379 underlying3 rfl rfl rfl ((xm _).trans f) d9 z3 ?_)⟩;refine⟨by simp,xE n' ?_⟩;refine⟨by rfl,(Ys rfl underlying379 underlying3 rfl rfl rfl ((xm _).trans f) e2 z3 ?_)⟩;refine⟨by simp,xE n' ?_⟩;exact zY () [] n' (by simp[Y0]) rfl EA;refine⟨by rfl,(Ys rfl underlying379 underlying3 rfl rfl rfl ((xm _).trans f) e2 z3 ?_)⟩;refine⟨by simp,xE n' ?_⟩;refine⟨by rfl,(Ys rfl underlying379 underlying3 rfl rfl rfl ((xm _).trans f) d9 z3 ?_)⟩;refine⟨by simp,xE n' ?_⟩;exact zY () [] n' (by simp[Y0]) rfl EA;intro _ _;refine aG none R3 (zN xj xt hj ht i0 (zM k0 a7 a8 d0)) ?_;have wm:i64.wrap (m:Int)=m:=wr _ D9 D9;have k9:m<a.length:=D9;refine ze (qg (nx:=nx) (σ:=Unit) (λ_=>¬i=k/\la.c=p.a/\fb.c=p.b) (λ_=>[(0,.ptr jid N 0),(3,.ptr nx v0 0),(4,I i),(5,I k),(6,L a),(7,L b)]) (λ_=>S) (λ_=>[.cells v0 387 [I p.a,I p.b,I p.s]]) ?_ ?_)
 .by_cases h1:i=k;have hc:jl x d p i k a b=false:=by simp[jl,h1]
  refine aG none R4 (zq h1 zz) ?_;exact zo rfl (zj ⟨_,S,rfl,h hc,ye hd⟩);have d4:¬(i:Int)=(k:Int):=D9;have d5:(m:Int)<(m:Int)+1:=D9;by_cases h2:la.c=p.a;case neg =>
   have hc:jl x d p i k a b=false:=by simp[jl,a6,h2]
   refine aG none R4 (zN d4 h2 u wm d5 (zD c7 c8 zz)) ?_;exact zo rfl (zj ⟨_,S,rfl,h hc,ye hd⟩)
  by_cases h3:fb.c=p.b;case neg =>
   have hc:jl x d p i k a b=false:=by simp[jl,v,h3]
   refine aG none R4 (zN d4 h2 h3 u wm (yp d5 c7 c8 a4 zz)) ?_;exact zo rfl (zj ⟨_,S,rfl,h hc,ye hd⟩)
  refine aG none R4 (zN d4 h2 h3 u wm (yp d5 c7 c8 a4 zz)) ?_;exact zp rfl (zk (zY () [] ⟨h1,h2,h3⟩ (by simp[u,a4]) rfl EA))
 rintro _ ⟨h1,h2,h3⟩;have l0:-9223372036854775808<=d:=D9;refine ze (qg (nx:=nx) (σ:=Unit) (λ_=>¬(p.s<=0/\d<=x.U)) (λ_=>[(0,.ptr jid N 0),(3,.ptr nx v0 0),(4,I i),(5,I k),(6,L a),(7,L b)]) (λ_=>S) (λ_=>[.cells v0 387 [I p.a,I p.b,I p.s]]) ?_ ?_);by_cases h4:p.s<=0;by_cases z:d<=x.U;have hc:jl x d p i k a b=false:=by simp[jl,h4,z]
 refine aG none Ro (yp xj hj h4 z zz) ?_;exact zo rfl (zj ⟨_,S,rfl,h hc,ye hd⟩);refine aG none Ro (yp xj hj h4 z zz) ?_;exact zp rfl (zk (zY () [] D9 EA rfl EA));refine aG none Ro (zq h4 zz) ?_;exact zp rfl (zk (zY () [] D9 EA rfl EA));intro _ h4;have a9:=Lm [a,b] EA ED ED;rw[show [a,b].flatten=a++b from by simp]at a9;refine EJ ?_;refine zu a9 ?_;refine ze (qg (nx:=nx) (σ:=Unit) (λ_=>yd x (a++b)=0) (λ_=>[(0,.ptr jid N 0),(3,.ptr nx v0 0),(4,I i),(5,I k),(6,L a),(7,L b),(8,L (a++b))]) (λ_=>S) (λ_=>[.cells v0 387 [I p.a,I p.b,I p.s]]) ?_ ?_);refine aF [] (zq xj hj) ?_;refine zu (V4 x (a++b) hx ED) ?_;by_cases z:yd x (a++b)=0;refine zp (by simp[z]) ?_;exact zk (zY () [] z EA rfl EA);have hc:jl x d p i k a b=false:=by simp[jl,z]
 refine zo (by simp[z]) ?_;exact zj ⟨_,S,rfl,h hc,ye hd⟩;intro _ z;have g4:(decide (p.s<=0)&&decide (d<=x.U))=false:=Bool.eq_false_iff.2 λq=>h4 (by simpa using q);have d6:jl x d p i k a b=true:=by unfold jl;rw[g4,a6,v,h2,h3,z];simp[h1]
 rw[a5,d6];simp only[cond_true];have yj:=λ(o:Ob) obs=>(zL (S:=S.set mid o) (obs:=obs) b8).trans ((q10 _ _ _ _ d2).trans hj);have ym:=λ(o:Ob) obs=>(zL (S:=S.set mid o) (obs:=obs) c6).trans (q11 _ _ _);refine ze (EJ ?_);refine zn (xC (σ:=Nat × List (Value × PV)) (λs=>s.1<=b.length/\MapIs jJ I s.2 (JA g b i s.1)) (λs=>[(0,.ptr jid N 0),(4,I i),(5,I k),(8,L (a++b)),(90,L b),(91,I b.length),(92,I s.1)]) (λs=>S.set mid (.map mv s.2)) (λ_=>[.cells v0 387 [I p.a,I p.b,I p.s]]) (λs=>b.length-s.1) (zY (0,es) [] ⟨by simp,by rw[Lq];exact hm⟩ EA (WA S mid _ f) EA) ?_);rintro⟨j,e3⟩ ⟨g5,w⟩;simp only at g5 w ⊢;refine EJ ?_;refine ze (zA rfl (λhq=>?_) (λhq=>?_));simp at hq;obtain⟨s,tl,a1,a2,a3,e1,e0⟩:=el 2 rfl b j hq;obtain⟨rs,f1,_,_,f4,_⟩:=w.find t s.c;have b7:=f4 (i:Int);rw[Lr a3]at b7;refine zk (aA (aF [] (zD e1 e0 hq) ?_));intro v1;refine zC (some [jid,nx+1]) RU yj ?_;refine⟨by rfl,(QM (.inl rfl) underlying379 underlying3 rfl rfl rfl (ym _ _) f1 ?_)⟩;rw[qI _ c6,Store.set_set];refine⟨by simp[y8,yj],xE n' ?_⟩;refine zg ?_;exact zv (j+1,jO (jJ s.c) (I i) e3 rs) [_] ⟨hq,b7⟩ D9 (by simp[zy j D9]) rfl EB;simp at hq;obtain rfl:j=b.length:=D9;refine zB ?_;have g6:=λ(o:Ob) obs=>(zL (S:=S.set mid o) (obs:=obs) a0).trans ((q10 _ _ _ _ d3).trans ht);have e4:=λ(o o':Ob) obs=>(zL (S:=(S.set mid o).set tid o') (obs:=obs) a0).trans (q11 _ _ _);have e5:=λ(o o':Ob) obs=>(zL (S:=(S.set mid o).set tid o') (obs:=obs) b8).trans ((q10 _ _ _ _ d1).trans ((q10 _ _ _ _ d2).trans hj));have d7:(T.flatMap Enc.enc).length=ss.length:=by rw[qJ,d0]
 have g7:=gw (T.flatMap Enc.enc) i (L (a++b)) D9;have g8:=gw ((T.flatMap Enc.enc).set i (L (a++b))) k (.sc (.slice none 0 0)) ED;have e6:¬nx<=tid:=D9;have e7:¬nx<=jid:=D9;have wn:i64.wrap (d-1)=d-1:=wr _ D9 D9;refine aG (some [jid]) (pures [0,1,2,3,4,5,6,7,8,9,10,11] (.alt 12 (pures [13] (.alt 14 (.done) .stop)) .stop)) (zN yj g6 e4 e5 g7 (zN g8 a7 a8 d7 e6 d0)) ?_;refine⟨by omega,by omega,?_⟩;have g9:((((T.flatMap Enc.enc).set i (L (a++b))).set k (.sc (.slice none 0 0))).set k (.lst 0 []))=((T.set i (a++b)).set k []).flatMap Enc.enc:=by rw[List.set_set,oe,oe,map_set,map_set];rfl
 refine cP (o:=tid) k (e4 _ _ _) (by rw[A4 (by simp;omega)]) ?_;rw[qI _ a0,Store.set_set,g9];generalize ((T.set i (a++b)).set k []).flatMap Enc.enc=cs' at *;refine zi [] (zD e5 e7 wn) ?_;have e1:∀(o o' l:Ob),((S.set mid o).set tid o').set jid l=((S.set jid l).set tid o').set mid o:=by intro o o' l;rw[Store.set_comm _ jid tid _ _ (λe=>d1 e.symm),Store.set_comm _ jid mid _ _ (λe=>d2 e.symm),Store.set_comm _ tid mid _ _ (λe=>d3 e.symm)]
 rw[e1];have h0:∀(o o' l:Ob),yh nx (((S.set jid l).set tid o').set mid o):=by intro o o' l q hq;rw[q10 _ _ _ _ D9,q10 _ _ _ _ D9,q10 _ _ _ _ D9];exact hd q hq
 exact⟨_,_,rfl,⟨e3,_,w,hI.join n r h1,rfl⟩,ye (h0 _ _ _)⟩
open Go.Shelf Go.RowKit Go.Lib Go.Sort
def Se:Store:=λ_=>.dead
def Ce:Ctx:=⟨λ_=>none,0,0⟩
def Lt(w:World):Sim Ce Se w :=
 ⟨λ_ h=>absurd rfl h,(λ_ _ h=>by cases h),λ_ _ _ _ _ h=>absurd rfl h,(λ_ _ _ _ h=>by cases h),(λ_ _ _ h=>by cases h)⟩
def gx(b:Nat):¬Ce.M Se b:=by rintro⟨o,k,h,_⟩;exact h rfl
inductive Fz:PV->Prop where
 |junk:Fz .junk
 |sc (v:Value):Fz (.sc v)
 |agg {cs:List PV} (h:∀p∈cs,Fz p):Fz (.agg cs)
 |lst {n:Nat} {cs:List PV} (h:∀p∈cs,Fz p):Fz (.lst n cs)
 |ip {cs:List PV} (h:∀p∈cs,Fz p):Fz (.ip cs)
def Lu{p:PV}{v:Value}(h:Rel C S w p v):Fz p->Rel Ce Se w p v:=by
 induction h with
 |junk v=>intro _;exact .junk v
 |sc v=>intro _;exact .sc v
 |agg hl h1 _ b=>intro a;cases a with|agg a=>exact .agg hl h1 λi c v hc hv=>b i c v hc hv (a c (Ab hc))
 |tup hl _ b=>intro a;cases a
 |lst0=>intro _;exact .lst0
 |lst1 hn hm hb hM hs h1 _ b=>intro a;cases a with|lst a=>exact .lst1 hn hm hb (gx _) hs h1 λi c v hc hv=>b i c v hc hv (a c (Ab hc))
 |ip hb hM hs h1 _ b=>intro a;cases a with|ip a=>exact .ip hb (gx _) hs h1 λi c v hc hv=>b i c v hc hv (a c (Ab hc))
 |nl0=>intro a;cases a
 |nl _ _ _ _ _ _ _=>intro a;cases a
 |ptr _ _ _=>intro a;cases a
 |sl _ _ _=>intro a;cases a
 |fn _ _ _ _ _ _=>intro a;cases a
 |ifc _ _=>intro a;cases a
 |mp _ _ _=>intro a;cases a
variable {S':Store}
theorem Lv{W w':World}(h:Step Ce Se W C S' w'):∃q os',w'=grow (W.drewN q) os':=by obtain⟨p,a⟩:=regrown_of_below (w:=W) (w':=w') ⟨h.os,h.tape.1,h.output,h.size,λb hb=>(h.blocks b hb (gx b)).1⟩;have c:=h.tape.2;rw[a]at c;refine⟨p.d-W.drawn,p.os,?_⟩;simp_all[grow,redrawn,World.drewN]
section
variable {P:Program} {α:Type} [Inhabited α] {val:α->Int}
def Lw{x:Int}{v:Value}(h:Rel C S w (I x) v):v=.int .i64 x:=by cases h;rfl
abbrev up(val:α->Int)(x:α):Value:=.int .i64 (val x)
variable {a:List PV}{b:Nat}
def Lx{g:Nat}{j:α->α->Int}(k:∀x y:α,Pure P g (I (val x)::I (val y)::a) (I (j x y)))(f:Array Value)(hl:a.length=f.size)
  (n:∀(m:Nat) (os:Array Obj) (h:Array α),h.size=N->∀(i:Nat) (c:PV) (v:Value),a[i]?=some c->f[i]?=some v->Rel Ce Se (sortWorld (up val) w b 0 m h os) c v):CmpLays1 P g f (up val) j b 0 N w:=by
 intro m os h hs x y;refine((k x y Se).2 Ce (sortWorld (up val) w b 0 m h os) (#[up val x,up val y]++f) (Lt _) ED ?_).mono ?_
 .intro i c v hc hv
  match i with
  |0=>rw[BC EA]at hv;cases hc;cases hv;exact .sc _
  |1=>rw[BC EA]at hv;cases hc;cases hv;exact .sc _
  |i+2 =>
  grind
 rintro e w' ⟨p,v,S',C',rfl,⟨rfl,rfl⟩,d,_,l⟩;cases d;grind[Lv]
def og(r:Sim C S w){id ver e:Nat}{g:List PV}{c:Array Value}(hid:S id=.cells ver e g)(g1:C.loc id=some (b,k))(o:w.heap[b]?=some (.cells c e (0,0)))(g3:c.size=k)(a:Array α)(h:a.size<=k)(q:Nat)(os:Array Obj):
  Sim (C.at id ver (C.loc id)) (S.set id (.cells ver e (a.toList.map λx=>I (val x)))) (sortWorld (up val) w b 0 q a os) /\
  Step C S w (C.at id ver (C.loc id)) (S.set id (.cells ver e (a.toList.map λx=>I (val x)))) (sortWorld (up val) w b 0 q a os):=by
 have hb:b<w.heap.size:=jh o;have s:(sortWorld (up val) w b 0 q a os).heap[b]?=some (.cells (putCells (up val) 0 a c) e (0,0)):=by unfold sortWorld;rw[heap_grow_old _ _ (by simpa using hb)];simp[putRow,mapBlock,Sort.ahead,BL,o,onCells]
 have t:w.grownBy (sortWorld (up val) w b 0 q a os) (some b):=by refine⟨rfl,rfl,rfl,by simp[sortWorld],λj u m=>?_⟩;unfold sortWorld;rw[heap_grow_old _ _ (by simpa using u)];have:b≠j:=λe=>m (by rw[e]);simp[putRow,mapBlock,Sort.ahead,BL,this]
 have d:∀i,i<a.size->∀v,(putCells (up val) 0 a c)[i]?=some v->v=up val a[i]!:=by intro i hi v hv;have n:i<c.size:=D9;simp[putCells,hi,n]at hv;rw[<-hv,getElem!_pos a i hi]
 refine r.turn (l:=C.loc id) (ver':=ver) (cs':=a.toList.map λx=>I (val x)) hid (Ag _) (λ_=>rfl) ⟨by simp_all,De _ _⟩
  (.inr ⟨b,k,_,g1,.inr (by rw[g1];rfl),s,by simp_all[putCells],by simpa using h,λi v hi hv=>?_,λi p v f hv=>?_⟩)
 rw[d i (by simpa using hi) v hv];rfl;have hi:i<a.size:=by have:=(Af.1 f).1;simpa using this
 rw[d i hi v hv];rw[Ai,Array.getElem?_toList,A5 hi]at f;simp only[AU,injEq]at f;rw[<-f,getElem!_pos a i hi];exact .sc _
def Ly{ρ:Ren}(L:SlLaysF.n6 P ρ)(d:qU P (ρ.f 6)){id ver:Nat}{f:PV}:Spec P (ρ.f 6) [.sl id ver 1 0 0,f] S (λp S'=>S'=S):=by
 refine⟨d,?_⟩;intro C w vs g hl h;obtain⟨v0,v1,rfl⟩:∃v0 v1,vs=#[v0,v1]:=by
  match vs,hl with
  |⟨[a,b]⟩,_=>simp
 have c:=h 0 _ v0 rfl rfl;cases c with
 |sl h1 h2 h3 =>
 obtain⟨a,cap,rfl,i,j,k,l⟩:=h1;refine(AnyF.slices_SortFunc_none { L with } a cap _ w).mono ?_;rintro e w' ⟨rfl,rfl⟩;exact⟨.junk,_,S,C,rfl,rfl,.junk _,g,.refl _ _ _⟩
def Lz{ρ:Ren}(L:SlLaysF.n6 P ρ)(hE:qU P (ρ.f 6)){id ver e:Nat}(zs:List α)(hid:S id=.cells ver e (zs.map λx=>I (val x)))(hn:zs.length<=1048576)
  {g:Nat} (hG:qU P g) {d:List PV} (hz:∀p∈d,Fz p) (l:α->α->Int) (hO:SWO (ltOf l)) (hT:∀x y,(ltOf l) x y=false->(ltOf l) y x=false->x=y)
  (hg:∀x y:α,Pure P g (I (val x)::I (val y)::d) (I (l x y))) :
  Spec P (ρ.f 6) [.sl id ver 1 0 zs.length,.fn (.func g) [] d] S (λp S'=>S'=S.set id (.cells ver e ((zs.mergeSort λx y=>!(ltOf l) y x).map λx=>I (val x)))):=by
 refine⟨hE,?_⟩;intro C w vs q hl z;obtain⟨v0,v1,rfl⟩:∃v0 v1,vs=#[v0,v1]:=by
  match vs,hl with
  |⟨[a,b]⟩,_=>simp
 have s:=z 0 _ v0 rfl rfl;have t:=z 1 _ v1 rfl rfl;cases t with
 |@fn _ _ _ fv cv hf hc a2 o =>
 obtain rfl:fv=#[]:=EH;cases s with
 |sl h1 h2 h3 =>
 obtain⟨a,cap,rfl,q1,q2,q3,q4⟩:=h1;by_cases h0:zs=[];subst h0;refine(AnyF.slices_SortFunc_none { L with } a cap _ w).mono ?_;rintro e w' ⟨rfl,rfl⟩;refine⟨.junk,_,S,C,rfl,?_,.junk _,q,.refl _ _ _⟩;grind[Store.set,List.mergeSort_nil];have a0:0<zs.length:=Bt.2 h0;obtain⟨a3,a1⟩|⟨b,k,c,g1,r,g3,g4,g5,g6⟩:=q.cells id ver _ _ hid;simp_all;have ha:a=some ⟨b,0,none⟩:=by
  rcases (h3 ver (by rw[hid];rfl)).2 rfl with ⟨z1,_⟩|⟨b',k',a',cap',z1,z2,z3,z4⟩
  omega;grind
 subst ha;rw[length_map]at g4 g5;have h:∀i (hi:i<zs.length),c[i]?=some (up val zs[i]):=by
  intro i hi;have a4:i<c.size:=D9;have e1:(zs.map λx=>I (val x))[i]?=some (I (val zs[i])):=by simp[hi]
  have e2:c[i]?=some c[i]:=EA;rw[e2,Lw (g6 i _ _ e1 e2)]
 have hH:Holds (up val) w b 0 zs.toArray:=by
  intro j hj;have u:j<zs.length:=by simpa using hj
  refine⟨?_,by grind[World.frozen?]⟩;simp only[World.cell?,r,AV,CV,AW,if_false];rw[h j u,getElem!_pos zs.toArray j hj];simp
 have n:CmpLays1 P g cv (up val) l b 0 zs.toArray.size w:=by refine Lx hg cv D9 λm os dk hs i p v hp hv=>?_;obtain⟨_,st⟩:=og (val:=val) q hid g1 r g3 dk (by rw[hs];omega) m os;exact Lu ((o i p v hp hv).mono st) (hz p (Ab hp))
 have hk:=Any.slices_SortFunc_total L (up val) (λ_=>rfl) l hO g cv b 0 cap zs.toArray w hG n hH (jh r) ED hT;simp only[BY]at hk;refine hk.mono ?_;rintro e w' ⟨rfl,m,os,rfl⟩;obtain⟨t1,t2⟩:=og (val:=val) q hid g1 r g3 (zs.mergeSort λx y=>!(ltOf l) y x).toArray (by simpa using g4) m os;exact⟨.junk,_,_,_,rfl,rfl,.junk _,t1,t2⟩
end
def oh(x:Int):PP 275 [I x] (B false):=by refine c9 func275 λS nx a=>?_;refine EJ ?_;exact EK a
def ol(x y:Int):PP 367 [I x,I y] (I (ZJ x y)):=by refine c9 func367 λS nx a=>?_;refine EJ ?_;refine zu (oh x) ?_;refine EJ ?_;refine zu (oh y) ?_;refine ze (EJ ?_);refine aC ?_;refine ze (EJ ?_);refine aC ?_;by_cases h1:x<y;refine ze (aF [] h1 ?_);refine zo (by simp[h1]) ?_;refine EJ ?_;exact zj (zm a EB (by simp[ZJ,h1,zr]));refine ze (aF [] h1 ?_);refine zp (by simp[h1]) ?_;refine zk ?_;by_cases h2:y<x;refine ze (aF [] h2 ?_);refine zo (by simp[h2]) ?_;refine EJ ?_;exact zj (zm a EB (by simp[ZJ,h1,h2,zr]));refine ze (aF [] h2 ?_);refine zp (by simp[h2]) ?_;refine zk (EJ ?_);exact zj (zm a EB (by simp[ZJ,h1,h2,zr]))
def LA(x y:Int):PP 366 [.lst 2 [I x,I y]] (I (if x=0 then y else x)):=by
 refine c9 func366 λS nx d=>?_;refine EJ ?_;refine ze (EJ ?_);refine zn (zF (λs:Nat=>s<=2/\(0<s->x=0)/\(1<s->y=0)) (λk=>[(3,I 0),(6,.lst 2 [I x,I y]),(7,I 2),(8,I k)]) (λ_=>[]) (λs=>2-s) 0 [] EA EA EA ?_);rintro k ⟨e,a,b⟩
 match k,e,a,b with
 |0,_,_,_ =>
 refine EJ ?_;refine ze (aD ?_);refine zk (aA (EJ ?_));by_cases hx:x=0;refine aF [] hx ?_;refine zp (by simp[hx]) ?_;refine zk (zg ?_);exact zv 1 [] ⟨by omega,λ_=>hx,by omega⟩ D9 (by simp[hx];rfl) rfl EA;refine aF [] hx ?_;refine zo (by simp[hx]) ?_;refine EJ ?_;exact zj (zm d EB (by simp[hx,zr]))
 |1,_,a,_ =>
 have hx:=a D9;refine EJ ?_;refine ze (aD ?_);refine zk (aA (EJ ?_));by_cases c:y=0;refine aF [] c ?_;refine zp (by simp[c]) ?_;refine zk (zg ?_);exact zv 2 [] ⟨by omega,λ_=>hx,λ_=>c⟩ D9 (by simp[c];rfl) rfl EA;refine aF [] c ?_;refine zo (by simp[c]) ?_;refine EJ ?_;exact zj (zm d EB (by simp[hx,zr]))
 |2,_,a,b =>
 refine EJ ?_;refine ze (aE ?_);refine zB (EJ ?_);exact zj (zm d EB (by simp[a D9,b D9,zr]))
def LB(l:List Int)(i j:Fin l.length)(hn:l.length<=1048576):PP 365 [I i.val,I j.val,.ip [L l]] (I (un l i j)):=by
 obtain⟨a,tl,h,o,a3,e⟩:=zH rfl l i.val i.isLt;obtain⟨b,k,b1,b2,b3,f⟩:=zH rfl l j.val j.isLt;have hi:=i.isLt;have g:=j.isLt;have m:l.getD i.val 0=a:=by rw[Aa,h];rfl
 have hb:l.getD j.val 0=b:=by rw[Aa,b1];rfl
 have d:=LA (ZJ a b) (ZJ i.val j.val);have c:un l i j=if ZJ a b=0 then ZJ (i.val:Int) j.val else ZJ a b:=by unfold un;rw[m,hb]
 rw[c];refine c9 func365 λS nx n=>?_;refine aG none Ro (zM hi g e f) ?_;refine zK (ol a b) (zM hi g e f) ?_;refine zK (ol i.val j.val) n' ?_;refine zK (d) n' ?_;exact EK n
def gy(l:List Int):l.flatMap Enc.enc=l.map I:=by induction l<;>simp_all
def LC(l:List Int):∀p∈[PV.ip [L l]],Fz p:=by intro p a;simp only[AX]at a;subst a;refine .ip λq b=>?_;simp only[AX]at b;subst b;refine .lst λr c=>?_;rw[gy]at c;obtain⟨x,_,rfl⟩:=Ak.1 c;exact .sc _
def uK(n k:Nat):List Int:=(range n).map λi=>if i<k then (i:Int) else 0
def LD(n k:Nat):(uK n k).length=n:=by simp[uK]
def LF(n:Nat):uK n 0=replicate n 0:=by apply A8;simp[uK];intro i h1 h2;simp[uK]
def LG(n k:Nat)(h:k<n):(uK n k).set k (k:Int)=uK n (k+1):=by apply A8;simp[uK];intro i h1 h2;rw[CJ];simp only[uK,Cj,Cn];by_cases e:k=i;subst e;rw[if_pos rfl,if_pos D9];rw[if_neg e];by_cases h3:i<k;rw[if_pos h3,if_pos D9];rw[if_neg h3,if_neg D9]
def LH(n:Nat):uK n n=(List.finRange n).map λx=>(x.val:Int):=by
 apply A8;simp[uK];intro i h1 h2;have:i<n:=by simpa[uK] using h1
 simp[uK,this]
def om{α:Type}(l:List α)(f:α->Int):(l.map f).flatMap Enc.enc=l.map λx=>I (f x):=by induction l<;>simp_all
def LI(n:Nat):qr n (.int .i64 0)=(replicate n (0:Int)).flatMap Enc.enc:=by
 induction n with
 |zero=>simp
 |succ n a=>rw[Jr,a,BM];simp[xh,Value.cells]
def LJ(l:List Int)(k:Nat)(v:Int)(h:k<l.length):yr (l.flatMap Enc.enc) k [I v]=(l.set k v).flatMap Enc.enc:=by rw[gy,gy,yr,map_set,AE,if_pos (by simpa using h)];simp
def LK(l:List Int)(hn:l.length<=1048576):PP 357 [L l] (L (Zn l)):=by have h:qU prog 364:=qN func364 EF rfl;have m:qU prog 365:=qN func365 EF rfl;refine c9 func357 λS nx j=>?_;intro v0;refine EJ ?_;refine⟨by omega,λv1=>?_⟩;refine ze (EJ ?_);refine zn (zF (λs:Nat=>s<=l.length) (λk=>[(1,.ptr nx v0 0),(3,.sl (nx+1) v1 1 0 l.length),(9,I l.length),(10,I k)]) (λk=>[.cells v0 26 [L l],.cells v1 3 ((uK l.length k).flatMap Enc.enc)]) (λs=>l.length-s) 0 [] EA EA (by simp[LF,LI]) ?_);rintro k n;refine EJ ?_;refine ze (zA rfl (λhc=>?_) (λhc=>?_));simp at hc;have d:=LD l.length k;have b:=LJ (uK l.length k) k k D9;rw[LG _ _ hc]at b;refine zk (aA (EJ ?_));refine zi [] (zD hc d b) ?_;refine⟨by omega,?_⟩;refine zg ?_;exact zv (k+1) [] hc D9 (by simp[zy k D9]) rfl EA;simp at hc;obtain rfl:k=l.length:=D9;refine zB ?_;rw[LH,om];refine vt 0 rfl ?_;refine EJ ?_;by_cases h0:l.length=0;obtain rfl:l=[]:=As h0;refine λa=>((Ly laysSlF6_f364 h).mono ?_).v;rintro _ _ rfl;refine⟨_,_,rfl,zS a ?_⟩;refine yc 1 rfl ?_;refine EJ ?_;have f:Zn []=[]:=As (go []);exact zj (zm j EB (by rw[f];rfl));haveI:Inhabited (Fin l.length):=⟨⟨0,by omega⟩⟩;have hs:=λS id ver hid=>Lz (S:=S) (id:=id) (ver:=ver) (e:=3) (val:=λi:Fin l.length=>(i.val:Int)) laysSlF6_f364 h (List.finRange l.length) hid ED m (LC l) (un l) (cL l) (nY l) (λx y=>LB l x y hn);rw[List.length_finRange]at hs;have g:=om (Xv l) (λi=>(i.val:Int));have c:=go l;refine λa=>((hs _ (nx+1) v1 (by rw[zZ];rfl)).mono ?_).v;rintro _ _ rfl;refine⟨_,_,yu _ D9 EA,?_⟩;rw[show (((List.finRange l.length).mergeSort λx y=>!(ltOf (un l)) y x).map λx=>I (x.val:Int))=(Zn l).flatMap Enc.enc from g.symm];refine xQ [] (show nx+1-nx=1 from by omega) a ?_;refine yc 1 rfl ?_;refine aF [] c ?_;exact zj (zm j EB (by simp[zr,c]))
def LL(x:Inst)(c:List Int)(a b:Int):wd x (c++[b]) a=wd x c a++(if b≠a then [⟨a,b,ZK x a b⟩] else []):=by unfold wd;by_cases h:b=a<;>simp[h]
def LM(x:Inst)(c:List Int)(a:Int):(wd x c a).length<=c.length:=by unfold wd;rw[length_map];exact BO _ _
def LN(l:List Pr)(p:Pr):jK (l++[p])=jK l++[-p.s]:=by simp[jK]
def LO(l:List Pr):(jK l).length=l.length:=by simp[jK]
def LP(x:Inst)(c:List Int)(a:Int)(hx:jk x)(hc:c.length<=1048576)(hs:∀b∈c,qz b)(ha:qz a):PP 338 [.agg (zE x),L c,I a] (L (vN x c a)):=by
 refine c9 func338 λS nx hd=>?_;intro v0;refine EJ ?_;refine ze (qa 7 387 3 rfl λv1=>?_);refine zg ?_;refine ze (qa 8 3 1 rfl λn=>?_);refine EJ ?_;refine zn (zF (λs:Nat × List Pr × Nat × Nat=>s.1<=c.length/\s.2.1=wd x (c.take s.1) a) (λ(k,ps,v1,n)=>[(1,L c),(2,I a),(3,.ptr nx v0 0),(7,.sl (nx+1) v1 3 0 ps.length),(8,.sl (nx+2) n 1 0 ps.length),(15,L c),(16,I c.length),(17,I k)]) (λ(k,ps,v1,n)=>[.cells v0 25 (zE x),.cells v1 387 (ps.flatMap Enc.enc),.cells n 3 ((jK ps).flatMap Enc.enc)]) (λs=>c.length-s.1) (0,[],v1,n) [] (by simp[wd]) EA (by simp[jK]) ?_);rintro⟨k,ps,v1,n⟩ ⟨q,ho⟩;simp only at q ho ⊢;have a4:ps.length<=k:=by rw[ho];refine AF (LM _ _ _) ?_;simp;omega
 have e:=LO ps;refine EJ ?_;refine ze (zA rfl (λd=>?_) (λd=>?_));simp at d;obtain⟨b,tl,r,a2,a3,t⟩:=zH rfl c k d;have hb:=hs b (Ab r);have a5:=gt hx a b;have w5:i64.wrap (-ZK x a b)=-ZK x a b:=wr _ D9 D9;have f:=LL x (c.take k) a b;rw[<-a3,<-ho]at f;refine zk (aA (aF [] (zq t d) ?_));refine EJ ?_;refine zA rfl (λg=>?_) (λg=>?_);simp at g;rw[if_pos g]at f;refine EJ ?_;refine zu (Lj x a b hx ha hb) ?_;intro v3;refine EJ ?_;refine⟨by omega,?_⟩;have u:List.take ps.length ((jK ps).flatMap Enc.enc)=(jK ps).flatMap Enc.enc:=by rw[<-e];exact HG _
 have w:((jK ps).flatMap Enc.enc).length=ps.length:=by rw[jV,e]
 refine zi [] (zD w5 u w) ?_;refine⟨by omega,?_⟩;refine zg ?_;exact zv (k+1,ps++[⟨a,b,ZK x a b⟩],v1+1,n+1) [_] ⟨d,f.symm⟩ ED (by simp[zy k D9]) rfl (by simp[LN];rfl);simp at g;rw[if_neg (by simp[g]),Ay]at f;refine zk (zg ?_);exact zv (k+1,ps,v1,n) [] ⟨d,f.symm⟩ ED (by simp[zy k D9]) rfl EA;simp at d;obtain rfl:k=c.length:=D9;rw[Ah]at ho;refine zB (yc 1 rfl ?_);refine yc 2 rfl ?_;refine EJ ?_;refine ze (qa 12 387 3 rfl λv3=>?_);have y:vN x c a=(Zn (jK ps)).map (Zo ps):=by rw[ho];rfl
 rw[y];have a6:=go (jK ps);have o:∀z∈Zn (jK ps),0<=z/\z<ps.length:=λz h=>by have:=KP h;omega
 have l:=LK (jK ps) D9;rw[show L (jK ps)=PV.lst ps.length ((jK ps).flatMap Enc.enc) from by rw[<-e]]at l;generalize jK ps=ns at *;refine aF [] e ?_;refine zu l ?_;generalize Zn ns=is at *;refine zn (zF (λs:Nat × List Pr × Nat=>s.1<=is.length/\s.2.1=(is.take s.1).map (Zo ps)) (λ(k,os,v)=>[(7,L ps),(12,.sl (nx+3) v 3 0 os.length),(43,L is),(44,I is.length),(45,I k)]) (λ(k,os,v)=>[.cells v0 25 (zE x),.dead,.dead,.cells v 387 (os.flatMap Enc.enc)]) (λs=>is.length-s.1) (0,[],v3) [] EA (by simp[e]) EA ?_);rintro⟨k,os,v⟩ ⟨q,m⟩;simp only at q m ⊢;refine EJ ?_;refine ze (zA rfl (λd=>?_) (λd=>?_));simp at d;obtain⟨i,tl,r,a2,a3,t⟩:=zH rfl is k d;obtain⟨q1,q2⟩:=o i (Ab r);obtain⟨j,rfl⟩:∃j:Nat,i=j:=⟨i.toNat,by omega⟩;have hj:j<ps.length:=D9;obtain⟨p,tp,b1,b2,b3,e1,e2⟩:=el 3 rfl ps j hj;have hg:Zo ps (j:Int)=p:=by simp[Zo,Aa,b1]
 have a0:(is.take (k+1)).map (Zo ps)=os++[p]:=by rw[a3,m];simp[hg]
 have a7:os.length=k:=by rw[m];simp;omega
 refine zk (aA (aF [] (zq t d) ?_));refine zi [] (zD e1 e2 hj) ?_;refine⟨by omega,?_⟩;refine zg ?_;exact zv (k+1,os++[p],v+1) [] ⟨d,a0.symm⟩ ED (by simp[zy k D9]) rfl EA;simp at d;obtain rfl:k=is.length:=D9;rw[Ah]at m;refine zB (yc 3 rfl ?_);refine EJ ?_;exact zj (zm hd EB (by simp[zr,m]))
@[simp] theorem ZCM(d e a b c:Ob)(l:List Ob)(o:Ob × Ob × Ob):Y9 (d::e::a::b::c::l) 2 o=d::e::o.1::o.2.1::o.2.2::l:=rfl
variable {a:Nat}
theorem HX.srt{o:Ob × Ob × Ob}(h:HX o a k j r):Zm r:=by obtain⟨_,_,_,h⟩:=h (λi=>if i=a then o.1 else if i=a+1 then o.2.1 else o.2.2) EA EA EA;exact h
def LQ{id:Int}(h:∀x∈r,x.1≠id):wC id r=false:=by grind[wC]
def prV(p:Pr):List PV:=[.agg [I p.a,I p.b,I p.s]]
def wD(x:Inst)(c:List Int)(k:Nat):List (List Pr):=(c.take k).map (vN x c)
def oo(x:Inst)(c:List Int):wD x c 0=[]:=by simp[wD]
def LR{c:List Int}{a:Int}(h:c.take (k+1)=c.take k++[a]):wD x c (k+1)=wD x c k++[vN x c a]:=by simp[wD,h]
def LS(x:Inst)(c:List Int):wD x c c.length=c.map (vN x c):=by simp[wD]
def oq(x:Inst)(c:List Int)(k:Nat)(h:k<=c.length):(wD x c k).length=k:=by simp_all[wD]
def ZL(rows:List (List Pr))(n:Nat):List PV:=rows.flatMap Enc.enc++replicate (n-rows.length) (.sc (.slice none 0 0))
def ot(rows:List (List Pr))(n:Nat)(h:rows.length<=n):(ZL rows n).length=n:=by simp_all[ZL]
def LU(n:Nat):ZL [] n=qr n (.slice none 0 0):=by unfold ZL;simp only[Cv,AK,Aj,D6];induction n<;>simp_all[Jr,BM]
def LV(rows:List (List Pr)):ZL rows rows.length=rows.flatMap Enc.enc:=by simp[ZL]
def LW(rows:List (List Pr))(n:Nat)(r:List Pr)(h:rows.length<n):yr (ZL rows n) rows.length [L r]=ZL (rows++[r]) n:=by unfold ZL yr;have h1:(rows.flatMap Enc.enc).length=rows.length:=qJ rows;obtain⟨m,hm⟩:∃m,n-rows.length=m+1:=⟨n-rows.length-1,by omega⟩;rw[hm,BM];rw[BF D9,Ad D9];rw[Cu,AS EA];simp[h1,show n-(rows.length+1)=m by omega]
def LX(rows:List (List Pr))(n:Nat)(r:List Pr):(ZL (rows++[r]) n)[rows.length]?=some (L r):=by unfold ZL;rw[Ap,append_assoc,Ao (by rw[qJ];exact Ag _),qJ];simp
def LY(rows:List (List Pr))(k:Nat)(r:List Pr)(h:k<rows.length):yr (rows.flatMap Enc.enc) k [L r]=(rows.set k r).flatMap Enc.enc:=by
 have e:∀l:List (List Pr),l.flatMap Enc.enc=l.map λr=>L r:=λl=>by induction l<;>simp_all
 rw[e,e,yr,map_set,AE,if_pos (by simpa using h)];simp
theorem cQ:∀(rows:List (List Pr)) (i:Nat) (r:List Pr),qu i (rows++[r])=qu i rows++qu (i+rows.length) [r]
 |[],i,r=>by simp[qu]
 |[]::rows,i,r=>by simp only[cons_append,qu,Ae];rw[cQ rows (i+1) r,show i+1+rows.length=i+(rows.length+1) by omega]
 |(p::l)::rows,i,r=>by simp only[cons_append,qu,Ae];rw[cQ rows (i+1) r,show i+1+rows.length=i+(rows.length+1) by omega]
def LZ(rows:List (List Pr)):qu 0 (rows++[[]])=qu 0 rows:=by rw[cQ];simp[qu]
def Ma(rows:List (List Pr))(p:Pr)(tl:List Pr):(qu 0 (rows++[p::tl])).Perm (((rows.length:Int),-p.s)::qu 0 rows):=by rw[cQ];simp only[qu,AV];exact Da
def ou(h:rows.getD k []=[])(a:r.Perm (qu 0 rows)):wC (k:Int) r=false:=by refine LQ λx hx e=>?_;obtain⟨j,p,tl,b,rfl⟩:=(WE rows 0 x).1 (a.subset hx);simp only[AV]at e;have:j=k:=D9;subst this;rw[Aa,b]at h;cases h
def Mb(x:Inst)(ss:List Stop):PP 322 [.agg (zE x),L ss] (.fn (.func 336) [] [.ip [L ss],.ip (zE x)]):=by refine c9 func322 λS nx a=>?_;intro v0 v1;refine EJ ?_;refine vt 0 rfl ?_;refine vt 1 rfl ?_;exact EK a
def Mc(x:Inst)(ss:List Stop)(hx:jk x)(f8:ss.length<=1048576)(hs:∀s∈ss,qz s.c)(b7:(ss.map (·.c)).Nodup):Jv prog 336 [.ip [L ss],.ip (zE x)] ((jW x (ss.map (·.c))).map prV):=by
 have a5:=λS nx hd=>VZ ss f8 S nx hd;obtain⟨zs,n⟩:∃zs,zs=ss.map (·.c):=⟨_,rfl⟩;have f9:ss.length=zs.length:=by rw[n];simp
 rw[<-n,f9]at a5;rw[<-n]at b7 ⊢;have d2:∀b∈zs,qz b:=by intro b hb;rw[n]at hb;obtain⟨s,h1,rfl⟩:=Ak.1 hb;exact hs s h1
 have d3:=V2 zs;have d4:=nF zs;have d5:=(fX zs).2 b7;have g0:=Jx zs;have d6:jW x zs=jW x (qv zs):=KZ b7 d5 d4.symm;have d7:(qv zs).Pairwise (· < ·):=(List.Pairwise.and d3 d5).imp λ⟨h1,h2⟩=>by omega
 have g1:zs.length<=1048576:=D9;have a7:∀b∈qv zs,qz b:=λb hb=>d2 b (d4.subset hb);have b8:=λ(S:Store) (id ver:Nat) (hid:S id=.cells ver 3 (zs.flatMap Enc.enc))=>cI zs hid g1;rw[d6];generalize qv zs=c at *;clear n d3 d6;refine VQ func336 EF rfl ntmps336 (congrArg Array.toList results336) EA λl V keep nx J g2 hY A0 g3=>?_;refine EJ ?_;refine λd=>((a5 _ _ xP).mono ?_).v;rintro _ _ ⟨v1,rfl,rfl⟩;refine⟨_,_,Wv _,xQ [] Nat.add_assoc d ?_⟩;refine EJ ?_;refine λd=>((b8 _ _ _ EA).mono ?_).v;rintro _ _ rfl;refine⟨_,_,yu _ EA EA,zS d ?_⟩;rw[<-g0];refine yc 1 rfl ?_;refine EJ ?_;refine λd=>(KL.mono ?_).v;rintro p _ ⟨hv,mv,o1,rfl,m1,rfl⟩;refine⟨_,_,rfl,zS d ?_⟩;simp at m1;refine EJ ?_;refine⟨by omega,λv0=>?_⟩;refine ze (EJ ?_);have g4:∀(row:List Pr) (a:Int),row=vN x c a->∀p∈row,i64.wrap (-p.s)=-p.s:=by intro row a e p hp;rw[e]at hp;have h1:=(gr x c a).subset hp;unfold wd at h1;obtain⟨b,_,rfl⟩:=Ak.1 h1;have:=gt hx a b;show i64.wrap (-ZK x a b)=-ZK x a b;exact wr _ D9 D9
 refine zn (zF (λs:Nat × zX Int × (Ob × Ob × Ob) × Nat=>s.1<=c.length/\s.2.1.Perm (qu 0 (wD x c s.1))/\HX s.2.2.1 (nx+2) hv mv s.2.1) (λ(k,f,o,v)=>[(0,x9 l),(2,.ip (zE x)),(4,L c),(5,.ptr (nx+3) hv 0),(6,.sl (nx+5) v 1 0 c.length),(21,L c),(22,I c.length),(23,I k)]) (λ(k,f,o,v)=>[.dead,.dead,o.1,o.2.1,o.2.2,.cells v 424 (ZL (wD x c k) c.length)]) (λs=>c.length-s.1) (0,[],o1,v0) [] ⟨by simp,by simp[oo,qu],m1⟩ EA (by simp[oo,LU]) ?_);rintro⟨k,f,o,v⟩ ⟨hk,hp,hm⟩;simp only at hk hp hm ⊢;refine EJ ?_;refine ze (zA rfl (λhq=>?_) (λhq=>?_))
 .simp at hq;obtain⟨a,tl,a1,a2,a3,e0⟩:=zH rfl c k hq;have d8:=oq x c k D9;have a6:=LR (x:=x) a3;have a8:=LW (wD x c k) c.length (vN x c a) D9;have d9:=LX (wD x c k) c.length (vN x c a);have t:=ot (wD x c k) c.length D9;have g:=ot (wD x c k++[vN x c a]) c.length ED;rw[d8]at a8 d9;have c6:wC (k:Int) f=false:=ou (k:=k) (rows:=wD x c k) (by rw[Aa,An D9];rfl) hp;have c7:f.length<=k:=by rw[hp.length_eq];exact AF (cO _ _) D9
  refine zk (aA (aF [] (zq e0 hq) ?_));refine EJ ?_;refine yK [] (LP x c a hx D9 a7 (a7 a (Ab a1))) (zD a8 t hq) ?_;refine⟨by omega,?_⟩;have hw:=g4 (vN x c a) a rfl;have g5:=Ma (wD x c k);have e8:=LZ (wD x c k);generalize h6:vN x c a=row at *;have a9:∀h,(ZL (wD x c k++[row]) c.length)[k]'h=L row:=λh=>(Af.1 d9).2;refine aF [] (zD a9 hq g) ?_;cases row with
  |nil =>
  refine zp rfl (zk (zg ?_));refine zv (k+1,f,o,v) [] ⟨hq,?_,hm⟩ ED (by simp[zy k D9]) rfl (by simp[a6]);simp only[a6,e8];exact hp
  |cons p rl =>
  have g6:=hw p EA;refine aD ?_;refine zi [] (zM a9 hq g g6) ?_;refine λd=>((nX (j:=2) hm rfl rfl rfl (k:Int) (-p.s) D9).mono ?_).v;rintro _ T ⟨rfl,o2,m2,rfl⟩;refine⟨_,_,rfl,?_⟩;rw[c6]at m2;simp only[cond_false]at m2;refine zS d ?_;refine zg ?_;refine zv (k+1,Y8 ((k:Int),-p.s) f,o2,v) [] ⟨hq,?_,m2⟩ ED (by simp[zy k D9]) rfl (by simp[a6]);simp only[a6];have:=g5 p rl;rw[d8]at this;exact(V6 _ _).trans ((hp.cons _).trans this.symm)
 simp at hq;obtain rfl:k=c.length:=D9;obtain⟨e9,f0,f1⟩:=Lh (x:=x) d7;rw[<-LS]at e9 f0 f1;have t:=oq x c c.length (Ag _);have f2:=LV (wD x c c.length);rw[t]at f2;rw[f2];generalize wD x c c.length=rows at *;refine zB (zn (xC (σ:=Nat × Store × List (List Pr) × zX Int × (Ob × Ob × Ob) × Nat) (λs=>s.1<=(jW x c).length/\J s.1 s.2.1/\Rows' c s.2.2.1/\(∀r∈s.2.2.1,Sd vM r)/\s.2.2.1.flatten.Perm ((jW x c).drop s.1)/\s.2.2.2.1.Perm (qu 0 s.2.2.1)/\HX s.2.2.2.2.1 (nx+2) hv mv s.2.2.2.1) (λs=>[(0,x9 l),(5,.ptr (nx+3) hv 0),(6,.sl (nx+5) s.2.2.2.2.2 1 0 c.length)]) (λs=>s.2.1) (λs=>[.dead,.dead,s.2.2.2.2.1.1,s.2.2.2.2.1.2.1,s.2.2.2.2.1.2.2,.cells s.2.2.2.2.2 424 (s.2.2.1.flatMap Enc.enc)]) (λs=>(jW x c).length-s.1) (zY (0,A0,rows,f,o,v) [] ⟨by simp,g3,e9,f0,by simpa using f1,hp,hm⟩ EA rfl EA) ?_));rintro⟨i,A,rows,f,o,v⟩ ⟨hi,hJ,c8,f3,d0,hp,hm⟩;simp only at hi hJ c8 f3 d0 hp hm ⊢;have t:rows.length=c.length:=c8.len;have hs:=hm.srt;refine zn (ze (x8 [] EF EF λK Gc Gh hK u a0 X m hX=>?_));simp -implicitDefEqProofs [m,hX];try clear m hX X
 refine u _ _ _ _ _ _ _ λd=>((KK (j:=2) hm rfl rfl rfl).mono ?_).v;rintro _ T ⟨rfl,o2,m2,rfl⟩;refine⟨_,_,rfl,?_⟩;cases f with
 |nil =>
 clear u a0;clear Gc Gh;refine vr d (D:=[]) EF λGc Gh u a0 X m hX=>?_;simp -implicitDefEqProofs [m,hX,Xu,yk,uh];clear m hX X;refine hK _ _ _ ?_;clear hK u a0;clear K Gc Gh;have h0:∀r∈rows,r=[]:=by
  intro r hr;cases r with
  |nil=>rfl
  |cons p tl =>
  obtain⟨j,hj⟩:=Bp.1 hr;have:=(WE rows 0 ((j:Int),-p.s)).2 ⟨j,p,tl,hj,by rw[AV]⟩;rw[List.nil_perm.1 hp]at this;cases this
 have f4:=KS d0 hi h0;refine ze (aF [(2,61)] zz ?_);exact zo rfl (zj (Ya (g2 _ _ hJ) rfl (by simpa[f4] using hJ)))
 |cons it r =>
 obtain⟨q,y,tl,e1,e2,e3,e4,e5,e6,e7⟩:=Li d7 c8 f3 d0 hs hp.symm;subst e1;have a4:=(Af.1 e2).1;have w:q<c.length:=D9;obtain⟨y',tr,a1,a2,a3,e0⟩:=zH rfl rows q a4;rw[e2]at a1;cases a1;have c7:=(Af.1 e4).1;have g7:((jW x c).map prV)[i]?=some (prV y):=by rw[Ai,e4];rfl
 clear u a0;clear Gc Gh;refine vr d (D:=[]) EF λGc Gh u a0 X m hX=>?_;simp -implicitDefEqProofs [m,hX,Xu,yk,uh];clear m hX X;refine hK _ _ _ ?_;clear hK u a0;clear K Gc Gh;refine ze (aF [(2,61)] (zM e0 w t zz) ?_);refine λd=>Ww rfl rfl rfl (hY _ _ _ _ g7 hJ) ?_;rintro _ ⟨A',f5,rfl⟩;refine⟨_,_,rfl,xQ [(2,61)] trivial d ?_⟩;refine zp rfl (zk ?_);have g8:=LY rows q tl a4;have g:(rows.set q tl).length=c.length:=by simp[t]
 have f6:q<(rows.set q tl).length:=D9;obtain⟨y',h8,a1,a2,a3,f7⟩:=zH rfl (rows.set q tl) q f6;rw[A4 a4]at a1;cases a1;have c6:wC (q:Int) r=false:=ou (rows:=rows.set q []) (by rw[Aa,A4 a4];rfl) e3;have h7:r.length<=1048576:=by rw[e3.length_eq];exact AF (cO _ _) ED
 have d1:=λp tz=>cN rows 0 q p tz a4;refine aF [] (zM e0 w t g8) ?_;refine⟨by omega,?_⟩;refine aF [] (zD f7 w g) ?_;cases tl with
 |nil =>
 exact zp rfl (zk (zv (i+1,A',rows.set q [],r,o2,v) [] ⟨c7,f5,e5,e6,e7,e3,m2⟩ ED EA rfl EA))
 |cons z tz =>
 have g9:z∈(rows.set q (z::tz)).flatten:=BA.2 ⟨z::tz,Ab (A4 a4),by simp⟩;have h4:z∈Yc x c:=(Xw x c).subset (By (e7.subset g9));have n:=(cM.1 h4).2.2.2;have h5:i64.wrap (-z.s)=-z.s:=by rw[n];have:=gt hx z.a z.b;exact wr _ D9 D9
 refine aD ?_;refine zi [] (zM f7 w g h5) ?_;refine λd=>((nX (j:=2) m2 rfl rfl rfl (q:Int) (-z.s) ED).mono ?_).v;rintro _ T ⟨rfl,o3,m3,rfl⟩;refine⟨_,_,rfl,?_⟩;simp only[List.tail_cons]at m3;rw[c6]at m3;simp only[cond_false]at m3;refine zS d ?_;refine zv (i+1,A',rows.set q (z::tz),Y8 ((q:Int),-z.s) r,o3,v) [] ⟨c7,f5,e5,e6,e7,?_,m3⟩ ED EA rfl EA;have:=d1 z tz;rw[AV]at this;exact(V6 _ _).trans ((e3.cons _).trans this.symm)
def Md{c:List Int}(h:c.Nodup)(hc:c.length<=1000):(jW x c).length<=1000000:=by rw[KV h];exact AF (Nat.mul_le_mul hc (Nat.sub_le _ _)) (Ch 1000 hc)
def JB(x:Inst)(ss:List Stop)(i:Nat):zt × Int:=((jW x (ss.map (·.c))).take i).foldl (j6 x) (ss.map λs=>[s],(ss.length:Int))
def Me(x:Inst)(ss:List Stop):JB x ss 0=(ss.map λs=>[s],(ss.length:Int)):=by simp[JB]
def Mf(h:(jW x (ss.map (·.c)))[i]?=some p):JB x ss (i+1)=j6 x (JB x ss i) p:=by unfold JB;obtain⟨h1,e⟩:=Af.1 h;rw[AT h1,e,BI];rfl
def Mg(x:Inst)(ss:List Stop):JB x ss (jW x (ss.map (·.c))).length=gu x ss:=by simp[JB,gu]
def Mh(x:Inst)(T:zt)(c:Int)(p:Pr):c-1<=(j6 x (T,c) p).2/\(j6 x (T,c) p).2<=c:=by unfold j6 V8;cases jl x (T,c).2 p (Yd (T,c).1 p.a) (Yd (T,c).1 p.b) ((T,c).1.getD (Yd (T,c).1 p.a) []) ((T,c).1.getD (Yd (T,c).1 p.b) [])<;>simp<;>omega
def Mi(x:Inst)(ss:List Stop)(hx:jk x)(a8:x.y.length<=1048576)(z:ss.length<=1000)(hs:∀s∈ss,qz s.c)(q:(ss.map (·.c)).Nodup):PP 308 [.agg (zE x),L ss] (.agg [L (uo x ss)]):=by
 have d5:=Md (x:=x) q (by simpa using z);have a0:KeyOk (.int .i64) jJ:=Xt .i64;have r:∀k s,ss[k]?=some s->s.c ∉ (ss.take k).map (·.c):=by
  intro k s h hm;obtain⟨s',h1,h2⟩:=Ak.1 hm;obtain⟨j,hj⟩:=Bp.1 h1;rw[BT]at hj;split at hj;rename_i a9;have e1:(ss.map (·.c))[j]?=some s.c:=by rw[Ai,hj,<-h2];rfl
  have e2:(ss.map (·.c))[k]?=some s.c:=by rw[Ai,h];rfl
  obtain⟨g1,g2⟩:=Af.1 e1;obtain⟨g3,g4⟩:=Af.1 e2;exact BH.1 q j k g1 g3 a9 (g2.trans g4.symm);cases hj
 refine c9 func308 λS nx hd=>?_;intro v0 v1;refine EJ ?_;intro w v3 v4;refine qj 3 6 97 1 rfl rfl λv5=>?_;refine ze (EJ ?_);refine zn (zF (λs:Nat × zt × List (Value × PV) × (Int->Option Int) × Nat=>s.1<=ss.length/\s.2.1=(ss.take s.1).map (λs=>[s])/\MapIs jJ I s.2.2.1 s.2.2.2.1/\JI (ss.take s.1) s.2.1 s.2.2.2.1) (λ(k,T,es,g,v5)=>[(1,L ss),(2,.ptr nx v0 0),(4,.ptr (nx+1) v1 0),(5,.ptr (nx+4) v4 0),(18,L ss),(19,I ss.length),(20,I k)])
  (λ(k,T,es,g,v5)=>[.cells v0 25 (zE x),.cells v1 96 [.sc (.slice none 0 0)],.map w es,.cells v3 382 (WF x (nx+5) v5 k ss.length (nx+2) w),.cells v4 378 [.ptr (nx+3) v3 0],.cells v5 97 (T.flatMap Enc.enc)]) (λs=>ss.length-s.1) (0,[],[],λ_=>none,v5) [] ⟨by simp,by simp,nN _ _,by simpa using JI.nil⟩ EA EA ?_)
 rintro⟨k,T,es,g,v5⟩ ⟨hk,u,hm,hI⟩;simp only at hk u hm hI ⊢;have d:T.length=k:=by rw[u];simp;omega
 refine EJ ?_;refine ze (zA rfl (λe=>?_) (λe=>?_));simp at e;obtain⟨s,tl,a1,a2,a3,e1,e0⟩:=el 2 rfl ss k e;obtain⟨rs,f1,_,_,f4,_⟩:=hm.find a0 s.c;have a4:=f4 (k:Int);have a5:=hI.snoc s (r k s a1);have b7:(ss.take k).length=k:=ED;rw[b7,<-a3]at a5;have b8:T++[[s]]=(ss.take (k+1)).map λs=>[s]:=by rw[a3,u];simp
 have c6:(T.flatMap Enc.enc).take k=T.flatMap Enc.enc:=Ad (by rw[qJ];omega);have c7:(T.flatMap Enc.enc).length=k:=by rw[qJ,d]
 refine zk (aA (aF [] (zD e1 e0 e) ?_));intro v6;refine aG (some [nx+4,nx+6]) (pures [0,1,2,3,5,6,7] (.alt 4 (.alt 8 (pures [9,10] (.alt 11 (.done) .stop)) .stop) .stop)) (zq c6 c7) ?_;refine⟨⟨by omega,by omega⟩,?_⟩;refine zC (some [nx+3,nx+4,nx+6]) RU n' ?_;refine⟨by rfl,(QM (.inl rfl) underlying379 underlying3 rfl rfl rfl EA f1 ?_)⟩;rw[yu _ D9 EA,show nx+2-nx=2 from by omega];refine⟨by simp[y8],xE n' ?_⟩;refine zg ?_;exact zv (k+1,T++[[s]],jO (jJ s.c) (I k) es rs,jQ g s.c (some (k:Int)),v5+1) [_] ⟨e,b8,a4,a5⟩ ED (by simp[zy k D9]) rfl EB;simp at e;obtain rfl:k=ss.length:=D9;rw[Ah]at u hI;refine zB ?_;refine ze (EJ ?_);refine zu (Mb x ss) ?_;refine zn (Xp (xs:=(jW x (ss.map (·.c))).map prV) (σ:=zt × Int × List (Value × PV) × (Int->Option Int)) (λi s=>(s.1,s.2.1)=JB x ss i/\i<=(jW x (ss.map (·.c))).length/\MapIs jJ I s.2.2.1 s.2.2.2/\JI ss s.1 s.2.2.2/\(ss.length:Int)-i<=s.2.1/\s.2.1<=ss.length) [(4,.ptr (nx+1) v1 0),(5,.ptr (nx+4) v4 0)] (λ_=>S)
  (λ(T,a,es,g)=>[.cells v0 25 (zE x),.cells v1 96 [.sc (.slice none 0 0)],.map w es,.cells v3 382 (WF x (nx+5) v5 ss.length a (nx+2) w),.cells v4 378 [.ptr (nx+3) v3 0],.cells v5 97 (T.flatMap Enc.enc)]) (T,(ss.length:Int),es,g)
  (Mc x ss hx D9 hs q) rfl (by intro x hx;obtain⟨y,_,rfl⟩:=Ak.1 hx;rfl) EG EA ⟨by rw[Me,u],by simp,hm,hI,by simp,by simp⟩ rfl EA EA ?_ ?_)
 clear hm hI u d;rintro l i ⟨T,a,es,g⟩ more y ⟨b,hi,hm,hI,c8,d0⟩ hy;simp only at b hi hm hI c8 d0 ⊢;rw[Ai]at hy;obtain⟨p,hp,rfl⟩:=Al.1 hy;obtain⟨d6,d7⟩:=Af.1 hp;have n:=cM.1 ((Xw x _).subset (Ab hp));have f:=Mf hp;rw[<-b]at f;obtain⟨d8,d9⟩:=Mh x T a p;refine x8 [] EF EF λK Gc Gh hK d1 d2 X a6 hX=>?_;simp -implicitDefEqProofs [a6,hX,prV];try clear a6 hX X
 intro v6;refine hK _ _ _ ?_;clear hK d1 d2;clear K Gc Gh;refine zn (zg ?_);refine λa7=>((Ls x ss T g a es a8 z D9 hI hm (jid:=nx+3) (tid:=nx+5) (mid:=nx+2) (by rw[zZ];rfl) (by rw[zZ];rfl) (by rw[zZ];rfl) D9 D9 D9 p n.1 n.2.1).mono ?_).v;rintro _ _ ⟨d3,g2,m2,i2,rfl⟩;refine⟨_,_,(by rw[yu _ D9 EA,yu _ D9 EA,yu _ D9 EA]),xQ [] (zD (show nx+3-nx=3 from by omega) (show nx+5-nx=5 from by omega) (show nx+2-nx=2 from by omega)) a7 ?_⟩;simp only[xB];exact vJ ((j6 x (T,a) p).1,(j6 x (T,a) p).2,d3,g2) [_] ⟨f.symm,by omega,m2,i2,by simp only;omega,by simp only;omega⟩ rfl EB;clear hm hI u d;rintro⟨T,a,es,g⟩ ⟨b,-,hm,hI,-,-⟩;simp only[length_map]at b hI ⊢;rw[Mg]at b;have d:=hI.len;have d4:uo x ss=T.filter λt=>!t.isEmpty:=by unfold uo;rw[<-b]
 rw[d4];refine EJ ?_;intro v6;refine qj 6 0 99 1 rfl rfl λo=>?_;refine ze (EJ ?_);refine zn (zF (λs:Nat × zt × Nat=>s.1<=T.length/\s.2.1=(T.take s.1).filter λt=>!t.isEmpty) (λ(k,out,o)=>[(4,.ptr (nx+1) v1 0),(9,.ptr (nx+6) v6 0),(54,.sl (nx+5) v5 1 0 ss.length),(55,I ss.length),(56,I k)]) (λ(k,out,o)=>[.cells v0 25 (zE x),.cells v1 96 [.sc (.slice none 0 0)],.map w es,.cells v3 382 (WF x (nx+5) v5 ss.length a (nx+2) w),.cells v4 378 [.ptr (nx+3) v3 0],.cells v5 97 (T.flatMap Enc.enc),.cells v6 96 [.sl (nx+7) o 1 0 out.length],.cells o 99 (out.flatMap Enc.enc)]) (λs=>T.length-s.1) (0,[],o) [] ⟨by simp,by simp⟩ EA EA ?_);rintro⟨k,out,o⟩ ⟨hk,ho⟩;simp only at hk ho ⊢;have e3:out.length<=k:=by rw[ho];exact AF (BO _ _) ED
 refine EJ ?_;refine ze (zA rfl (λe=>?_) (λe=>?_))
 .simp at e;obtain⟨t,tl,a1,a2,a3,e0⟩:=zH rfl T k D9;have m:(T.take (k+1)).filter (λt=>!t.isEmpty)=out++(if t=[] then [] else [t]):=by rw[a3,Cd,<-ho];cases t<;>simp
  refine zk (aA (aF [] (zD e0 e d) ?_));refine EJ ?_;cases t with
  |nil =>
  rw[if_pos rfl,Ay]at m;refine aC (zg ?_);exact zv (k+1,out,o) [] ⟨by omega,m.symm⟩ ED (by simp[zy k D9]) rfl EA
  |cons s t =>
  rw[if_neg EA]at m;refine aD ?_;refine zg ?_;refine⟨by omega,?_⟩;refine zg ?_;exact zv (k+1,out++[s::t],o+1) [] ⟨by omega,m.symm⟩ ED (by simp[zy k D9]) rfl EA
 simp at e;obtain rfl:k=T.length:=D9;rw[Ah]at ho;refine zB (yc 7 rfl ?_);refine EJ ?_;exact zj (zm hd EB (by simp[zr,ho]))
abbrev yI:PV:=.sc (.slice none 0 0)
def Xy(pl:PV):Prop:=pl=yI\/∃n cs,pl=.lst n cs
def Xz(l:List Stop):Xy (L l):=.inr ⟨_,_,rfl⟩
abbrev WG(x:Inst)(b:Int):PV:=.fn (.func 304) [] [.ip (zE x),.ip [I b]]
abbrev fsL(x:Inst)(pl:PV)(b:Int):List PV:=[.fn (.func 305) [] [.ip [pl]],.fn (.func 307) [] [.ip [WG x b],.ip (zE x),.ip [pl]],.fn (.func 309) [] [.ip [WG x b],.ip [pl]],.fn (.func 310) [] [.ip (zE x),.ip [pl],.ip [WG x b]]]
def Mj(x:Inst)(a:PV)(b:Int)(c:Xy a):PP 287 [.agg (zE x),a,I b] (.fn (.func 312) [] [.ip [.lst 4 (fsL x a b)]]):=by
 obtain rfl|⟨n,cs,rfl⟩:=c;all_goals
  refine c9 func287 λS nx d=>?_;intro v0 v1 e;refine vt 0 rfl ?_;refine vt 1 rfl ?_;refine vt 2 rfl ?_;refine EJ ?_;intro v3;refine vt 3 rfl ?_;refine EJ ?_;intro v4;refine vt 4 rfl ?_;refine EJ ?_;exact EK d
def Mk(a:PV)(d:zt)(b:Xy a)(c:PP 306 [a] (.agg [L d])):PP 305 [.ip [a]] (.tup [.agg [L d],B true]):=by
 obtain rfl|⟨n,cs,rfl⟩:=b;all_goals
  refine c9 func305 λS nx e=>?_;intro v0;refine EJ ?_;refine zu c ?_;exact EK e
def gz(x:Inst)(b:Int)(d e:zt)(n:Int)(hI:PP 264 [.agg (zE x),.agg [L d],I b] (.tup [.agg [L e],I n])):PP 304 [.agg [L d],.ip (zE x),.ip [I b]] (.agg [L e]):=by refine c9 func304 λS nx a=>?_;intro v0 v1;refine EJ ?_;refine zu hI ?_;refine EJ ?_;exact EK a
def Ml(x:Inst)(a:PV)(b:Int)(d e:zt)(n:Int)(c:Xy a)(f:PP 308 [.agg (zE x),a] (.agg [L d]))(hI:PP 264 [.agg (zE x),.agg [L d],I b] (.tup [.agg [L e],I n])):PP 307 [.ip [WG x b],.ip (zE x),.ip [a]] (.tup [.agg [L e],B true]):=by
 have g:=gz x b d e n hI;obtain rfl|⟨n,cs,rfl⟩:=c;all_goals
  refine c9 func307 λS nx h=>?_;intro v0;refine aG (some []) Rs n' ?_;refine zK (f) n' ?_;refine zK (g) n' ?_;exact EK h
def Mm(x:Inst)(a:PV)(b:Int)(d e:zt)(n:Int)(c:Xy a)(f:PP 306 [a] (.agg [L d]))(hI:PP 264 [.agg (zE x),.agg [L d],I b] (.tup [.agg [L e],I n])):PP 309 [.ip [WG x b],.ip [a]] (.tup [.agg [L e],B true]):=by
 have g:=gz x b d e n hI;obtain rfl|⟨n,cs,rfl⟩:=c;all_goals
  refine c9 func309 λS nx h=>?_;intro v0;refine aG (some []) RT n' ?_;refine zK (f) n' ?_;refine zK (g) n' ?_;exact EK h
def ov(x:Inst)(a:PV)(b:Int)(d e:zt)(ok:Bool)(n:Int)(g:Xy a)(f:PP 311 [.agg (zE x),a] (.tup [.agg [L d],B ok]))(hI:ok=true->PP 264 [.agg (zE x),.agg [L d],I b] (.tup [.agg [L e],I n])):
  PP 310 [.ip (zE x),.ip [a],.ip [WG x b]] (.tup [.agg [bif ok then L e else yI],B ok]):=by
 obtain rfl|⟨n,cs,rfl⟩:=g;all_goals
  cases ok with
  |false =>
  refine c9 func310 λS nx c=>?_;intro v0;refine EJ ?_;refine zu f ?_;intro v1;refine ze (EJ ?_);refine zo rfl (EJ ?_);exact EK c
  |true =>
  have h:=gz x b d e _ (hI rfl);refine c9 func310 λS nx c=>?_;intro v0;refine EJ ?_;refine zu f ?_;intro v1;refine ze (EJ ?_);refine zp rfl (zk (EJ ?_));refine zu h ?_;exact EK c
def Mn(fs:List PV)(rs:List (Option zt))(hl:rs.length=fs.length)(hn:fs.length<=1000)
  (h:∀(k:Nat) f,fs[k]?=some f->∃n a p,f=.fn (.func n) [] a/\Pure prog n a (.tup [.agg [p],B (rs.getD k none).isSome])/\∀d,rs.getD k none=some d->p=L d) :
  Jv prog 312 [.ip [.lst fs.length fs]] ((rs.filterMap id).map λd=>[.agg [L d]]):=by
 refine VQ func312 EF rfl ntmps312 (congrArg Array.toList results312) EA λl V keep nx J o v A0 q=>?_;refine EJ ?_;refine zn (xC (σ:=Nat × Store) (λs=>s.1<=fs.length/\J ((rs.take s.1).filterMap id).length s.2) (λs=>[(0,x9 l),(7,.lst fs.length fs),(8,I fs.length),(9,I s.1)]) (λs=>s.2) (λs=>[]) (λs=>fs.length-s.1) (zY (0,A0) [] (by simp[q]) EA rfl EA) ?_);rintro⟨k,A⟩ ⟨w,i⟩;simp only at w i ⊢;refine EJ ?_;refine ze (zA rfl (λhc=>?_) (λhc=>?_))
 .simp at hc;have t:fs.drop k=fs[k]::fs.drop (k+1):=AG hc;obtain⟨n,a,p,hf,e,u⟩:=h k fs[k] (Ac hc);rw[hf]at t;have g:k<rs.length:=D9;have c:rs.take (k+1)=rs.take k++[rs[k]]:=AT g;have x:rs.getD k none=rs[k]:=by rw[Aa,Ac g];rfl
  rw[x]at e u;refine zk (aA (aF [] (zq t hc) ?_));cases m:rs[k] with
  |none =>
  rw[m]at e c;simp only[CV]at e;have b:((rs.take (k+1)).filterMap id).length=((rs.take k).filterMap id).length:=by rw[c];simp
  refine EJ ?_;refine zu e ?_;intro v0;refine aF [(1,19)] zz ?_;refine zp rfl (zk (zg ?_));exact zv (k+1,A) [_] ⟨hc,by rw[b];exact i⟩ ED (by simp[zy k D9]) rfl EB
  |some d =>
  obtain rfl:=u d m;rw[m]at e c;simp only[Option.isSome_some]at e;have b:((rs.take (k+1)).filterMap id).length=((rs.take k).filterMap id).length+1:=by rw[c];simp
  have hx:((rs.filterMap id).map λd=>[PV.agg [L d]])[((rs.take k).filterMap id).length]?=some [PV.agg [L d]]:=by
   have y:rs.filterMap id=(rs.take k).filterMap id++(d::(rs.drop (k+1)).filterMap id):=by
    conv=>lhs;rw[<-take_append_drop k rs,AG g,m]
    simp
   rw[Ai,y,Ao (Ag _),Bk];rfl
  refine EJ ?_;refine zu e ?_;intro v0;refine aF [(1,19)] n' ?_;refine λj=>Ww rfl rfl rfl (v _ _ _ _ hx i) ?_;rintro _ ⟨A',r,rfl⟩;refine⟨_,_,rfl,xQ [(1,19)] trivial j ?_⟩;refine zp rfl (zk (zg ?_));exact zv (k+1,A') [_] ⟨hc,by rw[b];exact r⟩ ED (by simp[zy k D9]) rfl EB
 simp at hc;obtain rfl:k=fs.length:=D9;rw[<-hl,Ah]at i;refine zB (Ya (o _ _ i) rfl ?_);simpa using i
def uL(x:Inst)(st:zt × Int × Bool)(d:zt):zt × Int × Bool:=if yx x d=0 then (if st.2.2=false\/W (yl x d)<st.2.1 then (d,W (yl x d),true) else st) else st
def JC(x:Inst)(ds:List zt):zt × Int × Bool:=ds.foldl (uL x) ([],0,false)
def Mo{K:(Nat->PV)->Store->Prop}(h:Q (.exit i) F S):QI K Q (.exit i) F S:=h
def Mp(h:Q .normal F S):xB i Q (.exit i) F S:=by simp[xB,h]
def uM(x:Inst)(e:Int)(ds:List zt):zt × Int:=if e=0 then (bif (JC x ds).2.2 then ((JC x ds).1,0) else ([],14)) else ([],e)
def ow(x:Inst)(o:PV)(b e:Int)(ds:List zt)(hp:Xy o)(hx:x.y.length<=1048576)(hF:PP 286 [.agg (zE x),o] (I e))
  (hit:e=0->Jv prog 312 [.ip [.lst 4 (fsL x o b)]] (ds.map λd=>[.agg [L d]])) (k:e=0->∀d∈ds,DayOk d/\d.flatten.length<=1048576) :
  PP 261 [.agg (zE x),o,I b] (.tup [.agg [L (uM x e ds).1],I (uM x e ds).2]):=by
 have hT:=Mj x o b hp;refine c9 func261 λS nx r=>?_;intro v0 v1;refine ze (EJ ?_);refine zu hF ?_;by_cases t:e=0;case neg =>
  refine EJ ?_;refine zo (by simp[t]) ?_;refine EJ ?_;refine z8 1 0 rfl rfl ?_;exact zj (zm r EB (by simp[uM,t,zr]))
 subst t;have hit:=hit rfl;have k:=k rfl;refine EJ ?_;refine aC (EJ ?_);intro z v3 v4;refine z8 2 0 rfl rfl ?_;refine ze (EJ ?_);refine zu hT ?_;refine zn (Xp (xs:=ds.map λd=>[PV.agg [L d]]) (σ:=zt × Int × Bool) (λi s=>s=(ds.take i).foldl (uL x) ([],0,false)/\i<=ds.length) [(3,.ptr nx v0 0),(6,.ptr (nx+1) v1 0),(7,I 0),(9,.ptr (nx+2) z 0),(10,.ptr (nx+3) v3 0),(11,.ptr (nx+4) v4 0)] (λ_=>S)
  (λ(h,f,g)=>[.cells v0 25 (zE x),.cells v1 96 [yI],.cells z 96 [L h],.cells v3 3 [I f],.cells v4 4 [B g]]) ([],0,false)
  hit rfl (by intro x hx;obtain⟨y,_,rfl⟩:=Ak.1 hx;rfl) EG EA ⟨by simp,by simp⟩ rfl EA EA ?_ ?_)
 rintro l i ⟨h,f,g⟩ more y ⟨j,hi⟩ hy;simp only at j hi ⊢;rw[Ai]at hy;obtain⟨d,p,rfl⟩:=Al.1 hy;obtain⟨u,v⟩:=Af.1 p;obtain⟨m,w⟩:=k d (Ab p);have q:=fZ x d hx m.1 m.2 w;have n:=WD x d m;have a:(ds.take (i+1)).foldl (uL x) ([],0,false)=uL x (h,f,g) d:=by rw[AT u,v,BI,<-j];rfl
 unfold uL at a;simp only at a;refine zg ?_;intro v5;refine zn ?_;refine ze (EJ ?_);refine zu q ?_;by_cases h1:yx x d=0
 .rw[if_pos h1]at a;refine zp (by simp[h1]) ?_;refine zk (EJ ?_);refine zu n ?_;generalize W (yl x d)=c at *;cases g with
  |false =>
  rw[if_pos (.inl rfl)]at a;refine aF [(2,36)] zz ?_;refine zo rfl (zg ?_);simp only[xB];exact vJ (d,c,true) [_] ⟨a.symm,by omega⟩ rfl EB
  |true =>
  by_cases h2:c<f;rw[if_pos (.inr h2)]at a;refine aF [(2,36)] (zq h2 zz) ?_;refine zo rfl (zg ?_);simp only[xB];exact vJ (d,c,true) [_] ⟨a.symm,by omega⟩ rfl EB;rw[if_neg (by simp[h2])]at a;refine aF [(2,36)] (zq h2 zz) ?_;refine zp rfl (zk ?_);simp only[xB];exact vJ (h,f,true) [_] ⟨a.symm,by omega⟩ rfl EB
 rw[if_neg h1]at a;refine zo (by simp[h1]) ?_;refine zB (Mo (Mp ?_));exact vJ (h,f,g) [_] ⟨a.symm,by omega⟩ rfl EB;rintro⟨h,f,g⟩ ⟨j,-⟩;simp only[length_map,Ah]at j ⊢;have hz:JC x ds=(h,f,g):=j.symm;cases g with
 |false =>
 refine ze (EJ ?_);refine zo rfl (EJ ?_);refine z8 1 0 rfl rfl ?_;exact zj (zm r EB (by simp[uM,hz,zr]))
 |true =>
 refine ze (EJ ?_);refine zp rfl (zk (EJ ?_));exact zj (zm r EB (by simp[uM,hz,zr]))
def oz(a:List PV)(s:Stop)(hl:a.length=13):PP 327 [.agg a,.agg [I s.c,I s.q]] (.fn (.func 343) [] [.ip [I s.c,I s.q],.ip a]):=by refine zx func327 ntmps327 results327 λS nx b=>?_;refine aF [] hl ?_;intro v0 v1;refine EJ ?_;refine vt 0 rfl ?_;refine vt 1 rfl ?_;exact EK b
open Go.Proofs
def XA:ElemOk prog 97 101 (.agg #[.int .i64 0,.int .i64 0]) 16 :=
 ⟨underlying97,by simp,by simp,by simp,by simp,by omega⟩
def oA(a:Addr)(n c:Nat)(w W2:World)(u:Value)(b:∀ty,(Builtin.append_ #[97,97] ty #[.slice (some ⟨w.heap.size,0,none⟩) 0 0,.slice (some a) n c]).run prog (w.alloc (.cells #[] 101))=.ok u W2):
  Calls prog 292 #[.slice (some a) n c] w λe w'=>e=.returned u/\w'=W2:=by
 have mixed:prog.follows .mixedOrders=true:=EC;have g:∀(w:World) (a:Option Addr) (n c d f:Nat),(binOp .eql 97 (.slice a n c) (.slice none d f)).run prog w=.ok (.bool a.isNone) w:=λw a n c d f=>Lib.run_eql_slice_nil w _ _ a n c d f underlying97
 go_enter func292,ntmps292
 go_wp2_with (at_builtin;refine Lib.wpList_append_run _ rfl _ _ _ _ rfl _ _ rfl rfl _ _ (b _) ?_)
 go_wp2
 go_ret
 exact⟨rfl,rfl⟩
def Mq(n c:Nat)(w:World):
  Calls prog 292 #[.slice none n c] w λe w'=>e=.returned (.slice none 0 0)/\w'=w:=by
 have mixed:prog.follows .mixedOrders=true:=EC;have f:∀(w:World) (a:Option Addr) (n c b d:Nat),(binOp .eql 97 (.slice a n c) (.slice none b d)).run prog w=.ok (.bool a.isNone) w:=λw a n c b d=>Lib.run_eql_slice_nil w _ _ a n c b d underlying97
 go_enter func292,ntmps292
 go_wp2
 go_ret
 exact⟨rfl,rfl⟩
def gA(l:List Stop)(h0:0<l.length)(hn:l.length<=1048576)(S:Store)(nx:Nat)(t:S nx=.dead):
  SP 292 [L l] S (λp S'=>∃v,p=.sl nx v 2 0 l.length/\S'=S.set nx (.cells v 101 (l.flatMap Enc.enc))):=by
 refine⟨qN func292 EF rfl,?_⟩;intro C w vs x hl y;obtain⟨u,rfl⟩:=fS hl;have j:Rel C S w (.lst l.length (l.flatMap Enc.enc)) u:=y 0 _ u rfl rfl;obtain⟨a,cap,rfl⟩:∃a cap,u=.slice (some a) l.length cap:=by
  generalize hq:l.flatMap Enc.enc=cs at j;generalize l.length=n at *;cases j with
  |lst0=>omega
  |lst1=>exact⟨_,_,rfl⟩
 obtain⟨k1,r,m1⟩:=x.alloc (.cells #[] 101);have hc:prog.cellsOf 101=2:=EA;obtain⟨news,c,h,_⟩:=cg (P:=prog) (sz:=2) (m:=l.length) (ds:=l.flatMap Enc.enc) k1 (by simp[YY]) (j.mono r);rw[<-hc]at c;have f:=λty=>cd (P:=prog) (ty:=ty) (b:=some ⟨w.heap.size,0,none⟩) (k:=0) (cap:=0) (olds:=[]) XA.ty XA.pos XA.zero XA.bytes c (run_firstCells_some _ _ 0 ⟨w.heap.size,0,none⟩ 0 0 [] EA EA) D9 D9 XA.bpos;simp only[AV]at f;refine(oA a l.length cap w _ _ f).mono ?_;rintro e w' ⟨rfl,rfl⟩;have o:=grownCap_ge (w.alloc (.cells #[] 101)) l.length 0 101;obtain⟨z,s⟩:=k1.drew;have q:Fresh C S nx C.clock:=.clock C t;have d:=Wj (cs:=[]) (vs:=[]) (by simp[RelL]) h (Builtin.zeroCells (Value.agg #[.int .i64 0,.int .i64 0]).cells (grownCap (w.alloc (.cells #[] 101)) l.length 0 101-l.length)).toList;simp only[AK]at d;have g:∀i:Nat,(([]:List Value).toArray++news.toArray++Builtin.zeroCells (Value.agg #[.int .i64 0,.int .i64 0]).cells (grownCap (w.alloc (.cells #[] 101)) l.length 0 101-l.length):Array Value)[i]?=(news++(Builtin.zeroCells (Value.agg #[.int .i64 0,.int .i64 0]).cells (grownCap (w.alloc (.cells #[] 101)) l.length 0 101-l.length)).toList)[i]?:=by intro i;rw[<-Array.getElem?_toList];simp
 obtain⟨t1,t2⟩:=z.object' q 101 (([]:List Value).toArray++news.toArray++Builtin.zeroCells (Value.agg #[.int .i64 0,.int .i64 0]).cells (grownCap (w.alloc (.cells #[] 101)) l.length 0 101-l.length)) (l.flatMap Enc.enc) (by have:=d.1;simp at this ⊢;omega) (λi v hi hv=>d.2.1 i v hi (by rw[<-g];exact hv)) (λi p v hp hv=>(d.2.2 i p v hp (by rw[<-g];exact hv)).mono s);refine⟨_,_,_,_,rfl,⟨C.clock,rfl,rfl⟩,VM C S _ _ _ _ _ _ _ _ _ rfl o (AF hn (by unfold xO;omega)) (grownCap_le_maxLen _ _ _ _ (by unfold maxLen;omega)) ?_,t1,r.trans (s.trans t2)⟩;have:=c.size;simp only[Cr,size_zeroCells,BY,this,hc];simp[Value.cells];omega
def cR(l:List Stop)(hn:l.length<=1048576):PP 292 [L l] (L l):=by
 by_cases h0:0<l.length;exact cx 0 (λS nx n=>gA l h0 hn S nx (n nx (Ag _))) EA;obtain rfl:l=[]:=As D9;intro S;refine⟨qN func292 EF rfl,?_⟩;intro C w vs g hl o;obtain⟨u,rfl⟩:=fS hl;have h:Rel C S w (.lst 0 []) u:=o 0 _ u rfl rfl;obtain⟨a,cap,rfl⟩:∃a cap,u=.slice a 0 cap:=by
  cases h with
  |lst0=>exact⟨_,_,rfl⟩
  |lst1=>exact⟨_,_,rfl⟩
 cases a with
 |none =>
 refine(Mq 0 cap w).mono ?_;rintro e w' ⟨rfl,rfl⟩;exact⟨_,_,_,_,rfl,⟨rfl,rfl⟩,.lst0,g,.refl _ _ _⟩
 |some a =>
 obtain⟨k1,i,p⟩:=g.alloc (.cells #[] 101);have hc:prog.cellsOf 101=2:=EA;obtain⟨news,c,j,_⟩:=cg (P:=prog) (sz:=2) (m:=0) (ds:=[]) k1 (by simp[YY]) (h.mono i);have f:news=[]:=As (by rw[c.size,C9]);subst f;rw[<-hc]at c;have d:=λty=>fj (P:=prog) (ty:=ty) (b:=some ⟨w.heap.size,0,none⟩) (k:=0) (cap:=0) XA.ty XA.pos c (Ag 0);refine(oA a 0 cap w _ _ d).mono ?_;rintro e w' ⟨rfl,rfl⟩;exact⟨_,_,_,_,rfl,⟨rfl,rfl⟩,.lst0,k1,i⟩
def Mr{id ver:Nat}(cs:List Stop)(s:Stop)(hn:cs.length<=1000000)(hid:S id=.cells ver 101 (cs.flatMap Enc.enc)):
  SP 329 [.sl id ver 2 0 cs.length,I cs.length,L [s]] S (λp S'=>p=.sl id (ver+1) 2 0 (cs.length+1)/\S'=S.set id (.cells (ver+1) 101 ((cs++[s]).flatMap Enc.enc))):=by
 refine i' func329 λnx d=>?_;have b:id<nx:=by obtain h|h:=Bc id nx;exact h;have:=d id h;rw[hid]at this;cases this
 have hx:=λobs=>(zL (S:=S) (obs:=obs) b).trans hid;have a:¬nx<=id:=D9;refine aF [] hx ?_;refine aF [] hx ?_;refine aF [] hx ?_;refine ze (aF [] hx ?_);refine zp rfl (zk (aF [] hx ?_));refine ze (aF [] hx ?_);refine zo rfl (aF [] (zq hx a) ?_);refine⟨by omega,?_⟩;have c:∀(o:Ob),yh nx (S.set id o):=by intro o q e;rw[q10 _ _ _ _ D9];exact d q e
 exact zj ⟨_,_,by simp;rfl,⟨by simp[zr],by simp⟩,ye (c _)⟩
def Ms{id ver:Nat}(cs:List Stop)(i:Nat)(s:Stop)(hi:i<=cs.length)(hn:cs.length<=1000000)(hid:S id=.cells ver 101 (cs.flatMap Enc.enc)):
  SP 329 [.sl id ver 2 0 cs.length,I i,L [s]] S (λp S'=>p=.sl id (ver+1) 2 0 (cs.length+1)/\S'=S.set id (.cells (ver+1) 101 ((cs.take i++s::cs.drop i).flatMap Enc.enc))):=by
 by_cases h:i=cs.length;subst h;rw[Ah,Bh];exact Mr cs s hn hid;exact IT cs i s D9 hn hid
end Go.Proofs.YtdjbbndbalhekaaGreatDoor.Pv
