/- Part of a proof, packed. -/
import Derived.Test.YtdjbbndbalhekaaGreatDoorG4
open Go.Proofs.Tryz
set_option linter.defProp false
set_option maxRecDepth 100000
set_option maxHeartbeats 3200000
namespace Go.Proofs.YtdjbbndbalhekaaGreatDoor.Pv
open Go
abbrev T(s:ByteArray):PV:=.sc (.string s)
instance:Enc ByteArray:=⟨λx=>[T x],1,λ_=>rfl,λ_=>rfl⟩
@[simp] theorem ZD9(x:ByteArray):Enc.enc x=[T x]:=rfl
@[simp high] theorem dU(l:List ByteArray):(l.flatMap Enc.enc).length=l.length:=(xz l).trans (BU _)
abbrev bs(l:List UInt8):ByteArray:=⟨l.toArray⟩
def ZvU(a b:List UInt8):bs a++bs b=bs (a++b):=by apply ByteArray.ext;simp
theorem vr(l:List UInt8):(bs l).size=l.length:=by simp[ByteArray.size]
def zH(n:Nat):List UInt8:=if h:n<10 then [UInt8.ofNat (48+n)] else zH (n/10)++[UInt8.ofNat (48+n%10)]
termination_by n
decreasing_by omega
variable {n:Nat}
theorem J2(h:n<10):zH n=[UInt8.ofNat (48+n)]:=by simp_all[zH]
theorem X0(h:¬n<10):zH n=zH (n/10)++[UInt8.ofNat (48+n%10)]:=by rw[zH,dif_neg h]
def xS(l:List UInt8):Nat:=l.foldl (λa c=>10*a+(c.toNat-48)) 0
theorem Vg(l:List UInt8)(c:UInt8):xS (l++[c])=10*xS l+(c.toNat-48):=by simp[xS]
theorem QA{k:Nat}(h:k<10):(UInt8.ofNat (48+k)).toNat=48+k:=by grind[UInt8.toNat_ofNat']
def tD(n:Nat):xS (zH n)=n:=by
 induction n using Nat.strongRecOn with
 |_ n a =>
 by_cases h:n<10;rw[J2 h];simp only[xS,A6,List.foldl_nil,QA h];omega;grind[X0,Vg,QA]
theorem kj(n:Nat):∀c∈zH n,48<=c.toNat/\c.toNat<=57:=by
 induction n using Nat.strongRecOn with
 |_ n a =>
 intro c hc;by_cases h:n<10;grind[J2,QA];rw[X0 h,AB,A5]at hc;grind[QA]
def aP(n:Nat):zH n≠[]:=by by_cases h:n<10<;>simp_all[J2,X0]
def tE(n:Nat)(h:1<(zH n).length):∃c l,zH n=c::l/\c.toNat≠48:=by
 induction n using Nat.strongRecOn with
 |_ n a =>
 by_cases h0:n<10;rw[J2 h0]at h;simp at h;grind[X0,J2,QA]
def aQ(n:Nat):∀k,n<10^(k+1)->(zH n).length<=k+1:=by
 induction n using Nat.strongRecOn with
 |_ n a =>
 intro k b;by_cases h:n<10;simp_all[J2];rw[X0 h,Ak,AS];cases k with
 |zero=>omega
 |succ k =>
 have:=a (n/10) EA k EA;omega
def jT(w:List UInt8):Prop:=w≠[]/\∀c∈w,33<=c.toNat/\c.toNat<=126
theorem YT(n:Nat):jT (zH n):=⟨aP n,λc hc=>by grind[kj]⟩
def zP:List (List UInt8)->List UInt8
 |[]=>[]
 |[w]=>w
 |w::v::ws=>w++32::zP (v::ws)
theorem Vh(w v:List UInt8)(ws:List (List UInt8)):zP (w::v::ws)=w++32::zP (v::ws):=rfl
def tF(ws:List (List UInt8))(w v:List UInt8):zP (v::ws++[w])=zP (v::ws)++32::w:=by
 induction ws generalizing v with
 |nil=>rfl
 |cons u us a =>
 simp_all[Vh]
def zN(ls:List (List (List UInt8))):List UInt8:=ls.flatMap λws=>zP ws++[10]
theorem vW(ws:List (List UInt8))(ls:List (List (List UInt8))):zN (ws::ls)=zP ws++10::zN ls:=by simp[zN]
def tG(ls:List (List (List UInt8)))(ws:List (List UInt8)):zN (ls++[ws])=zN ls++(zP ws++[10]):=by simp[zN]
variable {ws:List (List UInt8)}
def ZvV{c:UInt8}(h:c∈zP ws):c=32\/∃w∈ws,c∈w:=by
 induction ws with
 |nil=>simp[zP]at h
 |cons w ws a =>
 cases ws with
 |nil=>exact .inr ⟨w,by simp,h⟩
 |cons v ws =>
 grind[Vh]
def ZvW(a:∀w∈ws,jT w):(10:UInt8) ∉ zP ws:=by intro h;obtain h|⟨w,hm,hc⟩:=ZvV h;cases h;have:=(a w hm).2 10 hc;simp at this
open Go.Proofs
abbrev U8(b:UInt8):PV:=.sc (.int .u8 (b.toNat:Int))
def ZvX(l:List UInt8):strOfNums (l.map λb=>(b.toNat:Int))=bs l:=by simp[strOfNums,AQ]
def QB(a b:List UInt8)(h:a.length+b.length<=9223372036854775807):qD .add (bs a) (bs b)=some (.string (bs (a++b))):=by simp_all[qD,vr,ZvU]
variable {w:World}{dst e b k cap:Nat}
def tH{P:Program}{off:Nat}{l:List UInt8}(hs:P.underlying n=some (.slice e))(f:P.underlying e=some (.int .u8))(g:P.underlying dst=some .string)(c:l.length=k)
  (a:∀(i:Nat) (u:UInt8),l[i]?=some u->w.cell? ⟨b,off+i,none⟩=some (.int .u8 (u.toNat:Int))):(convert n dst (.slice (some ⟨b,off,none⟩) k cap)).run P w=.ok (.string (bs l)) w:=by
 have:=run_convert_bytes_arg (P:=P) w n e hs f b off k cap (l.map λb=>(b.toNat:Int)) (by simpa using c) (λi hi=>by have d:i<l.length:=EA;rw[a i l[i] (Ac d)];simp[List.getD_eq_getElem?_getD,Ac d]) dst g;simp_all[ZvX]
variable {P:Program}{o:Oper}{src t:TypeId}{x:Operand}
def tI{a:Act}{v:Value}(ho:o.op=.convert src t x)(h:(convert src t (a.eval x)).run P w=.ok v w):(execOp a.eval o).run P w=.ok (.value v) w:=by simp_all[execOp]
variable {F:Nat->PV}{S:Store}{K:PV->Store->Prop}
def ZvY{dst e:TypeId}{l:List UInt8}(ho:o.op=.convert src dst x)(hs:P.underlying src=some (.slice e))(p:P.underlying e=some (.int .u8))(r:P.underlying dst=some .string)
  (hx:ev F x=.lst l.length (l.map U8)) (hK:K (T (bs l)) S):PO P jI n o F S K:=by
 intro G hG C w a N st next Q' d;have f:=st.ev x;rw[(hG x (by simp[ho,Op.operands])).trans hx]at f;have s:∀c,o.op≠.defer c:=by intro c hc;rw[ho]at hc;cases hc
 have g:(convert src dst (a.eval x)).run P w=.ok (.string (bs l)) w:=by
  generalize a.eval x=v at f;generalize hm:l.length=m at f;generalize j:l.map U8=cs at f;cases f with
  |lst0 =>
   rename_i cap t;obtain rfl:l=[]:=Av hm;cases t with
   |none=>exact run_convert_bytes_nil w src e hs p 0 cap dst r
   |some t =>
   have:=run_bytesToString (P:=P) w t 0 cap [] (by simp[loadCells,loadCellsFrom]);rw[run_convert_bytes_string w src dst e _ 0 cap hs p r,this];rfl
  |lst1 hn a1 hb hM y h1 hr =>
  rename_i cap b off c et fz;refine tH hs p r hm λi u z=>?_;have hi:i<l.length:=(Ad.1 z).1;have hp:cs[i]?=some (U8 u):=by rw[<-j,Ai,z];rfl
  have k:cs.length=l.length:=by rw[<-j,List.length_map]
  have a0:=y (by intro h;rw[h]at k;simp at k;omega);have hv:=hr i _ _ hp (Ba EA);generalize hq:c[off+i]' EA=q at hv;cases hv;grind[World.cell?]
 exact qx s (tI ho g) (d _ _ _ _ _ hK (.sc _) st.sim (Step.refl _ _ _))
variable {j:Nat}{cs:List PV}
def tJ{dst e:TypeId}{l:List UInt8}{id ver off:Nat}(ho:o.op=.convert src dst x)(hs:P.underlying src=some (.slice e))(r:P.underlying e=some (.int .u8))(s:P.underlying dst=some .string)
  (hx:ev F x=.sl id ver 1 off l.length) (hid:S id=.cells ver j cs) (hl:∀(i:Nat) (u:UInt8),l[i]?=some u->cs[off+i]?=some (U8 u)) (h0:0<l.length) (t:K (T (bs l)) S):PO P jI n o F S K:=by
 intro G y C w a N st next Q' d;have g:=st.ev x;rw[(y x (by simp[ho,Op.operands])).trans hx]at g;have h:∀c,o.op≠.defer c:=by intro c hc;rw[ho]at hc;cases hc
 have f:(convert src dst (a.eval x)).run P w=.ok (.string (bs l)) w:=by
  generalize a.eval x=v at g;generalize hm:l.length=m at g;cases g with
  |sl h1 h2 h3 =>
  rcases (h3 ver (by rw[hid];rfl)).2 rfl with ⟨_,z2,_,_⟩|⟨b,k,ad,cap,z1,z2,z3,z4⟩
  omega;obtain rfl:=z4 EA;subst z2;obtain⟨hn,_⟩|⟨b2,k2,c,g1,g2,g3,g4,g5,z⟩:=st.sim.cells id ver j cs hid;rw[hn]at z1;cases z1;rw[g1]at z1;cases z1;refine tH hs r s hm λi u hu=>?_;have p:=hl i u hu;have hi:off+i<cs.length:=(Ad.1 p).1;have hv:=z (off+i) _ _ p (Ba EA);generalize hq:c[off+i]' EA=q at hv;cases hv;grind[World.cell?]
 exact qx h (tI ho f) (d _ _ _ _ _ t (.sc _) st.sim (Step.refl _ _ _))
variable {r:Nat}
def ZvZ{t m id ver:Nat}{lo:Operand}(ho:o.op=.slice t x (some lo) none none)(s:P.underlying t=some (.array m e))(hc:P.cellsOf e=1)(hx:ev F x=.ptr id ver 0)(g:ev F lo=I (k:Int))(h0:0<k)(y:k<m)(hid:S id=.cells ver r cs)(hm:m<=1048576)(z:K (.sl id ver 1 k (m-k)) S):PO P jI n o F S K:=by
 intro G p C w a N st next Q' d;have i:=st.ev x;rw[(p x (by simp[ho,Op.operands])).trans hx]at i;have e2:=st.ev lo;rw[(p lo (by simp[ho,Op.operands])).trans g]at e2;have j:∀c,o.op≠.defer c:=by intro c hc;rw[ho]at hc;cases hc
 generalize hv:a.eval x=v at i;generalize hu:a.eval lo=u at e2;cases e2;cases i with
 |ptr h1 h2 h3 =>
 obtain⟨b,q,hl,rfl⟩:=(h3 ver (by rw[hid];rfl)).2 rfl;have f:(execOp a.eval o).run P w=.ok (.value (.slice (some ⟨b,k,none⟩) (m-k) (m-k))) w:=by unfold execOp;simp[ho,hv,hu,Instr.sliceAt,run_underlying s,Instr.sureAddr,Instr.sliceBounds,Instr.sliceBound,asIntOf,ui (show P.cellsOf e≠0 by omega),hc];rw[if_pos (D8 y),if_neg EA,Addr.add_plain];simp
 refine qx j f (d _ _ _ _ _ z (.sl ⟨_,_,rfl,Af _,by unfold xx;omega,by unfold maxLen;omega,λ_=>⟨_,_,rfl⟩⟩ h2 λv0 l=>?_) st.sim (Step.refl _ _ _));obtain⟨a1,a2⟩:=h3 v0 l;refine⟨a1,λa0=>?_⟩;exact .inr ⟨b,q,_,_,hl,rfl,λh=>absurd h EA,λ_=>rfl⟩
open Go.RowKit Go.Shelf
variable {C:Ctx}
def Zv0{b:UInt8}{v:Value}(h:Rel C S w (U8 b) v):v=.int .u8 (b.toNat:Int):=by cases h;rfl
def Zv1(k:Nat)(a:2<=k):liesAt prog prog.depth 79 (k/prog.cellsOf 79) 0 79 1=true:=by have hc:prog.cellsOf 79=2:=ED;have hl:sameLayout prog prog.depth 79 79=true:=ED;obtain⟨d,b⟩:∃d,prog.depth=d+1:=⟨prog.depth-1,by kernel_rfl⟩;have h1:1<=k/2:=EA;simp_all[liesAt,rowAt]
def Zv2(b k:Nat)(w:World)(h0:w.cell? ⟨b,0,none⟩=some (.pointer none))(a:w.shape? b=some (79,k))(f:2<=k)(g:w.frozen? ⟨b,0,none⟩=false):
  Calls prog 65 #[.pointer (some ⟨b,0,none⟩)] w λe w'=>e=.returned (.tuple #[])/\w'=w.setCell ⟨b,0,none⟩ (.pointer (some ⟨b,0,none⟩)):=by
 obtain⟨j,d,c⟩:∃j,prog.info? 79=some j/\j.size=2:=by have:(prog.info? 79).map (·.size)=some 2:=ED;exact An.1 this
 go_enter func65,ntmps65
 go_wp2
 rw[Lib.run_to_unsafe w ⟨b,0,none⟩ underlying76 underlying164 d (by rw[c];decide) a (by show 0<k;omega)];simp only[Result.andThen];rw[Oper.upon_value]
 go_wp2
 rw[run_callFunc_extern func106 ED ED ED (e:=Extern.AbiNoEscape.same) ED];rw[Lib.run_noEscape];simp only[Result.andThen];rw[Oper.upon_value]
 go_wp2
 rw[Lib.run_from_unsafe w ⟨b,0,none⟩ underlying164 underlying76 d a (Zv1 k f)];simp only[Result.andThen];rw[Oper.upon_value]
 go_wp2
 go_end0
 simp
def QC(S:Store)(o:Nat)(x:Ob)(h:S o=x):S.set o x=S:=by grind[Store.set]
def dV{vs:Array Value}(h:1=vs.size):∃v,vs=#[v]:=by
 match vs,h with
 |⟨[v]⟩,_=>simp
def tK{vs:Array Value}(h:2=vs.size):∃u v,vs=#[u,v]:=by
 match vs,h with
 |⟨[u,v]⟩,_=>simp
variable {p:PV}
def dW(a:Sim C S w){id v:Nat}{s:PV}(h:S id=.cells v e [p,s]):∃(b k:Nat) (c:Array Value) (c0 c1:Value),C.loc id=some (b,k)/\w.heap[b]?=some (.cells c e (0,0))/\c.size=k/\2<=k/\c[0]?=some c0/\c[1]?=some c1/\Rel C S w p c0/\Rel C S w s c1 /\
  (∀(i:Nat) (u:Value),i<2->c[i]?=some u->u.oneCell'=true):=by
 obtain⟨_,hn⟩|⟨b,k,c,g1,d,g3,g4,f,g⟩:=a.cells id v e _ h;cases hn;simp only[Ab,Ag]at g4;have j:c[0]?=some (c[0]' EA):=Ba EA;grind
def tL{id v:Nat}{s:PV}(f:S id=.cells v 79 [p,s])(r:p=.sc (.pointer none)\/p=.ptr id v 0):
  SP 65 [.ptr id v 0] S (λ_ S'=>S'=S.set id (.cells v 79 [.ptr id v 0,s])):=by
 refine⟨qL func65 EG rfl,?_⟩;intro C w vs h hl t;obtain⟨u,rfl⟩:=dV hl;have g:=t 0 _ u rfl rfl;cases g with
 |ptr h1 h2 h3 =>
 obtain⟨b,k,a,rfl⟩:=(h3 v (by rw[f];rfl)).2 rfl;obtain⟨b',k',c,c0,c1,g1,o,g3,g4,x,e1,r0,r1,g5⟩:=dW h f;rw[a]at g1;cases g1;have d:w.cell? ⟨b,0,none⟩=some c0:=by simp[World.cell?,o,x]
 have m:Rel C S w (.ptr id v 0) (.pointer (some ⟨b,0,none⟩)):=.ptr h1 h2 h3;obtain rfl|rfl:=r;cases r0;refine(Zv2 b k w d (by simp_all[World.shape?]) g4 (by simp_all[World.frozen?])).mono ?_;rintro e w' ⟨rfl,rfl⟩;have y:(w.setCell ⟨b,0,none⟩ (.pointer (some ⟨b,0,none⟩))).heap[b]?=some (.cells (c.setIfInBounds 0 (.pointer (some ⟨b,0,none⟩))) 79 (0,0)):=by simp[World.setCell,BN,o]
 obtain⟨z,t2⟩:=h.turn (l:=C.loc id) (ver':=v) (cs':=[.ptr id v 0,s]) f (Af _) (λ_=>rfl) (w':=w.setCell ⟨b,0,none⟩ (.pointer (some ⟨b,0,none⟩)))
  (by rw[a];exact⟨⟨rfl,rfl,rfl,by simp,λj _ hj=>by grind[World.setCell]⟩,Af _⟩)
  (.inr ⟨b,k,_,a,.inr (by rw[a];rfl),y,by simp[g3],g4,λi u hi g=>by
    match i,hi with
    |0,_=>rw[Cg EA]at g;cases g;rfl
    |1,_=>grind,
   λi q u hq g=>by grind⟩)
 exact⟨.junk,_,_,_,rfl,rfl,.junk _,z,t2⟩;have n:c0=.pointer (some ⟨b,0,none⟩):=by
  cases r0 with
  |ptr i1 i2 i3 =>
  obtain⟨b2,k2,a0,rfl⟩:=(i3 v (by rw[f];rfl)).2 rfl;simp_all
 subst n;refine(Any.Builder_copyCheck_used { lays156 with } Builder_Extra_156.toX72 b w d).mono ?_;rintro e w' ⟨rfl,rfl⟩;exact⟨.junk,_,_,_,rfl,(QC S id _ f).symm,.junk _,h,.refl _ _ _⟩
theorem Sim.lose{w':World}{id:Nat}(h:Sim C S w)(g:S id≠.dead)(a:w.grownBy w' ((C.loc id).map (·.1))/\w.drawn<=w'.drawn):Sim C (S.set id .dead) w'/\Step C S w C (S.set id .dead) w':=by
 have hold:∀o,(S.set id .dead) o≠.dead->o≠id/\(S.set id .dead) o=S o:=by intro o ho;by_cases e:o=id;simp_all;simp_all[q10]
 have d:∀i b k,i≠id->S i≠.dead->C.loc i=some (b,k)->some b≠(C.loc id).map (·.1):=by
  intro i b k hi r hb j;cases ho:C.loc id with
  |none=>simp_all
  |some x =>
  obtain⟨b2,q⟩:=x;rw[ho]at j;cases j;exact hi (h.O i id _ _ _ r g hb ho)
 have st:Step C S w C (S.set id .dead) w':=by
  refine⟨a.1.os,⟨a.1.tape,a.2⟩,a.1.output,a.1.size,Af _,Af _,λb n hM=>⟨a.1.block b n λe=>?_,?_⟩,λo v1 hv=>?_⟩
  .cases ho:C.loc id with
   |none=>simp_all
   |some x =>
   obtain⟨b2,q⟩:=x;rw[ho]at e;cases e;exact hM ⟨id,q,g,ho⟩
  rintro⟨o,k,ho,hl⟩;obtain⟨f,e2⟩:=hold o ho;rw[e2]at ho;exact hM ⟨o,k,ho,hl⟩;obtain⟨f,e2⟩:=hold o (by intro e;rw[e]at hv;cases hv);simp_all
 refine⟨⟨λo ho=>?_,λo v hv=>?_,λo o' b k k' h1 h2 h3 s=>?_,λo v e cs ho=>?_,λo v es ho=>?_⟩,st⟩;obtain⟨f,e2⟩:=hold o ho;rw[e2]at ho;exact h.lt o ho;obtain⟨f,e2⟩:=hold o (by intro e;rw[e]at hv;cases hv);rw[e2]at hv;exact h.clk o v hv;obtain⟨f,e2⟩:=hold o h1;obtain⟨e3,t⟩:=hold o' h2;rw[e2]at h1;rw[t]at h2;exact h.O o o' b k k' h1 h2 h3 s;obtain⟨f,e2⟩:=hold o (by rw[ho];simp);rw[e2]at ho;obtain hn|⟨b,k,c,g1,l,g3,g4,y,z⟩:=h.cells o v e cs ho;exact .inl hn;exact .inr ⟨b,k,c,g1,(a.1.block b (qX l) (d o b k f (by rw[ho];simp) g1)).trans l,g3,g4,y,λi p u hp hu=>(z i p u hp hu).mono st⟩;obtain⟨f,e2⟩:=hold o (by rw[ho];simp);rw[e2]at ho;obtain⟨b,k,ms,cl,g1,l,g3,g4⟩:=h.maps o v es ho;exact⟨b,k,ms,cl,g1,(a.1.block b (qX l) (d o b k f (by rw[ho];simp) g1)).trans l,g3,λi x m j hm=>⟨(g4 i x m j hm).1,(g4 i x m j hm).2.mono st⟩⟩
def Zv3(b g cap:Nat)(c cur:Array Value)(l:List UInt8)(w:World)(f:w.heap[b]?=some (.cells c 79 (0,0)))(h1:c[1]?=some (.slice (some ⟨g,0,none⟩) l.length cap))(h0:l≠[])(i:l.length<=140737488355328)
  (m:w.heap[g]?=some (.cells cur 5 (0,0))) (d:l.length<=cur.size) (k:l.length<=cap) (a:∀(j:Nat) (x:UInt8),l[j]?=some x->cur[j]?=some (.int .u8 (x.toNat:Int))) :
  Calls prog 42 #[.pointer (some ⟨b,0,none⟩)] w λe w'=>e=.returned (.string (bs l))/\w'=w.drew.freeze ⟨g,0,none⟩ l.length:=by
 have n:l.length≠0:=by simpa using h0
 have c1:w.drew.cell? ⟨b,1,none⟩=some (.slice (some ⟨g,0,none⟩) l.length cap):=by have:w.drew.heap[b]?=some (.cells c 79 (0,0)):=f;rw[Lib.cell_of_heap this];exact h1
 have h:w.drew.heap[g]?=some (.cells cur 5 (0,0)):=m;have o:(Builtin.unsafeSliceData_ #[77] 126 #[.slice (some ⟨g,0,none⟩) l.length cap]).run prog w.drew=.ok (.pointer (some ⟨g,0,none⟩)) w.drew :=
  Lib.run_unsafeSliceData_row _ _ _ _ _ _ EA
 have p:(Builtin.unsafeString_ #[126,3] 9 #[.pointer (some ⟨g,0,none⟩),.int .i64 l.length]).run prog w.drew=.ok (.string (bs l)) (w.drew.freeze ⟨g,0,none⟩ l.length):=by refine Lib.run_unsafeString_row w.drew 126 3 9 5 underlying126 EB g cur.size (by simp_all[World.shape?]) l h0 d EA ?_;intro j x hx;rw[Addr.add_plain,A3];simp[World.cell?,h,a j x hx]
 go_enter func42,ntmps42
 go_wp2
 go_region
 all_goals (go_wp2;go_ret;simp)
def aR{id v ib w0:Nat}(l:List UInt8)(o:S id=.cells v 79 [p,.sl ib w0 1 0 l.length])(h:S ib=.cells w0 5 (l.map U8))(h0:l≠[])(d:l.length<=140737488355328):
  SP 42 [.ptr id v 0] S (λq S'=>q=T (bs l)/\S'=S.set ib .dead):=by
 refine⟨qL func42 EG rfl,?_⟩;intro C w vs m hl t;obtain⟨u,rfl⟩:=dV hl;have y:=t 0 _ u rfl rfl;have n:l.length≠0:=by simpa using h0
 cases y with
 |ptr h1 h2 h3 =>
 obtain⟨b,k,f,rfl⟩:=(h3 v (by rw[o];rfl)).2 rfl;obtain⟨b',k',c,c0,c1,g1,z,g3,g4,e0,e1,r0,r1,g5⟩:=dW m o;rw[f]at g1;cases g1;cases r1 with
 |sl i1 i2 i3 =>
 rcases (i3 w0 (by rw[h];rfl)).2 rfl with ⟨_,q,_⟩|⟨g,kg,ad,cap,hlg,rfl,hq0,hq1⟩
 omega;obtain⟨rfl,hq⟩:=hq0 rfl;obtain⟨a1,cp,e2,c3,_⟩:=i1;cases e2;obtain⟨hn,_⟩|⟨b2,k2,cur,r,f2,f3,f4,f5,f6⟩:=m.cells ib w0 _ _ h;simp_all;rw[hlg]at r;cases r;rw[List.length_map]at f4;have a:∀(j:Nat) (x:UInt8),l[j]?=some x->cur[j]?=some (.int .u8 (x.toNat:Int)):=by intro j x hx;have s:=(Ad.1 hx).1;have hc:=Ba (xs:=cur) (i:=j) EA;rw[hc,Zv0 (f6 j (U8 x) _ EI hc)]
 refine(Zv3 b g cap c cur l w z e1 h0 d f2 EA c3 a).mono ?_;rintro e w' ⟨rfl,rfl⟩;obtain⟨t1,t2⟩:=m.lose (id:=ib) (w':=w.drew.freeze ⟨g,0,none⟩ l.length) (by rw[h];simp) (by rw[hlg];unfold World.freeze;rw[if_neg n];exact⟨⟨rfl,rfl,rfl,by simp,λj _ s=>by rw[BN,if_neg (λe=>s (by rw[<-e];rfl))];rfl⟩,Db _⟩);exact⟨_,_,_,_,rfl,⟨rfl,rfl⟩,.sc _,t1,t2⟩
def km(k:Nat)(h:k<256):IntKind.u8.wrap (k:Int)=k:=by
 have e:IntKind.u8.wrap (k:Int)=(k:Int)%256:=by simp[IntKind.wrap,IntKind.bits,IntKind.signed]
 rw[e];omega
def J3(n:Nat)(hn:n<=9223372036854775807):PP 29 [I n] (T (bs (zH n))):=by
 induction n using Nat.strongRecOn with
 |_ n p =>
 have q:((n:Int)).tmod 10=((n%10:Nat):Int):=by rw[AY EA];omega
 have s:((n:Int)).tdiv 10=((n/10:Nat):Int):=by rw[Bx EA];omega
 have c:n<10->zH n=[UInt8.ofNat (48+n%10)]:=λh=>by rw[J2 h,Dn h]
 have d:¬n<10->zH n=zH (n/10)++[UInt8.ofNat (48+n%10)]:=X0;have t:=QA (k:=n%10) EA;have v:n%10<10:=EA;have f:n/10<=n/\(¬n<10->n/10<n):=EA;generalize UInt8.ofNat (48+n%10)=u at *;generalize n%10=r at *;generalize n/10=m at *;have w:W (m:Int)=m:=by simp only[W,AD];omega
 have g:W (48+(r:Int))=(u.toNat:Int):=by rw[t];simp only[W,AD];omega
 have i:=km u.toNat EA;have h0:¬(n:Int)<0:=EA;refine zt func29 ntmps29 results29 λS nx o=>?_;refine EK ?_;repeat apply za
 refine ze [] h0 ?_;refine aC (aF [] (zD q g i) ?_);refine λa=>ZvY (e:=5) (l:=[u]) rfl EB EB EB EB ?_;refine⟨_,_,rfl,zO a ?_⟩;repeat apply za
 refine zb ?_;refine zv rfl (λh=>?_) (λh=>?_);simp at h;have b:=p m (f.2 EA) EA;have j:=QB (zH m) [u] (by have:=aQ m 18 EA;simp;omega);refine aF [] (zn s w) ?_;refine yP [] b j ?_;exact zg (zi o EC (by rw[d EA];rfl));simp at h;refine zh (EK ?_);exact zg (zi o EC (by rw[c EA];rfl))
def Zw(l:List Nat):List ByteArray:=l.map λn=>bs (zH n)
def ko(l:List Nat)(hl:l.length<=1048576)(hn:∀n∈l,n<=9223372036854775807):PP 28 [L (l.map λn:Nat=>(n:Int))] (L (Zw l)):=by
 obtain⟨zs,a⟩:∃zs:List Int,zs=l.map λn:Nat=>(n:Int):=⟨_,rfl⟩;have d:zs.length=l.length:=by rw[a,List.length_map]
 have f:∀(k n:Nat),l[k]?=some n->zs[k]?=some (n:Int):=λk n e=>by rw[a,Ai,e];rfl
 rw[<-a];refine zt func28 ntmps28 results28 λS nx i=>?_;refine EK ?_;refine EK ?_;refine qO 3 9 1 rfl λv3=>?_;repeat apply za
 refine zb ?_;refine zj (zC (λs:Nat × Nat=>s.1<=zs.length) (λ(k,w)=>[(0,L zs),(3,.sl nx w 1 0 k),(4,I k)]) (λ(k,w)=>[.cells w 9 ((Zw (l.take k)).flatMap Enc.enc)]) (λs=>zs.length-s.1) (0,v3) [] EB EB (by simp[Zw]) ?_);rintro⟨k,w⟩ j;simp only at j ⊢;repeat apply za
 refine zb ?_;refine zv rfl (λhc=>?_) (λhc=>?_);simp at hc;obtain⟨n,b⟩:∃n,l[k]?=some n:=⟨_,Ac EA⟩;obtain⟨z,tl,b1,b2,b3,m⟩:=zF rfl zs k hc;obtain rfl:z=(n:Int):=by have:=f k n b;rw[b1]at this;exact Option.some.inj this
 have c:=J3 n (hn n (Aa b));have g:Zw (l.take (k+1))=Zw (l.take k)++[bs (zH n)]:=by rw[AE,b];simp[Zw]
 have hf:(Zw (l.take k)).length=k:=by simp[Zw];omega
 have h:((Zw (l.take k)).flatMap Enc.enc:List PV).take k=(Zw (l.take k)).flatMap Enc.enc:=Ae (by rw[dU];omega);generalize Zw (l.take k)=ws at *;refine zh (aA (ze [] (zn m hc) ?_));refine yP [] c (zn hf h) ?_;refine⟨by omega,?_⟩;refine zb ?_;exact zr (k+1,w+1) [] hc EF (by simp[zu k EA]) rfl (by simp[g]);simp at hc;obtain rfl:k=zs.length:=EA;refine zx (zY 0 rfl ?_);refine EK ?_;exact zg (zi i EC (by rw[d,Ah];simp[zp,Zw]))
def Zv4(ws:List (List UInt8))(w:List UInt8):zP (ws++[w])=(if ws=[] then [] else zP ws++[32])++w:=by
 cases ws with
 |nil=>rfl
 |cons v vs=>rw[tF,if_neg EB];simp
def Zv5(ws:List (List UInt8))(hl:ws.length<=1048576)(n:(zP ws).length<=1099511627776)(d:∀k,(zP (ws.take k)).length<=1099511627776):PP 22 [L (ws.map bs)] (T (bs (zP ws++[10]))):=by
 refine zt func22 ntmps22 results22 λS nx i=>?_;refine EK ?_;refine EK ?_;repeat apply za
 refine zb ?_;refine zj (zC (λk:Nat=>k<=ws.length) (λk=>[(0,L (ws.map bs)),(3,T (bs (zP (ws.take k)))),(4,I k)]) (λ_=>[]) (λk=>ws.length-k) 0 [] EB (by simp[zP]) EB ?_);rintro k o;repeat apply za
 refine zb ?_;refine zv rfl (λhc=>?_) (λhc=>?_);simp at hc;obtain⟨w,tl,b1,b2,b3,f⟩:=zF rfl (ws.map bs) k (by simpa using hc);obtain⟨u,j,rfl⟩:∃u,ws[k]?=some u/\bs u=w:=by rw[Ai]at b1;simpa using b1
 have a:zP (ws.take (k+1))=(if ws.take k=[] then [] else zP (ws.take k)++[32])++u:=by rw[AE,j];exact Zv4 _ _
 have l:=d k;have g:=d (k+1);have m:u.length<=(zP (ws.take (k+1))).length:=by rw[a,Ak];omega
 have b:k<ws.length:=by simpa using hc
 refine zh (aA ?_);by_cases h0:0<k;have e:¬ws.take k=[]:=by intro h;have:=congrArg List.length h;rw[Az,Ag]at this;omega
 rw[if_neg e]at a;have c:=congrArg List.length a;simp only[Ak,AS]at c;have s1:=QB (zP (ws.take k)) [32] (by simp only[AS];omega);have s2:=QB (zP (ws.take k)++[32]) u (by simp only[Ak,AS];omega);generalize zP (ws.take k)=J0 at *
 repeat apply za
 refine ze [] h0 ?_;refine zm (by simp[h0]) ?_;refine ze [] s1 ?_;refine ze [] (zD f b s2) ?_;refine zb ?_;exact zr (k+1) [] b EA (by simp[zu k EA,a]) rfl EB;have e:ws.take k=[]:=by rw[show k=0 by omega];rfl
 rw[if_pos e]at a;rw[e,show zP ([]:List (List UInt8))=[] from rfl];have s2:=QB [] u (by simp only[Ag];omega);rw[AI]at a s2;repeat apply za
 refine ze [] h0 ?_;refine zk (by simp[h0]) ?_;refine zh (ze [] (zD f b s2) ?_);refine zb ?_;exact zr (k+1) [] b EA (by simp[zu k EA,a]) rfl EB;simp at hc;obtain rfl:k=ws.length:=EA;have hs:=QB (zP ws) [10] (by simp only[AS];omega);refine zx (WD (λ_=>.inl rfl) ?_);rw[Ah];refine aF [] hs ?_;exact EL i
def Zv6(b n:Nat)(c:Array Value)(w:World)(a:w.heap[b]?=some (.cells c 79 (0,0)))(h1:c[1]?=some (.slice none 0 0))(hn:n<=281474976710656):
  Calls prog 149 #[.pointer (some ⟨b,0,none⟩),.int .i64 n] w λe w'=>e=.returned (.tuple #[])/\∃cs:Array Value,(n<=maxLen->cs.size<=maxLen)/\w'=((w.alloc (.cells cs 5)).setCell ⟨b,1,none⟩ (.slice (some ⟨w.heap.size,0,none⟩) 0 cs.size)).drew.drew.drew:=by
 obtain⟨cs,f,k,g⟩:=Lib.run_makeNoZero (P:=prog) w.drew #[3] 77 5 underlying77 n hn;have j:IntKind.i64.wrap (n:Int)=n:=by rw[AD];omega
 have h:(callFunc 193 #[.int .i64 (IntKind.i64.wrap (n:Int))]).run prog w.drew=.ok (.value (.slice (some ⟨w.drew.heap.size,0,none⟩) n cs.size)) (w.drew.drew.drew.alloc (.cells cs 5)):=by rw[j,run_callFunc_extern func193 ED ED ED (e:=Extern.BytealgMakeNoZero.makeNoZero #[3] #[77]) ED,f];rfl
 have d:b<w.heap.size:=qX a;have c1:w.drew.cell? ⟨b,1,none⟩=some (.slice none 0 0):=by have:w.drew.heap[b]?=some (.cells c 79 (0,0)):=a;rw[Lib.cell_of_heap this];exact h1
 have c2:(w.alloc (.cells cs 5)).cell? ⟨b,1,none⟩=some (.slice none 0 0):=by rw[Lib.cell_of_heap ((Lib.alloc_old w _ b d).trans a)];exact h1
 have l:(w.alloc (.cells cs 5)).frozen? ⟨b,1,none⟩=false:=Lib.frozen_of_heap ((Lib.alloc_old w _ b d).trans a) 1;have i:∀W:World,(Builtin.copy_ #[77,77] 3 #[.slice (some ⟨w.heap.size,0,none⟩) 0 cs.size,.slice none 0 0]).run prog W=.ok (goInt 0) W :=
  λW=>run_copy_none W 77 77 3 5 _ _ 0 cs.size 0 0 underlying77 ED rfl
 clear j d
 go_enter func149,ntmps149
 go_wp2
 go_region
 all_goals (go_wp2;go_end0;exact⟨rfl,cs,g,rfl⟩)
def Zv7{id v nx:Nat}(n:Nat)(hn:n<=140737488355328)(t:S id=.cells v 79 [p,.sc (.slice none 0 0)])(x:S nx=.dead):
  SP 149 [.ptr id v 0,I n] S (λ_ S'=>∃w0,S'=(S.set nx (.cells w0 5 [])).set id (.cells v 79 [p,.sl nx w0 1 0 0])):=by
 refine⟨qL func149 EG rfl,?_⟩;intro C w vs hC hl hr;obtain⟨u,u2,rfl⟩:=tK hl;have d:=hr 0 _ u rfl rfl;have y:=hr 1 _ u2 rfl rfl;cases y;cases d with
 |ptr h1 h2 h3 =>
 obtain⟨b,k,f,rfl⟩:=(h3 v (by rw[t];rfl)).2 rfl;obtain⟨b',k',c,c0,c1,g1,z,g3,g4,e0,e1,r0,r1,g5⟩:=dW hC t;rw[f]at g1;cases g1;cases r1;refine(Zv6 b n c w z e1 EA).mono ?_;rintro e w' ⟨rfl,cs,m,rfl⟩;have a0:b<w.heap.size:=qX z;have r:id≠nx:=by rintro rfl;rw[t]at x;cases x
 obtain⟨a1,a2⟩:=hC.object' (o:=nx) (ver:=C.clock) ⟨x,.inr (Af _)⟩ 5 cs [] (BO _) (λi u hi=>absurd hi (Nat.not_lt_zero _)) (λi q u g=>by simp at g);have a3:(S.set nx (.cells C.clock 5 [])) id=.cells v 79 [p,.sc (.slice none 0 0)]:=(q10 _ _ _ _ r).trans t;have a:(C.put nx C.clock (some (w.heap.size,cs.size))).loc id=some (b,k):=by simp[Ctx.put,r,f]
 have a4:(w.alloc (.cells cs 5)).heap[b]?=some (.cells c 79 (0,0)):=(Z3 w _ b a0).trans z;have a5:Rel (C.put nx C.clock (some (w.heap.size,cs.size))) (S.set nx (.cells C.clock 5 [])) (w.alloc (.cells cs 5)) (.sl nx C.clock 1 0 0) (.slice (some ⟨w.heap.size,0,none⟩) 0 cs.size):=by refine .sl ⟨_,_,rfl,BO _,BO _,m (by unfold maxLen;omega),λh=>absurd rfl h⟩ ⟨by simp only[Ctx.put];omega,by simp only[Ctx.put];omega⟩ λv0 s=>?_;rw[q11]at s;cases s;exact⟨Af _,λ_=>.inr ⟨w.heap.size,cs.size,_,_,by simp[Ctx.put],rfl,λ_=>⟨rfl,BU _⟩,λ_=>rfl⟩⟩
 have hh:((w.alloc (.cells cs 5)).setCell ⟨b,1,none⟩ (.slice (some ⟨w.heap.size,0,none⟩) 0 cs.size)).heap[b]?=some (.cells (c.setIfInBounds 1 (.slice (some ⟨w.heap.size,0,none⟩) 0 cs.size)) 79 (0,0)):=by simp only[World.setCell,BN,if_true,a4,AR];rfl
 obtain⟨t1,t2⟩:=a1.turn (l:=(C.put nx C.clock (some (w.heap.size,cs.size))).loc id) (ver':=v) (cs':=[p,.sl nx C.clock 1 0 0]) a3 (Af _) (λ_=>rfl) (w':=(w.alloc (.cells cs 5)).setCell ⟨b,1,none⟩ (.slice (some ⟨w.heap.size,0,none⟩) 0 cs.size))
  (by rw[a];exact⟨⟨rfl,rfl,rfl,by simp[World.setCell],λj _ hj=>by show ((w.alloc (.cells cs 5)).heap.modify b _)[j]?=_;rw[BN,if_neg (λe=>hj (by rw[<-e];rfl))]⟩,Af _⟩)
  (.inr ⟨b,k,_,a,.inr (by rw[a];rfl),hh,by simp[g3],g4,λi u hi d=>by
    match i,hi with
    |0,_=>rw[De EA]at d;exact g5 0 u EA d
    |1,_=>rw[Cg EA]at d;cases d;rfl,
   λi q u g d=>by
    match i,g with
    |0,g=>cases g;rw[De EA,e0]at d;cases d;exact r0.mono a2
    |1,g=>cases g;rw[Cg EA]at d;cases d;exact a5⟩)
 obtain⟨d1,d2⟩:=t1.drew;obtain⟨d3,d4⟩:=d1.drew;obtain⟨d5,d6⟩:=d3.drew;exact⟨.junk,_,_,_,rfl,⟨_,rfl⟩,.junk _,d5,(((a2.trans t2).trans d2).trans d4).trans d6⟩
def Zv8{r:Rd}{e:TypeId}(ho:o.op=.call { callee:=.builtin .cap,args:=#[x],argTypes:=#[t] })(h:P.underlying t=some (.slice e))(hx:ev F x=.sc (.slice none 0 0))(i:K (I 0) S):PO P r n o F S K:=by
 intro G j C w a N st next Q' b;have f:=st.ev x;rw[(j x (by simp[ho,Op.operands,Call.operands])).trans hx]at f;have g:∀c,o.op≠.defer c:=by intro c hc;rw[ho]at hc;cases hc
 generalize hv:a.eval x=v at f;cases f;have d:(execOp a.eval o).run P w=.ok (.value (.int .i64 0)) w:=by unfold execOp;simp[ho,resolve,invoke,builtin,hv,Builtin.cap_,goInt,run_underlying h]
 exact qx g d (b _ _ _ _ _ i (.sc _) st.sim (Step.refl _ _ _))
variable {nx:Nat}
def jt{id:Nat}{o:Ob}(b:yd nx S)(h:S id=o)(a:o≠.dead):id<nx:=by obtain q|q:=Bo id nx;exact q;rw[b id q]at h;exact absurd h.symm a
def jf{id:Nat}(a:yd nx S)(b:id<nx)(o:Ob):yd nx (S.set id o):=λi hi=>by rw[q10 _ _ _ _ EA];exact a i hi
theorem Zv9(l:List UInt8):((bs l).data.toList.map λb=>(.sc (.int .u8 (b.toNat:Int)):PV))=l.map U8:=rfl
abbrev QD(id v ib w n:Nat):List PV:=[.ptr id v 0,.sl ib w 1 0 n]
def dX{id v ib w0:Nat}(l m:List UInt8)(i:S id=.cells v 79 [p,.sl ib w0 1 0 l.length])(t:p=.sc (.pointer none)\/p=.ptr id v 0)(g:S ib=.cells w0 5 (l.map U8))(r:l.length+m.length<=140737488355328):
  SP 39 [.ptr id v 0,T (bs m)] S (λq S'=>q=.tup [I m.length,.sc .nilIface]/\S'=(S.set ib (.cells (w0+1) 5 ((l++m).map U8))).set id (.cells v 79 (QD id v ib (w0+1) (l++m).length))):=by
 have c:id≠ib:=by rintro rfl;rw[i]at g;cases g
 have d:=vr m;have j:=λS (h:S id=_)=>tL (S:=S) (id:=id) (v:=v) (p:=p) (s:=.sl ib w0 1 0 l.length) h t;refine yr func39 ntmps39 results39 λnx k=>?_;have a:id<nx:=jt k i EB;have b:ib<nx:=jt k g EB;refine EK ?_;refine EK ?_;refine λe=>((j _ ((zG a).trans i)).mono ?_).v;rintro _ _ rfl;refine⟨_,_,qE _ a,zO e ?_⟩;obtain⟨A,n⟩:∃A,A=Ob.cells v 79 [.ptr id v 0,.sl ib w0 1 0 l.length]:=⟨_,rfl⟩;have x1:∀obs,ext (S.set id A) nx obs id=.cells v 79 [.ptr id v 0,.sl ib w0 1 0 l.length]:=λobs=>by rw[zG a,q11,n]
 have x2:∀obs,ext (S.set id A) nx obs ib=.cells w0 5 (l.map U8):=λobs=>(zG b).trans ((q10 _ _ _ _ (Ne.symm c)).trans g);have x3:∀B obs,ext ((S.set id A).set ib B) nx obs id=.cells v 79 [.ptr id v 0,.sl ib w0 1 0 l.length]:=λB obs=>by rw[zG a,q10 _ _ _ _ c,q11,n]
 rw[<-n];have g1:¬nx<=id:=EA;have u:¬nx<=ib:=EA;have g3:m.length<=9223372036854775807:=EA;have o:(l.map U8).take l.length=l.map U8:=Ae EB;refine aF [] (zU x1 x2 x3 d g1 (zD u g3 Zv9)) ?_;refine⟨by omega,?_⟩;refine aF [] d ?_;have f:((S.set id A).set ib (.cells (w0+1) 5 (l.map U8++m.map U8))).set id (.cells v 79 [.ptr id v 0,.sl ib (w0+1) 1 0 (l.length+m.length)])=(S.set ib (.cells (w0+1) 5 ((l++m).map U8))).set id (.cells v 79 (QD id v ib (w0+1) (l++m).length)):=by rw[List.map_append,Ak,<-Store.set_comm S ib id _ _ (c),Store.set_set]
 refine zg ⟨_,_,by simp;rfl,⟨by simp[zp],by rw[o];exact f⟩,zV ?_⟩;exact jf (jf (jf k a _) b _) a _
def Zwa{id v:Nat}(n:Nat)(h0:0<n)(hn:n<=140737488355328)(f:S id=.cells v 79 [.sc (.pointer none),.sc (.slice none 0 0)])(c:yd nx S):
  SP 105 [.ptr id v 0,I n] S (λ_ S'=>∃w0,S'=(S.set nx (.cells w0 5 [])).set id (.cells v 79 (QD id v nx w0 0))):=by
 have a:id<nx:=jt c f EB;have d:=λS (h:S id=_)=>tL (S:=S) (id:=id) (v:=v) (p:=.sc (.pointer none)) (s:=.sc (.slice none 0 0)) h (.inl rfl);refine Z7 c func105 ntmps105 results105 ?_;refine EK ?_;refine λb=>((d _ ((zG a).trans f)).mono ?_).v;rintro _ _ rfl;refine⟨_,_,qE _ a,zO b ?_⟩;obtain⟨A,g⟩:∃A,A=Ob.cells v 79 [.ptr id v 0,.sc (.slice none 0 0)]:=⟨_,rfl⟩;have x1:∀obs,ext (S.set id A) nx obs id=.cells v 79 [.ptr id v 0,.sc (.slice none 0 0)]:=λobs=>by rw[zG a,q11,g]
 rw[<-g];have g1:¬nx<=id:=EA;repeat apply za
 refine zb ?_;refine aC ?_;have e:=λS (h:S id=_) (c:S nx=.dead)=>Zv7 (S:=S) (id:=id) (v:=v) (nx:=nx) (p:=.ptr id v 0) n hn h c;refine aG (some [id]) (Row.pures [0,1,2,3,5,6,7,8,9,11] (.alt 4 (Row.pures [10,12] .done) .stop)) mixed (zn x1 g1) ?_;refine⟨by rfl,(Zv8 rfl underlying77 EB ?_)⟩;refine⟨by simp[yY],xl trivial ?_⟩;refine zm EF ?_;refine zb ?_;refine λb=>((e _ (x1 []) (Z5 (nx:=nx) (obs:=[]))).mono ?_).v;rintro _ _ ⟨w0,rfl⟩;have i:id≠nx:=EA;have j:((ext (S.set id A) nx []).set nx (.cells w0 5 [])).set id (.cells v 79 [.ptr id v 0,.sl nx w0 1 0 0])=ext (S.set id (.cells v 79 [.ptr id v 0,.sl nx w0 1 0 0])) nx [.cells w0 5 []]:=by have:=jE (S:=S.set id A) (nx:=nx) (obs:=[]) (.cells w0 5 []);simp only[Ag,BK,AI]at this;rw[this,qE _ a,Store.set_set]
 refine⟨_,_,j,zO b ?_⟩;have e2:(S.set nx (.cells w0 5 [])).set id (.cells v 79 (QD id v nx w0 0))=ext (S.set id (.cells v 79 [.ptr id v 0,.sl nx w0 1 0 0])) nx [.cells w0 5 []]:=by have:=jE (S:=S) (nx:=nx) (obs:=[]) (.cells w0 5 []);simp only[Ag,BK,AI,jm c]at this;rw[this,qE _ a]
 exact⟨_,_,rfl,⟨w0,e2.symm⟩,λo=>.inl rfl⟩
theorem aS:∀ws:List (List UInt8),(zP ws).length=(ws.map List.length).sum+(ws.length-1)
 |[]=>rfl
 |[w]=>by simp[zP]
 |w::v::ws=>by have:=aS (v::ws);rw[Vh,Ak,Ab,this];simp only[Ap,AL,Ab];omega
def tM(l:List Nat)(k:Nat):(l.take k).sum<=l.sum:=by
 conv=>rhs;rw[<-List.take_append_drop k l]
 rw[Bb];omega
def YU(ws:List (List UInt8))(k:Nat):Nat:=((ws.take k).map List.length).sum
def tN(ws:List (List UInt8))(k:Nat):YU ws k<=(ws.map List.length).sum:=by unfold YU;rw[List.map_take];exact tM _ k
variable {u:List UInt8}
def Zwb(h:ws[k]?=some u):YU ws (k+1)=YU ws k+u.length:=by unfold YU;rw[AE,h];simp
def wr2{A B A2 B2:Ob}:((ext S nx [A,B]).set (nx+1) B2).set nx A2=ext S nx [A2,B2]:=by rw[yi _ EA EB,yi _ EA EB];simp
theorem dY:∀(w:List UInt8) (rs:List (List UInt8)),zP (w::rs)=w++(rs.map λu=>32::u).flatten
 |w,[]=>by simp[zP]
 |w,v::rs=>by rw[Vh,dY v rs];simp
def u6(w0:List UInt8)(rs:List (List UInt8))(k:Nat):List UInt8:=w0++((rs.take k).map λu=>32::u).flatten
def Zwc(w0:List UInt8)(rs:List (List UInt8)):u6 w0 rs 0=w0:=by simp[u6]
def Zwd{w0:List UInt8}(h:ws[k]?=some u):u6 w0 ws (k+1)=(u6 w0 ws k++[32])++u:=by unfold u6;rw[AE,h];simp
def Zwe(w0:List UInt8)(rs:List (List UInt8)):u6 w0 rs rs.length=zP (w0::rs):=by unfold u6;rw[Ah,dY]
def Zwf(w0:List UInt8)(rs:List (List UInt8))(k:Nat):(u6 w0 rs k).length<=(zP (w0::rs)).length:=by rw[dY];unfold u6;simp;exact tM _ k
def Zwg(ws:List (List UInt8))(hl:ws.length<=1048576)(f:(zP ws).length<=140737488355328):PP 64 [L (ws.map bs),T (bs [32])] (T (bs (zP ws))):=by
 match ws,hl,f with
 |[],_,_ =>
  refine zt func64 ntmps64 results64 λS nx q=>?_;refine EK ?_;repeat apply za
  refine zb ?_;refine zj (EK ?_);refine aD ?_;refine EK ?_;exact EL q
 |[w],_,_ =>
  refine zt func64 ntmps64 results64 λS nx q=>?_;refine EK ?_;repeat apply za
  refine zb ?_;refine zj (EK ?_);refine aE ?_;refine EK ?_;refine aD ?_;refine EK ?_;exact EL q
 |w0::v0::r0,hl,f =>
 obtain⟨rs,r⟩:∃rs,rs=v0::r0:=⟨_,rfl⟩;obtain⟨ws,b⟩:∃ws,ws=w0::rs:=⟨_,rfl⟩;obtain⟨mm,hm⟩:∃mm,ws.length=mm+1:=⟨rs.length,by rw[b];rfl⟩;have d4:1<=mm:=by rw[b,r]at hm;simp at hm;omega
 have d5:rs.length=mm:=by rw[b]at hm;simpa using hm
 rw[<-r,<-b]at hl f ⊢;have s:=aS ws;rw[hm]at hl s;have x:(bs [32]).size=1:=rfl;have w1:IntKind.i64.wrap ((ws.length:Int)-1)=(mm:Int):=by rw[AD];omega
 have q0:¬(mm:Int)=0:=EA;have a7:¬mm=0:=EA;have q1:¬IntKind.i64.wrap ((9223372036854775807:Int).tdiv mm)<=1:=by rw[Bx EA];have h1:(9223372036854775807:Int)/mm<=9223372036854775807:=Dq _ EA;have h2:2<=(9223372036854775807:Int)/mm:=(Int.le_ediv_iff_mul_le EA).2 EA;rw[AD];omega
 have w2:IntKind.i64.wrap (mm:Int)=mm:=wr _ EA EA;have a0:¬ws=[]:=by intro h;rw[h]at hm;simp at hm
 clear r;refine zt func64 ntmps64 results64 λS nx q=>?_;refine EK ?_;repeat apply za
 refine zb ?_;refine zj (EK ?_);refine zk (by simp[a0]) ?_;refine EK ?_;refine zk EF ?_;refine zh (EK ?_);repeat apply za
 refine ze [] x ?_;refine aD ?_;repeat apply za
 refine ze [] (yx x w1 q0 a7 q1) ?_;refine aC (ze [] (zD x w1 w2) ?_);repeat apply za
 refine zb ?_;refine zj (zC (λk:Nat=>k<=ws.length) (λk=>[(0,L (ws.map bs)),(1,T (bs [32])),(5,I ((mm+YU ws k:Nat):Int)),(39,L (ws.map bs)),(40,I ws.length),(41,I k)]) (λ_=>[]) (λk=>ws.length-k) 0 [] EB (by simp[YU]) EB ?_);rintro k hk;have d6:=tN ws k;refine EK ?_;refine za (zv rfl (λhc=>?_) (λhc=>?_));simp at hc;obtain⟨t,tl,b1,b2,b3,f0⟩:=zF rfl (ws.map bs) k (by simpa using hc);obtain⟨u,hu,rfl⟩:∃u,ws[k]?=some u/\bs u=t:=by rw[Ai]at b1;simpa using b1
 have a1:=tN ws (k+1);have g:=Zwb hu;have i:=vr u;rw[g]at a1;generalize YU ws k=c0 at *;have d:k<ws.length:=by simpa using hc
 have d7:mm+c0+u.length<=140737488355328:=EA;have v1:IntKind.i64.wrap (9223372036854775807-((mm:Int)+c0))=9223372036854775807-((mm:Int)+c0):=by rw[AD];omega
 have v2:¬(9223372036854775807-((mm:Int)+c0))<u.length:=EA;have v3:IntKind.i64.wrap ((mm:Int)+c0+u.length)=(mm:Int)+c0+u.length:=by rw[AD];omega
 refine zh (aA (aF [] (zn f0 d) ?_));repeat apply za
 refine ze [] (zD i v1 v2) ?_;refine aC (ze [] (zn i v3) ?_);refine zb ?_;exact zr (k+1) [] d EA (by simp[zu k EA,g];try omega) rfl EB;simp at hc;obtain rfl:k=ws.length:=EA;refine zx ?_;have a8:YU ws ws.length=(ws.map List.length).sum:=by unfold YU;rw[Ah]
 obtain⟨c,a9⟩:∃c,c=mm+(ws.map List.length).sum:=⟨_,rfl⟩;have b7:((mm:Int)+(YU ws ws.length:Int))=(c:Int):=by rw[a8,a9];rfl
 have b8:0<c:=EA;have c6:c<=140737488355328:=EA;have c7:=λ(v:Nat) S (h:S nx=.cells v 79 [.sc (.pointer none),.sc (.slice none 0 0)]) (q:yd (nx+1) S)=>Zwa (S:=S) (id:=nx) (v:=v) (nx:=nx+1) c b8 c6 h q;refine aF [] b7 ?_;intros;rename_i v;have g1:¬nx+1<=nx:=EA;have c8:∀A,yd (nx+1) (ext S nx [A]):=λA=>xM (obs:=[A]);refine EK ?_;refine λa=>((c7 v _ (by rw[Zg];rfl) (c8 _)).mono ?_).v;rintro _ _ ⟨e,rfl⟩;have e1:∀A B A',((ext S nx [A]).set (nx+1) B).set nx A'=ext S nx [A',B]:=λA B A'=>by have:=jE (S:=S) (nx:=nx) (obs:=[A]) B;simp only[AS,CK]at this;rw[this,yi _ EA EB];simp
 refine⟨_,_,e1 _ _ _,zO a ?_⟩;obtain⟨t,tl,b1,b2,b3,f0⟩:=zF rfl (ws.map bs) 0 EF;obtain rfl:bs w0=t:=by rw[b]at b1;simpa using b1
 have a2:0<ws.length:=EA;have y:∀(S:Store) (e:Nat) (l m:List UInt8),(zP ws).length<=140737488355328->l.length+m.length<=(zP ws).length->S nx=.cells v 79 (QD nx v (nx+1) e l.length)->S (nx+1)=.cells e 5 (l.map U8)->_:=λS e l m f hl h1 h2=>dX (S:=S) (id:=nx) (v:=v) (ib:=nx+1) (w0:=e) l m h1 (.inr rfl) h2 EA;have a3:∀k,(u6 w0 rs k).length<=(zP ws).length:=λk=>by rw[b];exact Zwf w0 rs k
 have j:=Zwc w0 rs;have n:=a3 0;rw[j]at n;refine aF [] (zn f0 a2) ?_;refine λa=>((y _ e [] w0 f (by simpa using n) (by rw[Zg];rfl) (by rw[zS];rfl)).mono ?_).v;rintro _ _ ⟨rfl,rfl⟩;refine⟨_,_,wr2,zO a ?_⟩;have a4:1<=ws.length:=a2;have d0:ws.length-1=rs.length:=by rw[b];rfl
 have d1:List.take rs.length (List.flatMap Enc.enc (ws.map bs)).tail=(rs.map bs).flatMap Enc.enc:=by
  have:(List.flatMap Enc.enc (ws.map bs)).tail=(rs.map bs).flatMap Enc.enc:=by rw[b];rfl
  rw[this];exact Ae (by rw[xz];simp[Enc.sz])
 have d2:(PV.lst rs.length ((rs.map bs).flatMap Enc.enc))=L (rs.map bs):=by unfold L;rw[List.length_map]
 repeat apply za
 refine ze [] (zD a4 d0 d1) ?_;rw[<-j];refine zj (zC (λk:Nat=>k<=rs.length) (λk=>[(1,T (bs [32])),(8,.ptr nx v 0),(63,L (rs.map bs)),(64,I rs.length),(65,I k)]) (λk=>[.cells v 79 (QD nx v (nx+1) (e+1+2*k) (u6 w0 rs k).length),.cells (e+1+2*k) 5 ((u6 w0 rs k).map U8)]) (λk=>rs.length-k) 0 [] EB (by simp[d2]) EB ?_);rintro k hk;refine EK ?_;refine za (zv rfl (λhc=>?_) (λhc=>?_));simp at hc;obtain⟨t,tl,b1,b2,b3,f0⟩:=zF rfl (rs.map bs) k (by simpa using hc);obtain⟨u,hu,rfl⟩:∃u,rs[k]?=some u/\bs u=t:=by rw[Ai]at b1;simpa using b1
 have d:k<rs.length:=by simpa using hc
 have z:=Zwd (w0:=w0) hu;have a5:=a3 (k+1);rw[z]at a5;simp only[Ak,AS]at a5;refine zh (aA (aF [] (zn f0 d) ?_));refine EK ?_;refine λa=>((y _ _ (u6 w0 rs k) [32] f EF (by rw[Zg];rfl) (by rw[zS];rfl)).mono ?_).v;rintro _ _ ⟨rfl,rfl⟩;obtain⟨mid,o⟩:∃mid,mid=u6 w0 rs k++[32]:=⟨_,rfl⟩;rw[<-o]at z ⊢;have d3:mid.length=(u6 w0 rs k).length+1:=by rw[o];simp
 refine⟨_,_,wr2,zO a ?_⟩;refine zb ?_;refine λa=>((y _ _ mid u f (by rw[d3];omega) (by rw[Zg];rfl) (by rw[zS];rfl)).mono ?_).v;rintro _ _ ⟨rfl,rfl⟩;rw[<-z];refine⟨_,_,wr2,zO a ?_⟩;refine zb ?_;exact zr (k+1) [] d EA (by simp[zu k EA];try omega) rfl (by simp only[show e+1+2*(k+1)=e+1+2*k+1+1 by omega,AA]);simp at hc;obtain rfl:k=rs.length:=EA;refine zx ?_;rw[Zwe,<-b];have a6:zP ws≠[]:=by intro h;rw[h]at s;simp only[Ag]at s;omega
 refine EK ?_;refine λa=>((aR (id:=nx) (v:=v) (ib:=nx+1) (w0:=e+1+2*rs.length) (p:=.ptr nx v 0) (zP ws) (by rw[Zg];rfl) (by rw[zS];rfl) a6 f).mono ?_).v;rintro _ _ ⟨rfl,rfl⟩;rw[yi _ EA EB];refine⟨_,_,rfl,zO a ?_⟩;exact EL q
def X1(ws:List (List UInt8))(hl:ws.length<=1048576)(c:(zP ws).length<=1048576):PP 37 [L (ws.map bs)] (T (bs (zP ws++[10]))):=by have a:=Zwg ws hl EA;have hs:=QB (zP ws) [10] (by simp only[AS];omega);refine zt func37 ntmps37 results37 λS nx b=>?_;refine EK ?_;refine EK ?_;refine yP [] a hs ?_;exact EL b
def wM(f:Nat->Int):Nat->Int
 |0=>0
 |k+1=>xR (wM f k) (f k)
def kp(a b:Int):zL (xR a b):=by unfold xR zL;split<;>(try split)<;>omega
def kq(f:Nat->Int)(k:Nat):zL (wM f k):=by
 cases k with
 |zero=>show zL 0;exact⟨by decide,by decide⟩
 |succ k=>exact kp _ _
def kr(x:Inst)(g:FuncId)(ps:List PV)(f:Nat->Int)(hx:x.y.length<=1048576)(hf:∀k,zL (f k))
  (h:∀k,k<x.y.length->∀T:Store,(∀o,S o≠.dead->T o=S o)->Spec prog g (ps++[I k]) T (λq S'=>q=I (f k)/\S'=T)) :
  SP 143 [.agg (zB x),.fn (.func g) ps []] S (λq S'=>q=I (wM f x.y.length)/\S'=S):=by
 refine yr func143 ntmps143 results143 λnx c=>?_;have d:∀obs o,S o≠.dead->ext S nx obs o=S o:=λobs o ho=>by apply zG;obtain q|q:=Bo o nx;exact q;exact absurd (c o q) ho
 refine EK ?_;intro v0;refine EK ?_;repeat apply za
 refine zb ?_;refine zj (zC (λs:Nat × Nat=>s.1<=x.y.length) (λ(k,v)=>[(1,.fn (.func g) ps []),(2,.ptr nx v 0),(5,I (wM f k)),(9,I x.y.length),(10,I k)]) (λ(k,v)=>[.cells v 25 (zB x)]) (λs=>x.y.length-s.1) (0,v0) [] EB (by simp[wM]) EB ?_);rintro⟨k,v⟩ e;simp only at e ⊢;refine EK ?_;refine za (zv rfl (λhc=>?_) (λhc=>?_));simp at hc;have b:=dC (wM f k) (f k) (kq f k) (hf k);refine zh (aA (EK ?_));refine zb ?_;refine λa=>((h k hc _ (d _)).mono ?_).v;rintro _ _ ⟨rfl,rfl⟩;refine⟨_,_,rfl,zO a ?_⟩;refine λa=>((b _).mono ?_).v;rintro _ _ ⟨rfl,rfl⟩;refine⟨_,_,rfl,zO a ?_⟩;refine zb ?_;exact zr (k+1,v) [] hc EF (by simp[zu k EA];rfl) rfl EB;simp at hc;obtain rfl:k=x.y.length:=EA;refine zx (EK ?_);exact EL c
abbrev Yh(x:Inst)(pa pb ch:PV):List PV:=[I x.days,I x.X,I x.Q,I x.len,L x.y,L x.O,pa,pb,ch]
def ks{id ver:Nat}(x:Inst)(pa d e:PV)(k:Nat){c:Cust}(f:S id=.cells ver 208 (Yh x pa d e))(hx:x.y.length<=1048576)(hc:x.y[k]?=some c)(i:c.J.length<=1048576):
  SP 173 [.ptr id ver 0,I k] S (λq S'=>q=I (je c x.days x.Q)/\S'=S):=by
 have a:=tC c x.days x.Q i;have g:k<x.y.length:=(Ad.1 hc).1;obtain⟨t,tl,b1,b2,b3,j,l⟩:=el 8 rfl x.y k g;obtain rfl:t=c:=by rw[hc]at b1;exact(Option.some.inj b1).symm
 refine yr func173 ntmps173 results173 λnx h=>?_;have b:id<nx:=jt h f EB;have x1:∀obs,ext S nx obs id=.cells ver 208 (Yh x pa d e):=λobs=>(zG b).trans f;refine EK ?_;refine aG (some [id]) Ra mixed (zR x1 g j l) ?_;refine zJ (a) trivial ?_;exact EL h
variable {a:Int}
def Zwh{id ver:Nat}(x:Inst)(pa d:PV)(b:List Int)(k:Nat){c:Cust}(g:S id=.cells ver 208 (Yh x pa d (L b)))(hx:x.y.length<=1048576)(hc:x.y[k]?=some c)(m:c.J.length<=1048576)(i:b[k]?=some a):
  SP 181 [.ptr id ver 0,I k] S (λq S'=>q=I (W (a*je c x.days x.Q))/\S'=S):=by
 have e:=λS (h:S id=_)=>ks (S:=S) (id:=id) (ver:=ver) x pa d (L b) k h hx hc m;have j:k<b.length:=(Ad.1 i).1;obtain⟨t,tl,b1,b2,b3,n⟩:=zF rfl b k j;obtain rfl:t=a:=by rw[i]at b1;exact(Option.some.inj b1).symm
 refine yr func181 ntmps181 results181 λnx l=>?_;have f:id<nx:=jt l g EB;have x1:∀obs,ext S nx obs id=.cells ver 208 (Yh x pa d (L b)):=λobs=>(zG f).trans g;refine EK ?_;refine aG (some [id]) (Row.pures [0,1,2,3,4,5,6,7,8] (.alt 9 (Row.pures [10,11] .done) .stop)) mixed (zD x1 j n) ?_;refine(Spec.mono (e _ (x1 [])) ?_).v;rintro _ _ ⟨rfl,rfl⟩;refine⟨by simp[yY],xl trivial ?_⟩;exact EL l
def uA(c:Cust)(n cap:Int):Int:=if c.kind=1 then W (je c n cap*c.R) else vq c n
def Zwi{id ver:Nat}(x:Inst)(pa b d:PV)(k:Nat){c:Cust}(j:S id=.cells ver 208 (Yh x pa b d))(hx:x.y.length<=1048576)(hc:x.y[k]?=some c)(m:c.J.length<=1048576):
  SP 175 [.ptr id ver 0,I k] S (λq S'=>q=I (uA c x.days x.Q)/\S'=S):=by
 have e:=λS (h:S id=_)=>ks (S:=S) (id:=id) (ver:=ver) x pa b d k h hx hc m;have f:=tu c x.days;have l:k<x.y.length:=(Ad.1 hc).1;obtain⟨t,tl,b1,b2,b3,n,o⟩:=el 8 rfl x.y k l;obtain rfl:t=c:=by rw[hc]at b1;exact(Option.some.inj b1).symm
 refine yr func175 ntmps175 results175 λnx g=>?_;have i:id<nx:=jt g j EB;have x1:∀obs,ext S nx obs id=.cells ver 208 (Yh x pa b d):=λobs=>(zG i).trans j;refine EK ?_;refine aF [] (zR x1 l n o) ?_;intros;repeat apply za
 refine zb ?_;by_cases a:t.kind=1;repeat apply za
 refine zm (by simp[a]) ?_;refine aG (some [id,nx]) (Row.pures [0,1,3,4] (.alt 2 U4 .stop)) mixed x1 ?_;refine(Spec.mono (e _ (x1 _)) ?_).v;rintro _ _ ⟨rfl,rfl⟩;refine⟨by simp[yY],xl trivial ?_⟩
 trace_state
 exact zg (zi g EC (by simp[uA,a,zp]));repeat apply za
 refine zk (by simp[a]) ?_;refine zh (aG (some [id,nx]) RE mixed x1 ?_);refine zJ (f) trivial ?_;exact zg (zi g EC (by simp[uA,a,zp]))
def Jc(price:List Int):Nat->Int
 |0=>ZU price 0
 |k+1=>qj (Jc price k) (ZU price k)
def aT(n:Nat)(cap:Int)(c:Cust)(price:List Int):Int :=
 if c.kind=2 then W (W (je c n cap*Jc price n)+J1 c n) else W (je c n cap*Jc price n)
def Yi(n:Nat)(cap:Int)(c:Cust)(price:List Int):Int :=
 if (c.kind=1\/c.Y=1)/\(qJ n cap c price).2=true then Zu c n price (qJ n cap c price).1 else aT n cap c price
variable {price:List Int}
def Zwj{o:PV}(c:Cust)(n:Nat)(cap:Int)(p:RowOf S o price)(hp:∀z∈price,zL z)(a0:price.length<=1000)(hm:CustMade c n)(a1:c.J.length<=1000)(hn:n<=60)(a2:CustFits c)(hv:VisOk (qJ n cap c price).1):
  SP 179 [.agg (yh c),I n,I cap,o] S (λq S'=>q=I (Yi n cap c price)/\S'=S):=by
 have a3:=tC c n cap EA;have a4:=ZvP c n EA;have r:=λS (p:RowOf S o price)=>ki (S:=S) c n cap p hp a0 hm a1 hn;have t:=λS (p:RowOf S o price)=>iZ (S:=S) c n (qJ n cap c price).1 p a2 hv;have w:=λS (p:RowOf S o price) (d:Int)=>iW (S:=S) d p;obtain⟨i,b⟩:∃i,i=Yi n cap c price:=⟨_,rfl⟩;rw[<-b];unfold Yi at b;generalize qJ n cap c price=az at *;obtain⟨av,f⟩:=az;simp only at b r t;have g:(c.kind=1\/c.Y=1)->f=true->i=Zu c n price av:=λh1 h2=>by rw[b,if_pos ⟨h1,h2⟩]
 have m:¬((c.kind=1\/c.Y=1)/\f=true)->i=aT n cap c price:=λh=>by rw[b,if_neg h]
 clear b;unfold aT at m;generalize Zu c n price av=cv at *;generalize je c n cap=fo at *;generalize J1 c n=ke at *;refine yr func179 ntmps179 results179 λnx x=>?_;have e:=λobs=>p.ext x obs;refine EK ?_;intro v0;refine za (qT (nx:=nx) (σ:=Unit) (λ_=>¬((c.kind=1\/c.Y=1)/\f=true)) (λ_=>[(1,I n),(2,I cap),(3,o),(4,.ptr nx v0 0)]) (λ_=>S) (λ_=>[.cells v0 59 (yh c)]) ?_ ?_);by_cases u:c.kind=1
 .refine aF [(3,17)] (zn u zE) ?_;refine aD ?_;refine EK ?_;refine λa=>((r _ (e _)).mono ?_).v;rintro _ _ ⟨rfl,rfl⟩;refine⟨_,_,rfl,zO a ?_⟩;refine EK ?_;cases f with
  |true =>
  refine aD ?_;refine EK ?_;refine λa=>((t _ (e _)).mono ?_).v;rintro _ _ ⟨rfl,rfl⟩;refine⟨_,_,rfl,zO a ?_⟩;exact zg (zi x EC (by rw[g (.inl u) rfl];rfl))
  |false =>
  refine aE ?_;exact zh (yb () [] EB EB rfl EB)
 by_cases j:c.Y=1
 .refine aF [(3,17)] (zn u j) ?_;refine aD ?_;refine EK ?_;refine λa=>((r _ (e _)).mono ?_).v;rintro _ _ ⟨rfl,rfl⟩;refine⟨_,_,rfl,zO a ?_⟩;refine EK ?_;cases f with
  |true =>
  refine aD ?_;refine EK ?_;refine λa=>((t _ (e _)).mono ?_).v;rintro _ _ ⟨rfl,rfl⟩;refine⟨_,_,rfl,zO a ?_⟩;exact zg (zi x EC (by rw[g (.inr j) rfl];rfl))
  |false =>
  refine aE ?_;exact zh (yb () [] EB EB rfl EB)
 refine aF [(3,17)] (zn u j) ?_;refine aE ?_;exact zh (yb () [] (λh=>h.1.elim u j) EB rfl EB);rintro _ hl;have y:=m hl;refine EK ?_;refine λa=>((w _ (e _) 0).mono ?_).v;rintro _ _ ⟨rfl,rfl⟩;refine⟨_,_,rfl,zO a ?_⟩;repeat apply za
 refine zb ?_;refine zj (zC (λs:Nat × Nat=>s.1<=n) (λ(k,v)=>[(1,I n),(2,I cap),(3,o),(4,.ptr nx v 0),(11,I (Jc price k)),(38,I n),(39,I k)]) (λ(k,v)=>[.cells v 59 (yh c)]) (λs=>n-s.1) (0,v0) [] EB (by simp[Jc]) EB ?_);rintro⟨k,v⟩ u;simp only at u ⊢;refine EK ?_;refine za (zv rfl (λhc=>?_) (λhc=>?_));simp at hc;refine zh (aA (EK ?_));refine zb ?_;refine λa=>((w _ (e _) k).mono ?_).v;rintro _ _ ⟨rfl,rfl⟩;refine⟨_,_,rfl,zO a ?_⟩;refine zb ?_;exact zr (k+1,v) [] hc EF (by simp[zu k EA,Jc]) rfl EB;simp at hc;obtain rfl:k=n:=EA;generalize Jc price k=lp at *;refine zx (EK ?_);refine zq a3 ?_;repeat apply za
 refine zb ?_;by_cases l:c.kind=2;rw[if_pos l]at y;refine zm (by simp[l]) ?_;refine zb ?_;refine zq a4 ?_;refine EK ?_;exact zg (zi x EC (by rw[y];rfl));rw[if_neg l]at y;refine zk (by simp[l]) ?_;refine zh (EK ?_);exact zg (zi x EC (by rw[y];rfl))
def Zwk(x:Inst)(a b:List Int)(k:Nat)(n:k<x.y.length)(hn:x.y.length<=1048576)(o:a.length=x.y.length+1)(hb:b.length=x.y.length+1):
  PP 178 [.agg (zB x),.agg [L a,L b],I k] (I (W (a.getD (k+1) 0+b.getD (k+1) 0))):=by
 obtain⟨t,tl,b1,b2,b3,f⟩:=zF rfl a (k+1) EA;obtain⟨u,i,c1,c2,c3,g⟩:=zF rfl b (k+1) EA;have j:a.getD (k+1) 0=t:=by rw[List.getD_eq_getElem?_getD,b1];rfl
 have e2:b.getD (k+1) 0=u:=by rw[List.getD_eq_getElem?_getD,c1];rfl
 rw[j,e2];have c:k+1<a.length:=EA;have d:k+1<b.length:=EA;have h0:¬(k:Int)<0:=EA;have h1:¬(x.y.length:Int)<=k:=EA;have h:IntKind.i64.wrap ((k:Int)+1)=((k+1:Nat):Int):=zu k EA;obtain⟨k1,e⟩:∃m,m=k+1:=⟨_,rfl⟩;rw[<-e]at f g c d h;refine zt func178 ntmps178 results178 λS nx l=>?_;refine EK ?_;intro v0 v1;repeat apply za
 refine ze [(2,9)] (zn h0 h1) ?_;refine aC (aG (some [nx,nx+1]) R8 mixed (yx h f g c d) ?_);exact EL l
def uB(x:Inst)(c:Nat):Nat->Int
 |0=>arc x 0 c
 |k+1=>if k≠c then qj (uB x c k) (arc x k c) else uB x c k
def Jd(x:Inst)(c:Nat):Nat->Int
 |0=>arc x c 0
 |k+1=>if k≠c then qj (Jd x c k) (arc x c k) else Jd x c k
def jA(x:Inst):List Int:=(List.range x.y.length).map λi=>uB x (i+1) (x.y.length+1)
def X2(x:Inst):List Int:=(List.range x.y.length).map λi=>Jd x (i+1) (x.y.length+1)
def Zwl(x:Inst)(k:Nat)(h:k<x.y.length):(jA x).take (k+1)=(jA x).take k++[uB x (k+1) (x.y.length+1)]:=by rw[AE];congr 1;unfold jA;rw[Ai,A4 h];rfl
def Zwm(x:Inst)(k:Nat)(h:k<x.y.length):(X2 x).take (k+1)=(X2 x).take k++[Jd x (k+1) (x.y.length+1)]:=by rw[AE];congr 1;unfold X2;rw[Ai,A4 h];rfl
def Zwn(x:Inst)(hn:x.y.length<=1048576):PP 180 [.agg (zB x)] (.tup [L (jA x),L (X2 x)]):=by
 have b:=un x;have w:=Zwl x;have y:=Zwm x;have f:(jA x).length=x.y.length:=by simp[jA]
 have g:(X2 x).length=x.y.length:=by simp[X2]
 generalize jA x=A at *;generalize X2 x=B at *;refine zt func180 ntmps180 results180 λS nx z=>?_;refine EK ?_;intro v0;refine EK ?_;refine qO 4 3 1 rfl λv1=>?_;refine qO 5 3 1 rfl λv2=>?_;repeat apply za
 refine zb ?_;refine zj (zC (λs:Nat × Nat × Nat × Nat=>s.1<=x.y.length) (λ(k,v,d,w2)=>[(1,.ptr nx v 0),(4,.sl (nx+1) d 1 0 k),(5,.sl (nx+2) w2 1 0 k),(13,I x.y.length),(14,I k)]) (λ(k,v,d,w2)=>[.cells v 25 (zB x),.cells d 3 ((A.take k).flatMap Enc.enc),.cells w2 3 ((B.take k).flatMap Enc.enc)]) (λs=>x.y.length-s.1) (0,v0,v1,v2) [] EB EB EB ?_);rintro⟨k,v,d,w2⟩ hk;simp only at hk ⊢;refine EK ?_;refine za (zv rfl (λhc=>?_) (λhc=>?_));simp at hc;have u:IntKind.i64.wrap ((k:Int)+1)=((k+1:Nat):Int):=zu k EA;obtain⟨a,c⟩:∃m,m=k+1:=⟨_,rfl⟩;rw[<-c]at u;have h:=w k hc;have i:=y k hc;rw[<-c]at h i;refine zh (aA (EK ?_));refine aF [] u ?_;refine aG (some [nx]) RE mixed trivial ?_;refine zJ (b 0 a) trivial ?_;refine zJ (b a 0) trivial ?_;have wn:IntKind.i64.wrap ((x.y.length:Int)+1)=(x.y.length:Int)+1:=by rw[AD];omega
 repeat apply za
 refine ze [] wn ?_;refine zj (zC (λs:Nat × Nat=>s.1<=x.y.length+1) (λ(j,v)=>[(1,.ptr nx v 0),(4,.sl (nx+1) d 1 0 k),(5,.sl (nx+2) w2 1 0 k),(7,I a),(8,I (uB x a j)),(9,I (Jd x a j)),(13,I x.y.length),(14,I k),(28,I ((x.y.length:Int)+1)),(29,I j)]) (λ(j,v)=>[.cells v 25 (zB x),.cells d 3 ((A.take k).flatMap Enc.enc),.cells w2 3 ((B.take k).flatMap Enc.enc)]) (λs=>x.y.length+1-s.1) (0,v) [] EB (by simp[uB,Jd]) EB ?_);rintro⟨j,v⟩ hj;simp only at hj ⊢;refine EK ?_;by_cases a0:j<x.y.length+1;have a1:(j:Int)<(x.y.length:Int)+1:=EA;refine za (zm EF ?_);refine zh (aA (EK ?_));refine EK ?_;by_cases e:j=a;have l:IntKind.i64.wrap ((a:Int)+1)=(a:Int)+1:=by rw[AD];omega
 refine zk (by simp[e]) ?_;refine zh (zb ?_);exact zr (j+1,v) [] EF EF (by simp[l,uB,Jd,e]) rfl EB;repeat apply za
 refine zm EF ?_;refine EK ?_;refine zq (b j a) ?_;refine zb ?_;refine zq (b a j) ?_;refine zb ?_;exact zr (j+1,v) [] EF EF (by simp[zu j EA,uB,Jd,e]) rfl EB;obtain rfl:j=x.y.length+1:=EA;refine za (aE ?_);refine zx ?_;have n:((A.take k).flatMap Enc.enc).length=k:=by rw[jY];simp;omega
 have o:((B.take k).flatMap Enc.enc).length=k:=by rw[jY];simp;omega
 have p:List.take k ((A.take k).flatMap Enc.enc)=(A.take k).flatMap Enc.enc:=Ae (by rw[n];exact Af _);have q:List.take k ((B.take k).flatMap Enc.enc)=(B.take k).flatMap Enc.enc:=Ae (by rw[o];exact Af _);have r:(A.take (k+1)).flatMap Enc.enc=(A.take k).flatMap Enc.enc++[I (uB x a (x.y.length+1))]:=by rw[<-c,h,Ar];rfl
 have t:(B.take (k+1)).flatMap Enc.enc=(B.take k).flatMap Enc.enc++[I (Jd x a (x.y.length+1))]:=by rw[<-c,i,Ar];rfl
 refine ze [] (zn p q) ?_;refine⟨by omega,by omega,?_⟩;refine zb ?_;exact zr (k+1,v,d+1,w2+1) [] hc EF (by simp[zu k EA]) rfl (by simp only[r,t,AA]);simp at hc;obtain rfl:k=x.y.length:=EA;rw[show A.take x.y.length=A from Ae EA,show B.take x.y.length=B from Ae EA];refine zx (zY 1 rfl ?_);refine zY 2 rfl ?_;refine aF [] (zn f g) ?_;exact zg (zi z EC (by simp[zp,f,g]))
open Hp
def X3(c:Int)(p:zy):zy:=p.map (we c)
def Zwo(p:zy)(c:Int)(x:p.length<=1000)(e:∀d∈p,d.length<=1048576)(m:∀d∈p,∀t∈d,t.length<=1048576):PP 289 [.agg [L p],I c] (.agg [L (X3 c p)]):=by
 unfold X3;refine zt func289 ntmps289 results289 λS nx n=>?_;refine EK ?_;intro v0 v1;refine EK ?_;intro j;refine qy 2 0 96 1 rfl rfl λv3=>?_;repeat apply za
 refine zb ?_;refine zj (zC (λs:Nat × zy × Nat=>s.1<=p.length/\s.2.1=(p.take s.1).map (we c)) (λ(k,q,w)=>[(1,I c),(4,.ptr (nx+1) v1 0),(5,.ptr (nx+2) j 0),(11,L p),(12,I p.length),(13,I k)]) (λ(k,q,w)=>[.cells v0 31 [L p],.cells v1 31 [yB],.cells j 31 [.sl (nx+3) w 1 0 q.length],.cells w 96 (q.flatMap Enc.enc)]) (λs=>p.length-s.1) (0,[],v3) [] EB EB EB ?_);rintro⟨k,q,w⟩ ⟨o,a⟩;simp only at o a ⊢;have r:q.length=k:=by rw[a];simp;omega
 refine EK ?_;refine za (zv rfl (λhc=>?_) (λhc=>?_));simp at hc;obtain⟨d,tl,u,y,a3,v⟩:=zF rfl p k hc;have b:=Aa u;have l:=Pq d c (e d b) (m d b);generalize f:we c d=rd at l;have g:1<=p.length-k:=EA;have h:(q.flatMap Enc.enc:List PV).length=q.length:=jJ q;have i:(q.flatMap Enc.enc:List PV).take q.length=q.flatMap Enc.enc:=Ae EA;refine zh (aA (aF [] (zD hc v g) ?_));intro v4;refine EK ?_;refine zq l ?_;intro v5;refine ze [] (zn h i) ?_;refine⟨by omega,?_⟩;refine zb ?_;exact zr (k+1,q++[rd],w+1) [_,_] ⟨hc,by rw[a3,List.map_append,a,<-f];rfl⟩ EF (by simp[zu k EA]) rfl (by simp;exact⟨rfl,rfl⟩);simp at hc;obtain rfl:k=p.length:=EA;rw[Ah]at a;refine zx (zY 3 rfl ?_);refine EK ?_;exact zg (zi n EC (by simp[zp,a]))
def u7(x:Inst)(c:Nat):Stop:=⟨c,if (x.y.getD c default).kind=1 then (x.y.getD c default).R else 1⟩
def uC(x:Inst)(s:Stop)(d:zo):Int:=if (qf x d s).2=true then max 0 (W (W (yf x (qf x d s).1)-W (yf x d))) else 4294967296
def tO(x:Inst)(c:Int):PP 288 [.agg (zB x),I c] (B (decide (0<=c)&&decide (c<x.y.length))):=by refine zt func288 ntmps288 results288 λS nx a=>?_;refine EK ?_;intro v0;by_cases h:0<=c;by_cases h2:c<x.y.length;refine aF [(2,7)] (zn h h2) ?_;exact zg (zi a rfl (by simp[zp,h,h2]));refine aF [(2,7)] (zn h h2) ?_;exact zg (zi a rfl (by simp[zp,h,h2]));refine aF [(2,7)] (zn h zE) ?_;exact zg (zi a rfl (by simp[zp,h]))
def ku{x:Inst}{p:zy}(h:wu x p=0):jq x=true/\(p.length:Int)=x.days/\(∀d∈p,yu x d=0)/\∀i,i<x.y.length->YL x p i=0:=by unfold wu at h;split at h;cases h;split at h;cases h;rename_i h1 h2;split at h;rename_i h3;exact absurd h h3;rename_i h3;refine⟨by simpa using h1,Classical.not_not.1 h2,λd a=>(iF _).1 (Classical.not_not.1 h3) _ (Aj.2 ⟨d,a,rfl⟩),λi hi=>(iF _).1 h _ (Aj.2 ⟨i,AN.2 hi,rfl⟩)⟩
variable {d:zo}
def QE{x:Inst}(hx:x.y.length<=900)(h:yu x d=0):d.flatten.length<=x.y.length/\d.length<=x.y.length/\RgOk x d [⟨0,0⟩]:=by obtain⟨h1,h2,h3⟩:=(wG x d).1 h;have b:=JY h;have hl:=sM (m:=x.y.length) _ h2 (λc hc=>by obtain⟨s,hs,rfl⟩:=Aj.1 hc;have:=b s hs;simp[qn]at this;omega);rw[List.length_map]at hl;have hn:=pz h;have e:=sJ d hn;refine⟨hl,by omega,⟨by omega,λt a=>?_,λt a s hs=>?_⟩,h,by rw[AS];omega⟩;have:=dM d t a;omega;have:=b s (UM a hs);simp[qn]at this;unfold qA;omega
def tP{x:Inst}(hx:x.y.length<=900)(b:qG x)(hv:0<=x.X)(h:yu x d=0):SOk x d.flatten/\SG x d.flatten d:=by obtain⟨h1,h2,h3⟩:=(wG x d).1 h;obtain⟨g1,e,g3⟩:=QE hx h;refine⟨⟨by omega,b,hv,by omega,λs hs=>?_,h2⟩,⟨h1,.refl _⟩⟩;obtain⟨t,c,a⟩:=Bd.1 hs;exact g3.ok.s t c s a
theorem Zwp(c:Int)(d:zo):(we c d).flatten=d.flatten.filter λs=>decide (s.c≠c):=by
 unfold we;have:∀l:zo,(l.filter λt=>!t.isEmpty).flatten=l.flatten:=by
  intro l;induction l with
  |nil=>rfl
  |cons t l a=>cases t<;>simp[Cm,a]
 rw[this];induction d with
 |nil=>rfl
 |cons t d a=>simp only[Ap,Bh,BM,a];rfl
variable {size rate:Int}
theorem tQ(b:0<=rate):∀(q:List Int) (there:Int) (l:List Int),yk size rate there q=some l->l.length=q.length/\∀z∈l,0<=z/\z<=size
 |[],_,l,h=>by simp[yk]at h;subst h;simp
 |q::qs,there,l,h=>by unfold yk at h;split at h;cases h;rename_i hc;obtain⟨m,hm,rfl⟩:=An.1 h;obtain⟨h1,h2⟩:=tQ b qs _ m hm;refine⟨by simp[h1],λz a=>?_⟩;obtain rfl|a:=Al.1 a;omega;exact h2 z a
theorem tR{M:Int}:∀l:List Int,(∀z∈l,0<=z/\z<=M)->0<=l.sum/\l.sum<=M*l.length
 |[],_=>by simp
 |a::l,h=>by
  have h1:=h a EB;have h2:=tR l λz b=>h z (by simp[b]);simp only[AL,Ab];have e:M*((l.length:Int)+1)=M*l.length+M:=by rw[B6];omega
  push_cast;omega
structure CustSm (c:Cust):Prop where
 D:0<=c.D
 size:0<=c.size/\c.size<=2147483648
 U:0<=c.U/\c.U<=1024
def tS{c:Cust}(h:CustSm c)(q:List Int)(f:q.length<=64):0<=xQ c (yS c q).1/\xQ c (yS c q).1<=140737488355328:=by
 have key:∀l:List Int,l.length<=64->(∀z∈l,0<=z/\z<=c.size)->0<=xQ c l/\xQ c l<=140737488355328:=by
  intro l hl b;have h1:=tR (M:=2147483648) l λz a=>by have:=b z a;have:=h.size;omega
  have h2:(2147483648:Int)*l.length<=137438953472:=EA;have d:W l.sum=l.sum:=wr _ EA EA;unfold xQ;rw[d];have h3:=h.U;have g:0<=c.U*l.sum:=Bc h3.1 h1.1;have i:c.U*l.sum<=1024*137438953472:=Bm h3.2 EA h1.1 EA;have w2:W (c.U*l.sum)=c.U*l.sum:=wr _ EA EA;rw[w2];omega
 unfold yS;split;exact key [] EB EB;cases e:yk c.size c.D c.H q with
 |none=>exact key [] EB EB
 |some l =>
 obtain⟨h1,h2⟩:=tQ h.D q _ l e;exact key l EA h2
theorem aU{x:Inst}(h:∀c∈x.y,CustSm c)(p:zy):∀k:Nat,0<=yG x p k/\yG x p k<=140737488355328*(k:Int)
 |0=>by simp[yG]
 |k+1=>by
  have h1:=aU h p k;rw[iO];have h2:0<=vS x p k/\vS x p k<=140737488355328:=by unfold vS;split;omega;rename_i c hc;split;exact tS (h c (Aa hc)) _ (by rw[aw];omega);omega
  push_cast;omega
theorem dZ{x:Inst}(a:qG x):∀p:zy,(∀d∈p,d.flatten.length<=1000/\d.length<=1000)->0<=(p.map (yf x)).sum/\(p.map (yf x)).sum<=4294967296000*(p.length:Int)
 |[],_=>by simp
 |d::p,h=>by have h1:=h d EB;have h2:=dZ a p λe b=>h e (by simp[b]);have h3:=da a d;simp only[Ap,AL,Ab];push_cast;omega
def kv{x:Inst}(a:qG x)(hc:∀c∈x.y,CustSm c)(hx:x.y.length<=900){p:zy}(hl:p.length<=1000)(h:∀d∈p,yu x d=0):yN x p=yG x p x.y.length+(p.map (yf x)).sum:=by
 have h1:=aU hc p x.y.length;have h2:=dZ a p λd b=>by have:=QE hx (h d b);omega
 exact wr _ EA EA
variable {α:Type}
def J4[Enc α](id v:Nat)(cs:List PV)(l:List (List α)):(l.flatMap Enc.enc).map (qz id v cs)=(l.flatMap Enc.enc:List PV):=by refine(AQ λp b=>?_).trans (DA _);obtain⟨t,_,a⟩:=By.1 b;rw[KG,A5]at a;subst a;rfl
def kw(p:zy)(hp:p.length<=1000)(h:∀d∈p,d.length<=1000)(ht:∀d∈p,∀t∈d,t.length<=1000)(z:yd nx S):
  SP 189 [.agg [L p]] S (λq S'=>∃v,q=.agg [.sl (nx+3) v 1 0 p.length]/\S'=S.set (nx+3) (.cells v 96 (p.flatMap Enc.enc))):=by
 refine Z7 z func189 ntmps189 results189 ?_;refine EK ?_;intro v0 v1;refine EK ?_;intro g;refine qy 2 0 96 1 rfl rfl λv3=>?_;repeat apply za
 refine zb ?_;refine zj (zC (λs:Nat × Nat=>s.1<=p.length) (λ(k,w)=>[(2,.ptr (nx+1) v1 0),(3,.ptr (nx+2) g 0),(10,L p),(11,I p.length),(12,I k)]) (λ(k,w)=>[.cells v0 31 [L p],.cells v1 31 [yB],.cells g 31 [.sl (nx+3) w 1 0 k],.cells w 96 ((p.take k).flatMap Enc.enc)]) (λs=>p.length-s.1) (0,v3) [] EB EB EB ?_);rintro⟨k,w⟩ hk;simp only at hk ⊢;refine EK ?_;refine za (zv rfl (λhc=>?_) (λhc=>?_))
 .simp at hc;obtain⟨d,tl,a1,a2,a3,e0⟩:=zF rfl p k hc;have c:=Aa a1;have a0:=h d c;have i:1<=p.length-k:=EA;have l:(p.take k).length=k:=by rw[Az];omega
  generalize a4:p.take k=pk at *;have m:(pk.flatMap Enc.enc:List PV).length=k:=(jJ pk).trans l;have n:(pk.flatMap Enc.enc:List PV).take k=pk.flatMap Enc.enc:=Ae EA;have e:∀id v cs,(pk.flatMap Enc.enc).map (qz id v cs)=(pk.flatMap Enc.enc:List PV):=λid v cs=>J4 id v cs pk;refine zh (aA (aF [] (zD hc e0 i) ?_));intro v4;refine EK ?_;intro v5;refine qy 5 0 99 1 rfl rfl λv6=>?_;repeat apply za
  refine zb ?_;refine zj (zC (λs:Nat × Nat=>s.1<=d.length) (λ(j,f)=>[(2,.ptr (nx+1) v1 0),(3,.ptr (nx+2) g 0),(6,.ptr (nx+5) v5 0),(10,L p),(11,I p.length),(12,I k),(17,L d),(18,I d.length),(19,I j)])
   (λ(j,f)=>[.cells v0 31 [L p],.cells v1 31 [yB],.cells g 31 [.sl (nx+3) w 1 0 k],.cells w 96 (pk.flatMap Enc.enc),.cells v4 96 [L d],.cells v5 96 [.sl (nx+6) f 1 0 j],.cells f 99 ((d.take j).flatMap Enc.enc)]) (λs=>d.length-s.1) (0,v6) [] EB EB EB ?_)
  rintro⟨j,f⟩ hj;simp only at hj ⊢;refine EK ?_;refine za (zv rfl (λa=>?_) (λa=>?_))
  .simp at a;obtain⟨t,a5,b1,b2,b3,f0⟩:=zF rfl d j a;have a6:=ht d c t (Aa b1);have o:1<=d.length-j:=EA;have r:(d.take j).length=j:=by rw[Az];omega
   generalize a7:d.take j=dj at *;have u:(dj.flatMap Enc.enc:List PV).length=j:=(jJ dj).trans r;have x:(dj.flatMap Enc.enc:List PV).take j=dj.flatMap Enc.enc:=Ae EA;have b:∀id v cs,(dj.flatMap Enc.enc).map (qz id v cs)=(dj.flatMap Enc.enc:List PV):=λid v cs=>J4 id v cs dj;have y:(t.flatMap Enc.enc:List PV).length=t.length*2:=Qa t;refine zh (aA (aF [] (zD a f0 o) ?_));intro v7;refine zA (some [nx+7]) R5 mixed (zn u x) ?_;refine⟨⟨by omega,λv8=>⟨⟨by omega,by omega⟩,?_⟩⟩,⟨by omega,λv8=>⟨⟨by omega,by omega⟩,?_⟩⟩⟩;all_goals
    refine zY 8 rfl ?_;simp only[Ap,A8,AO,AW,xy,e,b,List.map_append];refine zb ?_;exact zr (j+1,f+1) [_,_] EF EF (by simp[zu j EA]) rfl (by simp[b3,qz,y];exact⟨rfl,rfl⟩)
  simp at a;obtain rfl:j=d.length:=EA;rw[Ah];have b:∀id v cs,(d.flatMap Enc.enc).map (qz id v cs)=(d.flatMap Enc.enc:List PV):=λid v cs=>J4 id v cs d;refine zx (zY 6 rfl ?_);simp only[Ap,A8,AO,AW,xy,e,b];refine ze [] (zn m n) ?_;refine⟨by omega,?_⟩;refine zb ?_;exact zr (k+1,w+1) [_,_,_] EF EF (by simp[zu k EA]) rfl (by simp[a3];exact⟨rfl,rfl,rfl⟩)
 simp at hc;obtain rfl:k=p.length:=EA;rw[Ah];refine zx (EK ?_);exact zg ⟨_,_,EC,⟨w,by simp[zp],rfl⟩,Xv (j:=3) z EB⟩
def Zwq(p:zy)(b:p.length<=1000)(a:∀d∈p,d.length<=1000)(c:∀d∈p,∀t∈d,t.length<=1000):PP 189 [.agg [L p]] (.agg [L p]) :=
 mY (sz:=1) 3 (λS nx e=>kw p b a c e) (by rw[jJ,BU])
def u9(x:Inst)(p:zy)(day b:Int):zy × Bool :=
 if day<0\/(p.length:Int)<=day then (p,false)
 else if W (yf x (p.getD day.toNat []))<=W (yf x (uy x b (p.getD day.toNat []))) then (p,false)
 else (p.set day.toNat (uy x b (p.getD day.toNat [])),true)
structure PlanM (x:Inst) (p:zy):Prop where
 y:x.y.length<=900
 inst:InstH x
 len:p.length<=1000
 ab:∀d∈p,yu x d=0
theorem PlanM.sizes{x:Inst}{p:zy}(h:PlanM x p):∀d∈p,d.length<=1000/\(∀t∈d,t.length<=1000)/\DayOk d/\d.flatten.length<=1000:=by intro d a;obtain⟨h1,h2,h3⟩:=QE h.y (h.ab d a);have:=h.y;exact⟨by omega,λt b=>by have:=dM d t b;omega,h3.ok,by omega⟩
def tT{x:Inst}(hx:x.y.length<=900)(hi:InstH x)(h:yu x d=0)(b:Int):yu x (uy x b d)=0/\(uy x b d).flatten.Perm d.flatten/\yf x (uy x b d)<=yf x d:=by obtain⟨hs,a⟩:=tP hx hi.aj hi.X h;obtain⟨h1,h2,h3⟩:=dA hs hi.diag b.toNat d a;obtain⟨e,c,f⟩:=(wG x d).1 h;change SG x d.flatten (uy x b d) at h1;change yf x (uy x b d)<=yf x d at h2;change (uy x b d).length<=d.length at h3;exact⟨(wG x _).2 ⟨h1.ab,(h1.perm.map _).nodup_iff.2 c,by omega⟩,h1.perm,h2⟩
def Zwr{x:Inst}(hx:x.y.length<=900)(hi:InstH x)(h:yu x d=0){b:Int}(hb:b<=9223372036854775807):∃k:Int,PP 264 [.agg (zB x),.agg [L d],I b] (.tup [.agg [L (uy x b d)],I k]):=by obtain⟨hs,a⟩:=tP hx hi.aj hi.X h;have o:=a.ok hs;exact⟨_,pO x d b (Zs x) (SG x d.flatten) hb o.n o.t (λ_=>a) (rG hs hi.diag)⟩
def Zws{x:Inst}{p:zy}(h:PlanM x p)(a b:Int)(hb:b<=9223372036854775807):
  PP 233 [.agg (zB x),.agg [L p],I a,I b] (.tup [.agg [L (u9 x p a b).1],B (u9 x p a b).2]):=by
 have l:=h.sizes;have a0:=h.len;refine zt func233 ntmps233 results233 λS nx i=>?_;refine EK ?_;intro v0 v1 v2;refine EK ?_;refine λo=>((kw p h.len (λd i=>(l d i).1) (λd i=>(l d i).2.1) xM).mono ?_).v;rintro _ _ ⟨v3,rfl,rfl⟩;refine⟨_,_,VT 3 _,xA [] Nat.add_assoc o ?_⟩;intro v4;by_cases h0:a<0;have q:u9 x p a b=(p,false):=by unfold u9;rw[if_pos (.inl h0)]
 rw[q];repeat apply za
 refine ze [(2,17)] (zn h0 zE) ?_;refine zm rfl (zY 6 rfl ?_);refine EK ?_;exact EL i;by_cases h1:(p.length:Int)<=a;have q:u9 x p a b=(p,false):=by unfold u9;rw[if_pos (.inr h1)]
 rw[q];repeat apply za
 refine ze [(2,17)] (zn h0 h1) ?_;refine zm rfl (zY 6 rfl ?_);refine EK ?_;exact EL i;obtain⟨k,rfl⟩:=Au (show 0<=a by omega);have g:k<p.length:=EA;obtain⟨d,tl,a1,a2,a3,j⟩:=zF rfl p k g;have n:=Aa a1;have u:p.getD (k:Int).toNat []=d:=by rw[AJ,List.getD_eq_getElem?_getD,a1];rfl
 have q:u9 x p k b=if W (yf x d)<=W (yf x (uy x b d)) then (p,false) else (p.set k (uy x b d),true):=by unfold u9;rw[if_neg EA,u,AJ]
 obtain⟨m,hI⟩:=Zwr h.y h.inst (h.ab d n) hb;have w:=tT h.y h.inst (h.ab d n) b;have r:=WM x d (l d n).2.2.1;have s:=WM x (uy x b d) (QE h.y w.1).2.2.ok;rw[q];generalize uy x b d=e at *;generalize W (yf x d)=z1 at *;generalize W (yf x e)=z2 at *;have c:1<=p.length-k:=EA;have y:(p.flatMap Enc.enc:List PV).length=p.length:=jJ p;have z:=iK (α:=zo) rfl p k e g;have t:yl (p.flatMap Enc.enc) k [L e]=(p.set k e).flatMap Enc.enc:=by simpa using z
 repeat apply za
 refine ze [(2,17)] (zn h0 h1) ?_;refine zk rfl (zh (aG (some [nx,nx+6,nx+7]) (Row.pures [0,1,2,3,4,5,6,7,8,9,10] (.alt 11 (.alt 12 (Row.pures [13] .done) .stop) .stop)) mixed (zD j g c) ?_));refine zJ (hI) (zD j g c) ?_;intro v5;by_cases f:z1<=z2;rw[if_pos f];repeat apply za
 refine zA (some [nx,nx+6,nx+7,nx+8]) Rh mixed (zR j g c f) ?_;refine zJ (s) (zR j g c f) ?_;refine zJ (r) (zR j g c f) ?_;refine zm rfl (zY 6 rfl ?_);refine EK ?_;exact EL i;rw[if_neg f];repeat apply za
 refine zA (some [nx,nx+6,nx+7,nx+8]) Rh mixed (zR j g c f) ?_;refine zJ (s) (zR j g c f) ?_;refine zJ (r) (zR j g c f) ?_;refine zk rfl (zh (aF [] (zD g t y) ?_));refine⟨by omega,?_⟩;refine zY 6 rfl ?_;refine EK ?_;exact zg (zi i EC (by simp[zp]))
structure PlanS (n K:Nat) (p:zy):Prop where
 len:p.length=n
 ok:∀d∈p,DayOk d/\d.flatten.length<=K/\d.length<=K
def kx{x:Inst}{s:Stop}{K:Nat}(hx:x.y.length<=1048576)(h1:DayOk d)(h2:d.flatten.length<=K)(h3:d.length<=K)(a:K<=100000):DayOk (qf x d s).1/\(qf x d s).1.flatten.length<=K+1/\(qf x d s).1.length<=K+1:=by
 refine⟨pK hx h1 EA EA,?_,?_⟩
 .cases hi:(qf x d s).2 with
  |true=>rw[(gK hi).length_eq,Ab];omega
  |false=>rw[oW hi];omega
 grind[qf,xB]
def Zwt(x:Inst)(p:zy)(c:Nat){K:Nat}(a2:n<=1000)(hK:K<=100000)(hx:x.y.length<=1000)(hc:c<x.y.length)(hp:PlanS n K p):PP 314 [.agg (zB x),.agg [L p],I c] (L (p.map (uC x (u7 x c)))):=by
 have i:=tO x c;rw[show (decide (0<=(c:Int))&&decide ((c:Int)<x.y.length))=true from by simp;omega]at i;obtain⟨u,a3,a1,-,-,e1,o⟩:=el 8 rfl x.y c hc;have v:=e1 1 EA;have j:u7 x c=⟨c,if u.kind=1 then u.R else 1⟩:=by unfold u7;rw[List.getD_eq_getElem?_getD,a1];rfl
 have y:p.length<=1000:=by have:=hp.len;omega
 refine zt func314 ntmps314 results314 λS nx hd=>?_;refine EK ?_;intro v0 v1;refine EK ?_;intro t;refine za (qT (nx:=nx) (σ:=Unit) (λ_=>True) (λ_=>[(3,.ptr nx v0 0),(4,.ptr (nx+1) v1 0),(7,.ptr (nx+2) t 0)]) (λ_=>S) (λ_=>[.cells v0 25 (zB x),.cells v1 31 [L p],.cells t 101 [I c,I (u7 x c).q]]) ?_ ?_);by_cases g:u.kind=1;rw[if_pos g]at j;refine aF [(3,19)] (zD o hc g) ?_;refine yP [(3,19)] i (zD o hc g) ?_;refine zm (by simp[g]) ?_;refine ze [] (zn v hc) ?_;exact yb () [] trivial EB rfl (by simp[j]);rw[if_neg g]at j;refine aF [(3,19)] (zD o hc g) ?_;refine yP [(3,19)] i (zD o hc g) ?_;refine zk (by simp[g]) ?_;exact zh (yb () [] trivial EB rfl (by simp[j]));intro _ _;have l:(u7 x c).c=c:=rfl;generalize a4:u7 x c=s at l;clear j;refine EK ?_;refine za (qO 8 3 1 rfl λv3=>?_);refine EK ?_;refine zj (zC (λst:Nat × List Int × Nat=>st.1<=p.length/\st.2.1=(p.take st.1).map (uC x s)) (λ(k,out,w)=>[(3,.ptr nx v0 0),(7,.ptr (nx+2) t 0),(8,.sl (nx+3) w 1 0 out.length),(36,L p),(37,I p.length),(38,I k)]) (λ(k,out,w)=>[.cells v0 25 (zB x),.cells v1 31 [L p],.cells t 101 [I c,I s.q],.cells w 3 (out.flatMap Enc.enc)]) (λst=>p.length-st.1) (0,[],v3) [] EB EB EB ?_);rintro⟨k,out,w⟩ ⟨g,ho⟩;simp only at g ho ⊢;have a5:out.length=k:=by rw[ho];simp;omega
 refine EK ?_;refine za (zv rfl (λa=>?_) (λa=>?_))
 .simp at a;obtain⟨d,tl,b1,b2,b3,f0⟩:=zF rfl p k a;obtain⟨g1,g3,g4⟩:=hp.ok d (Aa b1);have g5:=(kx (x:=x) (s:=s) EA g1 g3 g4 hK).1;have f:=gR x d s EA g1 EA;have z:=WM x d g1;have m:=WM x _ g5;have b:uC x s d=if (qf x d s).2=true then max 0 (W (W (yf x (qf x d s).1)-W (yf x d))) else 4294967296:=rfl;rw[l]at f;generalize qf x d s=r at *;obtain⟨e,ok⟩:=r;simp only at f m b;generalize W (yf x d)=z1 at *;generalize W (yf x e)=z2 at *;have a0:1<=p.length-k:=EA;refine zh (aA (aF [] (zD f0 a a0) ?_));intro v4;refine EK ?_;repeat apply za
  refine zb ?_;refine zq f ?_;intro v5;refine EK ?_;cases ok with
  |true =>
  rw[if_pos rfl]at b;have h:qk (0:Int) (W (z2-z1))=uC x s d:=by rw[b];unfold qk;split<;>omega
  refine zm rfl (zA (some [nx,nx+4,nx+5]) Rg mixed trivial ?_);refine zJ (m) h ?_;refine zJ (z) h ?_;refine zb ?_;refine⟨by omega,?_⟩;refine zb ?_;exact zr (k+1,out++[uC x s d],w+1) [_,_] ⟨a,by rw[b3,List.map_append,ho];rfl⟩ EF (by simp[zu k EA]) rfl (by simp[b];exact⟨rfl,rfl⟩)
  |false =>
  rw[if_neg EH]at b;refine zk rfl (zh (zb ?_));refine⟨by omega,?_⟩;refine zb ?_;exact zr (k+1,out++[uC x s d],w+1) [_,_] ⟨a,by rw[b3,List.map_append,ho];rfl⟩ EF (by simp[zu k EA]) rfl (by simp[b];exact⟨rfl,rfl⟩)
 simp at a;obtain rfl:k=p.length:=EA;rw[Ah]at ho;refine zx (zY 3 rfl ?_);refine EK ?_;exact zg (zi hd EC (by simp[zp,ho]))
def QF(x:Inst)(p:zy):Bool:=p.all λd=>decide (yu x d=0)
def Zwu(x:Inst)(p:zy){K:Nat}(l:n<=1000)(o:K<=100000)(hx:x.y.length<=1000)(h:PlanS n K p):PP 291 [.agg (zB x),.agg [L p]] (B (QF x p)):=by
 have b:p.length<=1000:=by have:=h.len;omega
 refine zt func291 ntmps291 results291 λS nx a=>?_;refine EK ?_;intro v0 v1;repeat apply za
 refine zb ?_;refine zj (zC (λk:Nat=>k<=p.length/\∀d∈p.take k,yu x d=0) (λk=>[(2,.ptr nx v0 0),(8,L p),(9,I p.length),(10,I k)]) (λ_=>[.cells v0 25 (zB x),.cells v1 31 [L p]]) (λk=>p.length-k) 0 [] EB EB EB ?_);rintro k ⟨r,c⟩;refine EK ?_;refine za (zv rfl (λhc=>?_) (λhc=>?_));simp at hc;obtain⟨d,tl,i,s,a3,m⟩:=zF rfl p k hc;obtain⟨g1,u,g3⟩:=h.ok d (Aa i);have f:=gg x d EA g1.n g1.t EA;have g:1<=p.length-k:=EA;refine zh (aA (aF [] (zD m hc g) ?_));intro v;by_cases h0:yu x d=0;rw[h0]at f;refine EK ?_;refine zq f ?_;refine aC (zb ?_);exact zr (k+1) [_] ⟨hc,λe j=>by rw[a3]at j;obtain q|q:=AB.1 j;exact c e q;rw[A5.1 q];exact h0⟩ EA (by simp[zu k EA]) rfl EC;have ho:QF x p=false:=by unfold QF;rw[Cb];exact⟨d,Aa i,by simpa using h0⟩
 rw[ho];generalize yu x d=z at *;refine EK ?_;refine zq f ?_;refine zm (by simp[h0]) ?_;refine EK ?_;exact zg (zi a rfl rfl);simp at hc;obtain rfl:k=p.length:=EA;rw[Ah]at c;have ho:QF x p=true:=by unfold QF;rw[Ay];intro d a;simpa using c d a
 rw[ho];refine zx (EK ?_);exact zg (zi a rfl rfl)
def YV(x:Inst)(c:Nat)(st:zy × Bool)(w:Visit):zy × Bool :=
 if st.2=true then (if (qf x (st.1.getD w.d.toNat []) ⟨c,w.q⟩).2=true then (st.1.set w.d.toNat (qf x (st.1.getD w.d.toNat []) ⟨c,w.q⟩).1,true) else ([],false)) else st
def uD(x:Inst)(n:Nat)(p:zy)(c:Nat):zy × Bool :=
 if (qJ n x.Q (x.y.getD c default) (p.map (uC x (u7 x c)))).2=true then (qJ n x.Q (x.y.getD c default) (p.map (uC x (u7 x c)))).1.foldl (YV x c) (p,true) else ([],false)
theorem ky(x:Inst)(c:Nat):∀v:List Visit,v.foldl (YV x c) ([],false)=([],false)
 |[]=>rfl
 |w::v=>by rw[A6];exact ky x c v
def Zwv(x:Inst)(s:Stop)(p:zy):∀z∈p.map (uC x s),zL z:=by intro z a;obtain⟨d,-,rfl⟩:=Aj.1 a;unfold uC;split;have:=iM (W (yf x (qf x d s).1)-W (yf x d));unfold zL at *;omega;unfold zL;omega
theorem PlanS.sizes{K:Nat}{p:zy}(h:PlanS n K p)(b:n<=1000)(e:K<=1000):p.length<=1000/\(∀d∈p,d.length<=1000)/\∀d∈p,∀t∈d,t.length<=1000:=by refine⟨by have:=h.len;omega,λd a=>by have:=(h.ok d a).2.2;omega,λd a t c=>?_⟩;have:=dM d t c;have:=(h.ok d a).2.1;omega
theorem PlanS.set{K:Nat}{p:zy}(h:PlanS n K p){e:zo}(a:DayOk e/\e.flatten.length<=K+1/\e.length<=K+1):PlanS n (K+1) (p.set k e):=by refine⟨by rw[BP];exact h.len,λd b=>?_⟩;obtain q|q:=BH b;obtain⟨g1,c,g3⟩:=h.ok d q;exact⟨g1,by omega,by omega⟩;rw[q];exact a
def tU{x:Inst}(h:InstA x n){p:zy}{K:Nat}(m:K<=10000)(k:PlanS n K p){c:Nat}(hc:c<x.y.length)(h0:(uD x n p c).2=true):PlanS n (K+64) (uD x n p c).1:=by
 have hx:=h.h.y;unfold uD at h0 ⊢;split at h0;rename_i h1;rw[if_pos h1];have g:x.y.getD c default∈x.y:=by rw[List.getD_eq_getElem?_getD,Ac hc];exact AZ hc
 have j:=dT (h.aa _ g) h.ac x.Q _ h1;have hl:=j.len;generalize (qJ n x.Q (x.y.getD c default) (p.map (uC x (u7 x c)))).1=v at *;clear j h1;have key:∀(v:List Visit) (q:zy) (K:Nat),K+v.length<=10100->PlanS n K q->(v.foldl (YV x c) (q,true)).2=true->PlanS n (K+v.length) (v.foldl (YV x c) (q,true)).1:=by
  intro v;induction v with
  |nil=>intro q K _ f _;exact f
  |cons w v l =>
  intro q K i f a;rw[Ab]at i ⊢;rw[A6]at a ⊢;have hs:YV x c (q,true) w=if (qf x (q.getD w.d.toNat []) ⟨c,w.q⟩).2=true then (q.set w.d.toNat (qf x (q.getD w.d.toNat []) ⟨c,w.q⟩).1,true) else ([],false):=rfl;rw[hs]at a ⊢;split at a;rename_i hi;rw[if_pos hi];rw[show K+(v.length+1)=(K+1)+v.length by omega];refine l _ _ EA (f.set ?_) a;have b:DayOk (q.getD w.d.toNat [])/\(q.getD w.d.toNat []).flatten.length<=K/\(q.getD w.d.toNat []).length<=K:=by
   rw[List.getD_eq_getElem?_getD];cases e:q[w.d.toNat]? with
   |none=>exact⟨⟨by simp,by simp,by simp⟩,by simp,by simp⟩
   |some d=>exact f.ok d (Aa e)
  exact kx EA b.1 b.2.1 b.2.2 EA;rw[ky]at a;cases a
 have:=key v p K EA k h0;exact⟨this.len,λd b=>by obtain⟨g1,o,g3⟩:=this.ok d b;exact⟨g1,by omega,by omega⟩⟩;cases h0
def Zww{x:Inst}(h:InstA x n){p:zy}{K:Nat}(hK:K<=900)(hp:PlanS n K p)(c:Nat)(hc:c<x.y.length):PP 290 [.agg (zB x),.agg [L p],I c] (.tup [.agg [L (uD x n p c).1],B (uD x n p c).2]):=by
 have hx:=h.h.y;have l:=h.ac;have a8:=h.days;have d6:=hp.len;obtain⟨a9,b7,b8⟩:=hp.sizes EA EA;obtain⟨b,d7,a1,-,-,e1,e0⟩:=el 8 rfl x.y c hc;have t:=Aa a1;have c6:x.y.getD c default=b:=by rw[List.getD_eq_getElem?_getD,a1];rfl
 have c7:=Zwt x p c (n:=n) (K:=K) EA EA hx hc hp;have hI:=Zwv x (u7 x c) p;have a0:(p.map (uC x (u7 x c))).length<=1000:=by rw[List.length_map];omega
 have m:uD x n p c=if (qJ n x.Q b (p.map (uC x (u7 x c)))).2=true then (qJ n x.Q b (p.map (uC x (u7 x c)))).1.foldl (YV x c) (p,true) else ([],false):=by unfold uD;rw[c6]
 have f:=dT (h.aa b t) l x.Q (p.map (uC x (u7 x c)));rw[m];generalize p.map (uC x (u7 x c))=pr at *;have a2:PP 224 [.agg (yh b),I x.days,I x.Q,L pr] (.tup [L (qJ n x.Q b pr).1,B (qJ n x.Q b pr).2]):=by rw[a8];exact λS=>ki b n x.Q (.inl rfl) hI a0 (h.aa b t) (h.J b t) l
 clear m;generalize qJ n x.Q b pr=r at *;obtain⟨v,ok⟩:=r;simp only at a2 f ⊢;refine zt func290 ntmps290 results290 λS nx hd=>?_;refine EK ?_;intro v0 v1 v2;refine aG (some [nx,nx+1]) Rs mixed (zn e0 hc) ?_;refine zJ (c7) (zn e0 hc) ?_;refine zJ (a2) (zn e0 hc) ?_;cases ok with
 |false =>
 rw[if_neg EH];repeat apply za
 refine zb ?_;refine zm rfl (EK ?_);refine yn 2 0 rfl rfl ?_;exact EL hd
 |true =>
 have hg:=f rfl;have d8:=hg.len;rw[if_pos rfl];repeat apply za
 refine zb ?_;refine zk rfl (zh (EK ?_));refine λa3=>((kw p a9 b7 b8 xM).mono ?_).v;rintro _ _ ⟨v3,rfl,rfl⟩;refine⟨_,_,VT 3 _,xA [] Nat.add_assoc a3 ?_⟩;intro v4;repeat apply za
 refine zb ?_;refine zj (zC (λs:Nat × zy × Nat=>s.1<=v.length/\(v.take s.1).foldl (YV x c) (p,true)=(s.2.1,true)/\PlanS n (K+s.1) s.2.1) (λ(k,q,w)=>[(2,I c),(3,.ptr nx v0 0),(6,.ptr (nx+2) v2 0),(10,.ptr (nx+7) v4 0),(38,L v),(39,I v.length),(40,I k)]) (λ(k,q,w)=>[.cells v0 25 (zB x),.cells v1 31 [L p],.cells v2 31 [yB],.dead,.dead,.dead,.cells w 96 (q.flatMap Enc.enc),.cells v4 31 [.sl (nx+6) w 1 0 q.length]]) (λs=>v.length-s.1) (0,p,v3) [] ⟨by simp,by simp,hp⟩ EB EB ?_);rintro⟨k,q,w⟩ ⟨hk,hq,j⟩;simp only at hk hq j ⊢;have d9:=j.len;refine EK ?_;refine za (zv rfl (λa=>?_) (λa=>?_))
 .simp at a;obtain⟨u,tl,b1,b2,b3,f1,f0⟩:=el 2 rfl v k a;have hu:=hg.ok u (Aa b1);obtain⟨z,y⟩:∃z:Nat,u.d=z:=⟨u.d.toNat,by omega⟩;have g:z<q.length:=EA;obtain⟨d,e2,d1,d2,d3,d0⟩:=zF rfl q z g;obtain⟨g1,g2,g3⟩:=j.ok d (Aa d1);have o:=gR x d ⟨c,u.q⟩ EA g1 EA;have a4:=kx (x:=x) (s:=⟨c,u.q⟩) EA g1 g2 g3 EA;have i:(v.take (k+1)).foldl (YV x c) (p,true)=if (qf x d ⟨c,u.q⟩).2=true then (q.set z (qf x d ⟨c,u.q⟩).1,true) else ([],false):=by
   rw[b3,BJ,hq];have e9:q.getD u.d.toNat []=d:=by rw[y,AJ,List.getD_eq_getElem?_getD,d1];rfl
   show YV x c (q,true) u=_;unfold YV;rw[if_pos rfl,e9,y,AJ]
  generalize qf x d ⟨c,u.q⟩=e at *;obtain⟨d',c8⟩:=e;simp only at o i a4;have a5:1<=q.length-z:=EA;have d4:(q.flatMap Enc.enc:List PV).length=q.length:=jJ q;have d5:=iK (α:=zo) rfl q z d' g;have a6:yl (q.flatMap Enc.enc) z [L d']=(q.set z d').flatMap Enc.enc:=by simpa using d5
  refine zh (aA (aF [] (zD f0 a y) ?_));intro v5;refine EK ?_;intro v6;refine aG (some [nx,nx+6,nx+7,nx+8,nx+9]) Ry mixed (zR d0 g a5 y) ?_;refine zJ (o) (zR d0 g a5 y) ?_;intro v7;cases c8 with
  |false =>
  rw[if_neg EH]at i;have a7:v.foldl (YV x c) (p,true)=([],false):=by conv=>lhs;rw[<-List.take_append_drop (k+1) v,BJ,i,ky]
  rw[a7];repeat apply za
  refine zb ?_;refine zm rfl (EK ?_);refine yn 2 0 rfl rfl ?_;exact EL hd
  |true =>
  rw[if_pos rfl]at i;repeat apply za
  refine zb ?_;refine zk rfl (zh (ze [] (zR g a6 d4 y) ?_));refine⟨by omega,?_⟩;refine zb ?_;exact zr (k+1,q.set z d',w) [_,_,_] ⟨a,i,j.set a4⟩ EF (by simp[zu k EA]) rfl (by simp;exact⟨rfl,rfl,rfl⟩)
 simp at a;obtain rfl:k=v.length:=EA;rw[Ah]at hq;rw[hq];refine zx (zY 6 rfl ?_);refine EK ?_;exact EL hd
theorem PlanS.wo{K:Nat}{p:zy}(h:PlanS n K p)(c:Int):PlanS n K (X3 c p):=by
 refine⟨by unfold X3;rw[List.length_map];exact h.len,λe f=>?_⟩;obtain⟨d,g,rfl⟩:=Aj.1 f;obtain⟨g1,i,g3⟩:=h.ok d g;have hl:=pJ c d;have hm:∀t∈we c d,∃u∈d,t=vf c u:=λt a=>by obtain⟨u,b,e⟩:=Aj.1 (AX.1 a).1;exact⟨u,b,e.symm⟩
 refine⟨⟨by have:=g1.n;omega,λt a=>?_,λt a s hs=>?_⟩,?_,by omega⟩;obtain⟨u,b,rfl⟩:=hm t a;exact AF (gT c u) (g1.t u b);obtain⟨u,b,rfl⟩:=hm t a;exact g1.s u b s (AX.1 hs).1;grind[Zwp]
structure PlanG (x:Inst) (n:Nat) (p:zy):Prop where
 a:InstA x n
 ad:x.y.length<=6
 len:p.length=n
 ab:∀d∈p,yu x d=0
theorem PlanG.m{x:Inst}{p:zy}(h:PlanG x n p):PlanM x p:=⟨by have:=h.ad;omega,h.a.h,by have:=h.len;have:=h.a.ac;omega,h.ab⟩
theorem PlanG.s{x:Inst}{p:zy}(h:PlanG x n p):PlanS n 6 p:=by refine⟨h.len,λd a=>?_⟩;obtain⟨h1,h2,h3⟩:=QE (by have:=h.ad;omega) (h.ab d a);have:=h.ad;exact⟨h3.ok,by omega,by omega⟩
theorem PlanG.serves{x:Inst}{p:zy}(h:PlanG x n p):Serves x p:=by
 have hs:=h.s;have hn:=h.a.ac;have hl:=hs.len;have g:ZT p<=1000*p.length:=by
  have:∀p:zy,(∀d∈p,d.flatten.length<=1000)->ZT p<=1000*p.length:=by
   intro p;induction p with
   |nil=>intro _;simp[ZT]
   |cons d p i =>
   intro h;have:=i λe j=>h e (by simp[j]);have:=h d EB;simp only[ZT,Ap,AL,Ab]at *;omega
  exact this p λd b=>by have:=(hs.ok d b).2.1;omega
 refine⟨⟨by omega,λd b=>by have:=(hs.ok d b).2.2;omega,λd b=>(hs.ok d b).1.t,by rw[iS];omega⟩,λs c=>?_,by omega⟩;obtain⟨d,b,f⟩:=dJ p 0 s c;have:=JY (h.ab d b) s.1 f;grind[qn]
theorem PlanG.cost{x:Inst}{p:zy}(h:PlanG x n p):PP 46 [.agg (zB x),.agg [L p]] (I (yN x p)) :=
 sI x p h.serves (by have:=h.ad;omega) (λc hc=>(h.a.aa c hc).Z) λd b=>(h.s.ok d b).1
theorem PlanG.clone{x:Inst}{p:zy}(h:PlanG x n p):PP 189 [.agg [L p]] (.agg [L p]):=by obtain⟨h1,h2,h3⟩:=h.s.sizes (by have:=h.a.ac;omega) EA;exact Zwq p h1 h2 h3
theorem PlanS.open{x:Inst}{K:Nat}(h:InstA x n)(a:x.y.length<=6){p:zy}(b:PlanS n K p)(ho:QF x p=true):PlanG x n p :=
 ⟨h,a,b.len,λd c=>by simp_all[QF]⟩
def ZW(cs:List Nat)(p:zy):zy:=cs.foldl (λq (c:Nat)=>X3 c q) p
def aV(x:Inst)(n:Nat)(st:zy × Bool)(c:Nat):zy × Bool:=if st.2=true then uD x n st.1 c else st
def Zx(x:Inst)(n:Nat)(cs:List Nat)(q:zy):zy × Bool:=cs.foldl (aV x n) (q,true)
def vX(x:Inst)(n:Nat)(p:zy)(cs:List Nat):zy × Bool :=
 if (Zx x n cs (ZW cs p)).2=true then
  (if QF x (Zx x n cs (ZW cs p)).1=true/\¬yN x p<=yN x (Zx x n cs (ZW cs p)).1 then ((Zx x n cs (ZW cs p)).1,true) else (p,false))
 else (p,false)
theorem kz(x:Inst)(n:Nat)(q:zy):∀cs:List Nat,cs.foldl (aV x n) (q,false)=(q,false)
 |[]=>rfl
 |c::cs=>by rw[A6];exact kz x n q cs
def tV{x:Inst}{p:zy}(h:PlanG x n p)(cs:List Nat)(hl:cs.length<=10)(a3:∀c∈cs,c<x.y.length):PP 263 [.agg (zB x),.agg [L p],L (cs.map λ(c:Nat)=>(c:Int))] (.tup [.agg [L (vX x n p cs).1],B (vX x n p cs).2]):=by
 have hA:=h.a;have h6:=h.ad;have c6:=hA.ac;have a0:=h.clone;have b7:=h.s;have j:=h.cost;obtain⟨zs,u⟩:∃zs,zs=cs.map λ(c:Nat)=>(c:Int):=⟨_,rfl⟩;have a4:zs.length=cs.length:=by rw[u,List.length_map]
 have a5:∀(k c:Nat),cs[k]?=some c->zs[k]?=some (c:Int):=λk c e=>by rw[u,Ai,e];rfl
 have b:vX x n p cs=if (Zx x n cs (ZW cs p)).2=true then (if QF x (Zx x n cs (ZW cs p)).1=true/\¬yN x p<=yN x (Zx x n cs (ZW cs p)).1 then ((Zx x n cs (ZW cs p)).1,true) else (p,false)) else (p,false):=rfl;rw[<-u];clear u;refine zt func263 ntmps263 results263 λS nx v=>?_;refine EK ?_;intro v0 v1 v2;refine EK ?_;intro v3;repeat apply za
 refine zb ?_;refine zj (zC (λs:Nat × zy=>s.1<=zs.length/\s.2=ZW (cs.take s.1) p/\PlanS n 6 s.2) (λ(k,q)=>[(2,L zs),(3,.ptr nx v0 0),(4,.ptr (nx+1) v1 0),(6,.ptr (nx+2) v2 0),(8,.ptr (nx+3) v3 0),(9,B true),(15,L zs),(16,I zs.length),(17,I k)]) (λ(k,q)=>[.cells v0 25 (zB x),.cells v1 31 [L p],.cells v2 31 [yB],.cells v3 31 [L q]]) (λs=>zs.length-s.1) (0,p) [] ⟨by simp,by simp[ZW],b7⟩ EB EB ?_);rintro⟨k,q⟩ ⟨hk,hq,i⟩;simp only at hk hq i ⊢;refine EK ?_;refine za (zv rfl (λf=>?_) (λf=>?_));simp at f;obtain⟨c,hc⟩:∃c,cs[k]?=some c:=⟨_,Ac EA⟩;have a1:=a3 c (Aa hc);obtain⟨z,tl,b1,b2,b3,f0⟩:=zF rfl zs k f;obtain rfl:z=(c:Int):=by have:=a5 k c hc;rw[b1]at this;exact Option.some.inj this
 have a6:=tO x c;rw[show (decide (0<=(c:Int))&&decide ((c:Int)<x.y.length))=true from by simp;omega]at a6;obtain⟨s1,s2,s3⟩:=i.sizes EA EA;have b8:=Zwo q c s1 (λd v=>by have:=s2 d v;omega) (λd v t ht=>by have:=s3 d v t ht;omega);have a2:X3 c q=ZW (cs.take (k+1)) p:=by rw[hq,AE,hc];simp[ZW]
 have w:=i.wo c;have w:=i.wo c;generalize X3 c q=q2 at *;refine zh (aA (aF [] (zn f0 f) ?_));repeat apply za
 refine zb ?_;refine zq a6 ?_;refine aC (zb ?_);refine zq b8 ?_;refine zb ?_;exact zr (k+1,q2) [] ⟨f,a2,w⟩ EF (by simp[zu k EA]) rfl EB;simp at f;obtain rfl:k=zs.length:=EA;rw[a4,Ah]at hq;refine zx ?_;repeat apply za
 refine zb ?_;refine zj (zC (λs:Nat × zy=>s.1<=zs.length/\(cs.take s.1).foldl (aV x n) (q,true)=(s.2,true)/\PlanS n (6+64*s.1) s.2) (λ(k,q)=>[(2,L zs),(3,.ptr nx v0 0),(4,.ptr (nx+1) v1 0),(6,.ptr (nx+2) v2 0),(8,.ptr (nx+3) v3 0),(31,L zs),(32,I zs.length),(33,I k)]) (λ(k,q)=>[.cells v0 25 (zB x),.cells v1 31 [L p],.cells v2 31 [yB],.cells v3 31 [L q]]) (λs=>zs.length-s.1) (0,q) [] ⟨by simp,by simp,i⟩ EB EB ?_);rw[<-hq]at b;clear i hq hk f;rintro⟨k,r⟩ ⟨hk,hr,l⟩;simp only at hk hr l ⊢;refine EK ?_;refine za (zv rfl (λf=>?_) (λf=>?_))
 .simp at f;obtain⟨c,hc⟩:∃c,cs[k]?=some c:=⟨_,Ac EA⟩;have a1:=a3 c (Aa hc);obtain⟨z,tl,b1,b2,b3,f0⟩:=zF rfl zs k f;obtain rfl:z=(c:Int):=by have:=a5 k c hc;rw[b1]at this;exact Option.some.inj this
  have y:=Zww hA (K:=6+64*k) EA l c a1;have a7:=tU hA (K:=6+64*k) EA l a1;have a8:(cs.take (k+1)).foldl (aV x n) (q,true)=uD x n r c:=by rw[AE,hc,BJ,hr];rfl
  generalize uD x n r c=e at *;obtain⟨r2,ok⟩:=e;simp only at y a7;refine zh (aA (aF [] (zn f0 f) ?_));refine EK ?_;refine zq y ?_;cases ok with
  |false =>
  have m:Zx x n cs q=(r2,false):=by unfold Zx;conv=>lhs;rw[<-List.take_append_drop (k+1) cs,BJ,a8,kz]
  rw[m,if_neg EB]at b;rw[b];refine EK ?_;refine zm rfl (EK ?_);refine zq a0 ?_;exact EL v
  |true =>
  refine EK ?_;refine zk rfl (zh (zb ?_));exact zr (k+1,r2) [] ⟨f,a8,by have:=a7 rfl;rw[show 6+64*(k+1)=6+64*k+64 by omega];exact this⟩ EF (by simp[zu k EA]) rfl EB
 simp at f;obtain rfl:k=zs.length:=EA;rw[a4,Ah]at hr;have m:Zx x n cs q=(r,true):=hr;rw[m,if_pos rfl]at b;have o:=Zwu x r (n:=n) (K:=6+64*zs.length) EA EA EA l;refine zx ?_;cases ho:QF x r with
 |false =>
 rw[ho]at o;rw[ho,if_neg EB]at b;rw[b];repeat apply za
 refine zA (some [nx,nx+1,nx+3]) Rp mixed zE ?_;refine zJ (o) zE ?_;refine zm rfl (EK ?_);refine zq a0 ?_;exact EL v
 |true =>
 rw[ho]at o;have a9:=(l.open hA h6 ho).cost;generalize yN x r=z2 at *;generalize yN x p=z1 at *
 by_cases g:z1<=z2;rw[if_neg (λq=>q.2 g)]at b;rw[b];repeat apply za
 refine zA (some [nx,nx+1,nx+3]) Rp mixed g ?_;refine zJ (o) g ?_;refine zJ (a9) g ?_;refine zJ (j) g ?_;refine zm rfl (EK ?_);refine zq a0 ?_;exact EL v;rw[if_pos ⟨ho,g⟩]at b;rw[b];repeat apply za
 refine zA (some [nx,nx+1,nx+3]) Rp mixed g ?_;refine zJ (o) g ?_;refine zJ (a9) g ?_;refine zJ (j) g ?_;refine zk rfl (zh (EK ?_));exact EL v
def Zwx{x:Inst}{p:zy}(h:PlanG x n p)(c:Nat)(hc:c<x.y.length):PP 231 [.agg (zB x),.agg [L p],I c] (.tup [.agg [L (vX x n p [c]).1],B (vX x n p [c]).2]):=by have a:=tV h [c] EB (by simpa using hc);simp only[Ap,A8]at a;refine zt func231 ntmps231 results231 λS nx b=>?_;refine EK ?_;intro v0 v1 d;refine EK ?_;refine zq a ?_;exact EL b
def Yj(x:Inst)(n:Nat)(p:zy)(a b:Nat):zy × Bool:=if a=b then (p,false) else vX x n p [a,b]
def Zwy{x:Inst}{p:zy}(h:PlanG x n p)(a b:Nat)(f:a<x.y.length)(hb:b<x.y.length):PP 232 [.agg (zB x),.agg [L p],I a,I b] (.tup [.agg [L (Yj x n p a b).1],B (Yj x n p a b).2]):=by
 have d:=h.clone;unfold Yj;by_cases c:a=b;rw[if_pos c];refine zt func232 ntmps232 results232 λS nx e=>?_;refine EK ?_;intro v0 v1 g;repeat apply za
 refine zb ?_;refine zm (by simp[c]) ?_;refine EK ?_;refine zq d ?_;exact EL e;rw[if_neg c];have hn:=tV h [a,b] EB (by simpa using ⟨f,hb⟩);simp only[Ap,A8]at hn;refine zt func232 ntmps232 results232 λS nx e=>?_;refine EK ?_;intro v0 v1 g;repeat apply za
 refine zb ?_;refine zk EF ?_;refine zh (EK ?_);refine zq hn ?_;exact EL e
theorem tW{x:Inst}(h:InstA x n):∀(cs:List Nat) (K:Nat) (q:zy),(∀c∈cs,c<x.y.length)->K+64*cs.length<=1000->PlanS n K q->(Zx x n cs q).2=true->PlanS n (K+64*cs.length) (Zx x n cs q).1
 |[],K,q,_,_,b,_=>b
 |c::cs,K,q,hc,f,b,a=>by
  rw[Ab]at f ⊢;have e:Zx x n (c::cs) q=cs.foldl (aV x n) (uD x n q c):=rfl;rw[e]at a ⊢;cases ho:(uD x n q c).2 with
  |false =>
  have:uD x n q c=((uD x n q c).1,false):=by rw[<-ho]
  rw[this,kz]at a;cases a
  |true =>
  have h1:=tU h EA b (hc c EB) ho;have:uD x n q c=((uD x n q c).1,true):=by rw[<-ho]
  rw[this]at a ⊢;have:=tW h cs (K+64) _ (λc d=>hc c (by simp[d])) EA h1 a;rw[show K+64*(cs.length+1)=K+64+64*cs.length by omega];exact this
theorem tX{K:Nat}:∀(cs:List Nat) (p:zy),PlanS n K p->PlanS n K (ZW cs p)
 |[],_,h=>h
 |c::cs,p,h=>tX cs _ (h.wo c)
def kB{x:Inst}{p:zy}(h:PlanG x n p)(cs:List Nat)(hl:cs.length<=10)(b:∀c∈cs,c<x.y.length):PlanG x n (vX x n p cs).1/\yN x (vX x n p cs).1<=yN x p:=by unfold vX;split;rename_i h1;split;rename_i h2;exact⟨(tW h.a cs 6 _ b EA (tX cs p h.s) h1).open h.a h.ad h2.1,by have:=h2.2;dsimp only;omega⟩;exact⟨h,Cc _⟩;exact⟨h,Cc _⟩
def tY{x:Inst}{p:zy}(h:PlanG x n p)(a b:Nat)(c:a<x.y.length)(hb:b<x.y.length):PlanG x n (Yj x n p a b).1/\yN x (Yj x n p a b).1<=yN x p:=by unfold Yj;split;exact⟨h,Cc _⟩;exact kB h [a,b] EB (by simpa using ⟨c,hb⟩)
def ea(id ver b:Nat):Rd:=⟨none,λC S w=>Rel C S w (.ptr id ver 0) (.pointer (some ⟨b,0,none⟩)),λst h=>Rel.mono st h⟩
variable {N:Nat}
def Zwz{c:Code}{Q:Exit->(Nat->PV)->Store->Prop}{x id ver:Nat}(g:F x=.ptr id ver 0)(hs:S id=.cells ver e cs)
  (h:∀b,PW P (ea id ver b) n N c Q F S):PW P jI n N c Q F S:=by
 intro C w a st;have d:=st.fr x;rw[g]at d;generalize hv:a.tmps.getD x undef=v at d;cases d with
 |ptr h1 h2 h3 =>
 obtain⟨b,k,hl,rfl⟩:=(h3 ver (by rw[hs];rfl)).2 rfl;have:=h b C w a ⟨st.sim,st.size,st.fr,.ptr h1 h2 h3⟩;exact wpIn_mono this λe a' w' ⟨F',S',C',i,f,j,l⟩=>⟨F',S',C',i,⟨f.sim,f.size,f.fr,trivial⟩,j,l⟩
def ZwA{t m id ver:Nat}(ho:o.op=.slice t x none none none)(k:P.underlying t=some (.array m e))(hc:P.cellsOf e≠0)(hx:ev F x=.ptr id ver 0)(hs:S id=.cells ver j cs)
  (l:K (.sc (.slice (some ⟨b,0,none⟩) m m)) S):PO P (ea id ver b) n o F S K:=by
 intro G p C w a N st next Q' d;have h:=st.ev x;rw[(p x (by simp[ho,Op.operands])).trans hx]at h;have e2:Rel C S w (.ptr id ver 0) (.pointer (some ⟨b,0,none⟩)):=st.v;have i:∀c,o.op≠.defer c:=by intro c hc;rw[ho]at hc;cases hc
 generalize hv:a.eval x=v at h;cases h with
 |ptr h1 h2 h3 =>
 obtain⟨b1,k1,hl,rfl⟩:=(h3 ver (by rw[hs];rfl)).2 rfl;cases e2 with
 |ptr i1 i2 i3 =>
 obtain⟨b2,q,f,hb⟩:=(i3 ver (by rw[hs];rfl)).2 rfl;rw[hl]at f;cases f;cases hb;have g:(execOp a.eval o).run P w=.ok (.value (.slice (some ⟨b,0,none⟩) m m)) w:=by unfold execOp;simp[ho,hv,Instr.sliceAt,run_underlying k,Instr.sureAddr,Instr.sliceBounds,ui hc];intro _;rfl
 exact qx i g (d _ _ _ _ _ l (.sc _) st.sim (Step.refl _ _ _))
def aW{s:Operand}{a:Act}{w':World}{v:Value}(ho:o.op=.call { callee:=.builtin .copy,args:=#[s,x],argTypes:=#[t,t] })
  (h:(Builtin.copy_ #[t,t] o.type #[a.eval s,a.eval x]).run P w=.ok v w'):(execOp a.eval o).run P w=.ok (.value v) w':=by
 unfold execOp;grind[resolve,invoke,builtin,Sem.run_bind,Sem.run_pure,Result.andThen_ok]
def ZwB{s:Operand}{t m id ver:Nat}{l:List PV}(ho:o.op=.call { callee:=.builtin .copy,args:=#[s,x],argTypes:=#[t,t] })(ht:P.underlying t=some (.slice e))(f:(P.info? e).map (·.size)=some 1)
  (hs:ev F s=.sc (.slice (some ⟨b,0,none⟩) m m)) (hx:ev F x=.lst l.length l) (hid:S id=.cells ver dst cs) (hm:cs.length=m)
  (hK:K (I (min l.length m:Nat)) (S.set id (.cells ver dst (l.take m++cs.drop (min l.length m))))):PO P (ea id ver b) n o F S K:=by
 intro G hG C w a N st next Q' h;have e1:=st.ev s;rw[(hG s (by grind[Op.operands,Call.operands])).trans hs]at e1;have e2:=st.ev x;rw[(hG x (by grind[Op.operands,Call.operands])).trans hx]at e2;have e3:Rel C S w (.ptr id ver 0) (.pointer (some ⟨b,0,none⟩)):=st.v;have a5:∀c,o.op≠.defer c:=by intro c hc;rw[ho]at hc;cases hc
 generalize hv:a.eval s=v at e1;cases e1;generalize hu:a.eval x=u at e2;cases e3 with
 |ptr i1 i2 i3 =>
 obtain⟨b2,k,hl,hb⟩:=(i3 ver (by rw[hid];rfl)).2 rfl;cases hb;obtain⟨hn,_⟩|⟨b',k',c,g1,g2,g3,g4,g5,g6⟩:=st.sim.cells id ver dst cs hid;rw[hn]at hl;cases hl;rw[hl]at g1;cases g1;have a6:∀(vs:List Value) (a':Addr) (cap:Nat),u=.slice (some a') l.length cap->vs.length=min l.length m->(∀j v,vs[j]?=some v->w.cell? (a'.add j)=some v)->(∀v∈vs,v.oneCell'=true)->(∀(i:Nat) (p:PV) (v:Value),(l.take m)[i]?=some p->vs[i]?=some v->Rel C S w p v)->o.wpIn (Fe (ea id ver b)) n P a w next Q':=by
  intro vs a' cap c6 r a0 y a7;have g:=run_copy_row P w t t o.type e b 0 m m a' l.length cap c dst vs ht f g2 (by rw[r]) a0 EA y;have d:=aW (P:=P) (a:=a) (w:=w) ho (by rw[hv,hu,c6];exact g);simp only[Df,AI,A3]at d;generalize a8:w.setRow b (vs++c.toList.drop vs.length).toArray=w' at d;have a1:w'.heap[b]?=some (.cells (vs++c.toList.drop vs.length).toArray dst (0,0)):=by rw[<-a8];exact setRow_heap w b c _ dst _ g2
  have c7:w.grownBy w' (some b)/\w.drawn<=w'.drawn:=by rw[<-a8];exact⟨⟨rfl,rfl,rfl,by simp,λj q c8=>setRow_other w b j _ (λe=>c8 (by rw[e]))⟩,Af _⟩
  have a2:(vs++c.toList.drop vs.length).toArray.size=k:=EF;have a3:(l.take m).length=vs.length:=by rw[Az,r];omega
  obtain⟨t1,t2⟩:=st.sim.turn (l:=C.loc id) (ver':=ver) (cs':=l.take m++cs.drop (min l.length m)) hid (Af _) (λ_=>rfl) (by rw[hl];exact c7)
   (.inr ⟨b,k,_,hl,.inr (by rw[hl];rfl),a1,a2,by rw[Ak,Bq,a3];omega,λi z hi f=>by
     rw[AH]at f;by_cases q1:i<vs.length;rw[As q1]at f;exact y z (Aa f);rw[Am EA,AV]at f;rw[Ak,Bq,a3]at hi;have e9:vs.length+(i-vs.length)=i:=EA;rw[e9]at f;exact g5 i z EA (by rw[<-Array.getElem?_toList];exact f),
    λi p z hp f=>by rw[AH]at f;by_cases q1:i<vs.length;rw[As q1]at f;rw[As EA]at hp;exact a7 i p z hp f;rw[Am EA,AV]at f;rw[Am EA,AV,a3,<-r]at hp;have e9:vs.length+(i-vs.length)=i:=EA;rw[e9]at f hp;exact g6 i p z hp (by rw[<-Array.getElem?_toList];exact f)⟩)
  have a9:goInt vs.length=Value.int .i64 ((min l.length m:Nat):Int):=by rw[r];rfl
  exact qx a5 d (h _ _ _ _ _ hK (by rw[a9];exact .sc _) t1 t2)
 generalize hk:l.length=kk at e2;cases e2 with
 |lst0 =>
 rename_i cap a';have g:(Builtin.copy_ #[t,t] o.type #[a.eval s,a.eval x]).run P w=.ok (goInt 0) w:=by
  rw[hv,hu];cases hq:P.info? e with
  |none=>simp[hq]at f
  |some i =>
  cases a'<;>simp[Builtin.copy_,run_underlying ht,Builtin.lenOf,Builtin.firstCells,sizeOf,typeInfo,hq,storeCells,loadCells,loadCellsFrom]
 have d:=aW (P:=P) (a:=a) (w:=w) ho g;have eS:S.set id (.cells ver dst cs)=S:=by funext i;by_cases hi:i=id;grind[q11];grind[q10]
 simp only[Ag,Nat.zero_min,DU,Eg,AI,eS]at hK;exact qx a5 d (h _ _ _ _ _ hK (.sc _) st.sim (Step.refl _ _ _))
 |lst1 hn d4 hb hM d0 h1 h2 =>
 rename_i cap b' o' c' e' fz;subst hk;have b7:∀j,(⟨b',o',none⟩:Addr).add j=⟨b',o'+j,none⟩:=by intro j;unfold Addr.add;split<;>simp_all
 have a4:∀(j:Nat) (v:Value),((c'.toList.drop o').take (min l.length m))[j]?=some v->j<min l.length m/\c'[o'+j]?=some v:=λj v q=>by rw[BV]at q;split at q;rename_i d1;rw[AV,Array.getElem?_toList]at q;exact⟨d1,q⟩;cases q
 refine a6 ((c'.toList.drop o').take (min l.length m)) ⟨b',o',none⟩ cap rfl ?_ ?_ ?_ ?_;rw[Az,Bq];have e9:c'.toList.length=c'.size:=Array.length_toList;by_cases b8:l=[];subst b8;simp;have:=d0 b8;omega;intro j v q;obtain⟨q1,q2⟩:=a4 j v q;rw[b7];simp[World.cell?,hb,q2];intro v d2;obtain⟨j,q⟩:=Co d2;obtain⟨q1,q2⟩:=a4 j v q;exact h1 j v EA q2;intro i p v hp d3;obtain⟨q1,q2⟩:=a4 i v d3;rw[AP EA]at hp;exact h2 i p v hp q2
def kC{s:Operand}{t m id ver:Nat}{l:List PV}(ho:o.op=.call { callee:=.builtin .copy,args:=#[s,x],argTypes:=#[t,t] })(ht:P.underlying t=some (.slice e))(f:(P.info? e).map (·.size)=some 1)
  (hs:ev F s=.sl id ver 1 0 m) (hx:ev F x=.lst l.length l) (hid:S id=.cells ver dst cs) (hm:cs.length=m) (d5:0<m)
  (hK:K (I (min l.length m:Nat)) (S.set id (.cells ver dst (l.take m++cs.drop (min l.length m))))):PO P jI n o F S K:=by
 intro G hG C w a N st next Q' h;have e1:=st.ev s;rw[(hG s (by grind[Op.operands,Call.operands])).trans hs]at e1;have e2:=st.ev x;rw[(hG x (by grind[Op.operands,Call.operands])).trans hx]at e2;have a6:∀c,o.op≠.defer c:=by intro c hc;rw[ho]at hc;cases hc
 generalize hv:a.eval s=v at e1;generalize hu:a.eval x=u at e2;cases e1 with
 |sl i1 i2 i3 =>
 rcases (i3 ver (by rw[hid];rfl)).2 rfl with ⟨_,q,_,_⟩|⟨b,k,ad,dcap,hl,rfl,hq0,_⟩
 omega;obtain⟨rfl,d6⟩:=hq0 rfl;obtain⟨hn,_⟩|⟨b',k',c,g1,g2,g3,g4,g5,g6⟩:=st.sim.cells id ver dst cs hid;simp_all;rw[hl]at g1;cases g1;have a7:∀(vs:List Value) (a':Addr) (cap:Nat),u=.slice (some a') l.length cap->vs.length=min l.length m->(∀j v,vs[j]?=some v->w.cell? (a'.add j)=some v)->(∀v∈vs,v.oneCell'=true)->(∀(i:Nat) (p:PV) (v:Value),(l.take m)[i]?=some p->vs[i]?=some v->Rel C S w p v)->o.wpIn (Fe jI) n P a w next Q':=by
  intro vs a' cap c7 y a1 a0 a8;have g:=run_copy_row P w t t o.type e b 0 m dcap a' l.length cap c dst vs ht f g2 (by rw[y]) a1 EA a0;have d:=aW (P:=P) (a:=a) (w:=w) ho (by rw[hv,hu,c7];exact g);simp only[Df,AI,A3]at d;generalize a9:w.setRow b (vs++c.toList.drop vs.length).toArray=w' at d;have a2:w'.heap[b]?=some (.cells (vs++c.toList.drop vs.length).toArray dst (0,0)):=by rw[<-a9];exact setRow_heap w b c _ dst _ g2
  have c8:w.grownBy w' (some b)/\w.drawn<=w'.drawn:=by rw[<-a9];exact⟨⟨rfl,rfl,rfl,by simp,λj r d0=>setRow_other w b j _ (λe=>d0 (by rw[e]))⟩,Af _⟩
  have a3:(vs++c.toList.drop vs.length).toArray.size=k:=EF;have a4:(l.take m).length=vs.length:=by rw[Az,y];omega
  obtain⟨t1,t2⟩:=st.sim.turn (l:=C.loc id) (ver':=ver) (cs':=l.take m++cs.drop (min l.length m)) hid (Af _) (λ_=>rfl) (by rw[hl];exact c8)
   (.inr ⟨b,k,_,hl,.inr (by rw[hl];rfl),a2,a3,by rw[Ak,Bq,a4];omega,λi z hi f=>by
     rw[AH]at f;by_cases q1:i<vs.length;rw[As q1]at f;exact a0 z (Aa f);rw[Am EA,AV]at f;rw[Ak,Bq,a4]at hi;have e9:vs.length+(i-vs.length)=i:=EA;rw[e9]at f;exact g5 i z EA (by rw[<-Array.getElem?_toList];exact f),
    λi p z hp f=>by rw[AH]at f;by_cases q1:i<vs.length;rw[As q1]at f;rw[As EA]at hp;exact a8 i p z hp f;rw[Am EA,AV]at f;rw[Am EA,AV,a4,<-y]at hp;have e9:vs.length+(i-vs.length)=i:=EA;rw[e9]at f hp;exact g6 i p z hp (by rw[<-Array.getElem?_toList];exact f)⟩)
  have b7:goInt vs.length=Value.int .i64 ((min l.length m:Nat):Int):=by rw[y];rfl
  exact qx a6 d (h _ _ _ _ _ hK (by rw[b7];exact .sc _) t1 t2)
 generalize hk:l.length=kk at e2;cases e2 with
 |lst0 =>
 rename_i cap a';have g:(Builtin.copy_ #[t,t] o.type #[a.eval s,a.eval x]).run P w=.ok (goInt 0) w:=by
  rw[hv,hu];cases hq:P.info? e with
  |none=>simp[hq]at f
  |some i =>
  cases a'<;>simp[Builtin.copy_,run_underlying ht,Builtin.lenOf,Builtin.firstCells,sizeOf,typeInfo,hq,storeCells,loadCells,loadCellsFrom]
 have d:=aW (P:=P) (a:=a) (w:=w) ho g;have eS:S.set id (.cells ver dst cs)=S:=by funext i;by_cases hi:i=id;subst hi;grind[q11];exact q10 _ _ _ _ hi
 simp only[Ag,Nat.zero_min,DU,Eg,AI,eS]at hK;exact qx a6 d (h _ _ _ _ _ hK (.sc _) st.sim (Step.refl _ _ _))
 |lst1 hn d7 hb hM d1 h1 h2 =>
 rename_i cap b' o' c' e' fz;subst hk;have b8:∀j,(⟨b',o',none⟩:Addr).add j=⟨b',o'+j,none⟩:=by intro j;unfold Addr.add;split<;>simp_all
 have a5:∀(j:Nat) (v:Value),((c'.toList.drop o').take (min l.length m))[j]?=some v->j<min l.length m/\c'[o'+j]?=some v:=λj v r=>by rw[BV]at r;split at r;rename_i d2;rw[AV,Array.getElem?_toList]at r;exact⟨d2,r⟩;cases r
 refine a7 ((c'.toList.drop o').take (min l.length m)) ⟨b',o',none⟩ cap rfl ?_ ?_ ?_ ?_;rw[Az,Bq];have e9:c'.toList.length=c'.size:=Array.length_toList;by_cases c6:l=[];subst c6;simp;have:=d1 c6;omega;intro j v r;obtain⟨q1,q2⟩:=a5 j v r;rw[b8];simp[World.cell?,hb,q2];intro v d3;obtain⟨j,r⟩:=Co d3;obtain⟨q1,q2⟩:=a5 j v r;exact h1 j v EA q2;intro i p v hp d4;obtain⟨q1,q2⟩:=a5 i v d4;rw[AP EA]at hp;exact h2 i p v hp q2
def wN(id ver id2 v2:Nat)(p:PV):PV :=
 match p with
 |.sl o v sz off k=>if o=id/\v=ver then .sl id2 v2 sz off k else .sl o v sz off k
 |.ptr o v off=>if o=id/\v=ver then .ptr id2 v2 off else .ptr o v off
 |p=>p
def Je(id ver id2 v2:Nat)(x:Ob):Ob :=
 match x with
 |.cells v e ds=>.cells v e (ds.map (wN id ver id2 v2))
 |x=>x
def ZwC{C':Ctx}{T:Store}{id ver d:Nat}{f:List PV}(hid:S id=.cells ver e cs)(st:Step C S w C' T w)(hn:T b=.cells d n f)(hl:C'.loc b=C.loc id)(c:b<C'.next/\d<C'.clock){u:Value}
  (h:Rel C S w p u):Rel C' T w (wN id ver b d p) u:=by
 unfold wN;split;split
 .rename_i hc;obtain⟨rfl,rfl⟩:=hc;cases h with
  |sl h1 h2 h3 =>
  refine .sl h1 c λv0 a=>?_;rw[hn]at a;cases a;refine⟨Af _,λ_=>?_⟩;rw[hl];exact(h3 _ (by rw[hid];rfl)).2 rfl
 exact h.mono st;split
 .rename_i hc;obtain⟨rfl,rfl⟩:=hc;cases h with
  |ptr h1 h2 h3 =>
  refine .ptr h1 c λv0 a=>?_;rw[hn]at a;cases a;refine⟨Af _,λ_=>?_⟩;rw[hl];exact(h3 _ (by rw[hid];rfl)).2 rfl
 exact h.mono st;exact h.mono st
variable {obs:List Ob}
def QG{r:Rd}{Q:Exit->(Nat->PV)->Store->Prop}{c:Code}(j:Nat){ver:Nat}(hj:obs[j]?=some (.cells ver e cs))
  (h:∀v2,PW P r n N c Q (λi=>wN (nx+j) ver (nx+obs.length) v2 (F i)) (ext S nx ((obs.map (Je (nx+j) ver (nx+obs.length) v2)).set j .dead++[.cells v2 e (cs.map (wN (nx+j) ver (nx+obs.length) v2))]))):PW P r n N c Q F (ext S nx obs):=by
 intro C w a st;have a0:j<obs.length:=(Ad.1 hj).1;have h:=h C.clock;have hid:ext S nx obs (nx+j)=.cells ver e cs:=by rw[zS,List.getD_eq_getElem?_getD,hj];rfl
 have a3:ext S nx obs (nx+obs.length)=.dead:=Z5;have g:ext S nx ((obs.map (Je (nx+j) ver (nx+obs.length) C.clock)).set j .dead++[.cells C.clock e (cs.map (wN (nx+j) ver (nx+obs.length) C.clock))]) (nx+obs.length)=.cells C.clock e (cs.map (wN (nx+j) ver (nx+obs.length) C.clock)):=by rw[zS,List.getD_eq_getElem?_getD,Am EB];simp
 have a4:ext S nx ((obs.map (Je (nx+j) ver (nx+obs.length) C.clock)).set j .dead++[.cells C.clock e (cs.map (wN (nx+j) ver (nx+obs.length) C.clock))]) (nx+j)=.dead:=by rw[zS,List.getD_eq_getElem?_getD,As (by simpa using a0),A9 (by simpa using a0)];rfl
 have s:∀o,o≠nx+j->o≠nx+obs.length->ext S nx ((obs.map (Je (nx+j) ver (nx+obs.length) C.clock)).set j .dead++[.cells C.clock e (cs.map (wN (nx+j) ver (nx+obs.length) C.clock))]) o=ext S nx obs o \/
   ext S nx ((obs.map (Je (nx+j) ver (nx+obs.length) C.clock)).set j .dead++[.cells C.clock e (cs.map (wN (nx+j) ver (nx+obs.length) C.clock))]) o=Je (nx+j) ver (nx+obs.length) C.clock (ext S nx obs o):=by
  intro o h1 h2;by_cases ho:o<nx;simp_all[zG];right;simp only[ext];rw[if_neg ho,if_neg ho,List.getD_eq_getElem?_getD,List.getD_eq_getElem?_getD];by_cases f:o-nx<obs.length;grind;rw[Ao EF,Ao EA];rfl
 generalize a5:ext S nx ((obs.map (Je (nx+j) ver (nx+obs.length) C.clock)).set j .dead++[.cells C.clock e (cs.map (wN (nx+j) ver (nx+obs.length) C.clock))])=T at *;generalize a6:ext S nx obs=S1 at *;generalize a7:nx+obs.length=id2 at *;generalize a8:nx+j=id at *;clear a5 a6 a7 a8 hj a0;have t:=st.sim;have a9:id≠id2:=by intro e2;rw[e2,a3]at hid;cases hid
 have d:∀o,o≠id2->T o≠.dead->S1 o≠.dead/\o≠id:=by intro o h2 hT;by_cases h1:o=id;simp_all;refine⟨λhs=>?_,h1⟩;obtain q|q:=s o h1 h2;simp_all;rw[q,hs]at hT;exact hT rfl
 have a1:∀o v,o≠id2->(T o).ver=some v->(S1 o).ver=some v:=by
  intro o v h2 hv;by_cases h1:o=id;subst h1;rw[a4]at hv;cases hv;obtain q|q:=s o h1 h2;simp_all;rw[q]at hv;cases hs:S1 o with
  |dead=>rw[hs]at hv;cases hv
  |cells v0 e0 ds=>rw[hs]at hv;exact hv
  |map v0 es=>rw[hs]at hv;exact hv
 obtain⟨C',y⟩:∃C':Ctx,C'={ loc:=λo=>if o=id2 then C.loc id else C.loc o,next:=max C.next (id2+1),clock:=C.clock+1 }:=⟨_,rfl⟩;have l:C'.loc id2=C.loc id:=by rw[y];simp
 have f:∀o,o≠id2->C'.loc o=C.loc o:=λo ho=>by simp_all
 have b7:C'.next=max C.next (id2+1):=by rw[y]
 have b8:C'.clock=C.clock+1:=by rw[y]
 clear y;have step:Step C S1 w C' T w:=by refine⟨rfl,⟨rfl,Af _⟩,rfl,Af _,by omega,by omega,λb c6 hM=>⟨rfl,?_⟩,λo v1 hv=>?_⟩;rintro⟨o,k,ho,hl⟩;by_cases h2:o=id2;subst h2;rw[l]at hl;exact hM ⟨id,k,by rw[hid];simp,hl⟩;rw[f o h2]at hl;exact hM ⟨o,k,(d o h2 ho).1,hl⟩;by_cases h2:o=id2;subst h2;rw[g]at hv;cases hv;exact .inl (.inr (Af _));simp_all
 have mv:∀{p:PV} {u:Value},Rel C S1 w p u->Rel C' T w (wN id ver id2 C.clock p) u:=λhr=>ZwC hid step g l ⟨by omega,by omega⟩ hr;have c7:∀{ds:List PV} {i:Nat} {p:PV},(ds.map (wN id ver id2 C.clock))[i]?=some p->∃q,ds[i]?=some q/\p=wN id ver id2 C.clock q:=by intro ds i p hp;rw[Ai,An]at hp;obtain⟨q,h1,h2⟩:=hp;exact⟨q,h1,h2.symm⟩
 have sim:Sim C' T w:=by
  refine⟨λo ho=>?_,λo v hv=>?_,λo o' b k k' h1 h2 h3 h4=>?_,λo v0 e0 ds ho=>?_,λo v0 es ho=>?_⟩;by_cases h2:o=id2;omega;have:=t.lt o (d o h2 ho).1;omega;by_cases h2:o=id2;subst h2;rw[g]at hv;cases hv;omega;have:=t.clk o v (a1 o v h2 hv);omega;by_cases z:o=id2<;>by_cases q2:o'=id2;omega;subst z;rw[l]at h3;rw[f o' q2]at h4;obtain⟨d1,d2⟩:=d o' q2 h2;exact absurd (t.O id o' b k k' (by rw[hid];simp) d1 h3 h4).symm d2;subst q2;rw[l]at h4;rw[f o z]at h3;obtain⟨d1,d2⟩:=d o z h1;exact absurd (t.O o id b k k' d1 (by rw[hid];simp) h3 h4) d2;rw[f o z]at h3;rw[f o' q2]at h4;exact t.O o o' b k k' (d o z h1).1 (d o' q2 h2).1 h3 h4
  .by_cases h2:o=id2;subst h2;rw[g]at ho;cases ho;rw[l];obtain⟨z,q2⟩|⟨b,k,cc,g1,g2,g3,g4,g5,g6⟩:=t.cells id ver e cs hid;exact .inl ⟨z,by rw[q2];rfl⟩;grind;have h1:=(d o h2 (by rw[ho];simp)).2;rw[f o h2];obtain q|q:=s o h1 h2;rw[q]at ho;obtain hn|⟨b,k,cc,g1,g2,g3,g4,g5,g6⟩:=t.cells o v0 e0 ds ho;exact .inl hn;exact .inr ⟨b,k,cc,g1,g2,g3,g4,g5,λi p v hp hv=>(g6 i p v hp hv).mono step⟩;rw[q]at ho;cases hs:S1 o with
   |dead=>simp_all
   |map v1 es=>rw[hs]at ho;cases ho
   |cells v1 e1 a2 =>
   rw[hs]at ho;cases ho;obtain⟨z,q2⟩|⟨b,k,cc,g1,g2,g3,g4,g5,g6⟩:=t.cells o _ _ a2 hs;exact .inl ⟨z,by rw[q2];rfl⟩;grind
  have h2:o≠id2:=by rintro rfl;rw[g]at ho;cases ho
  have h1:=(d o h2 (by rw[ho];simp)).2;have hs:S1 o=.map v0 es:=by
   obtain q|q:=s o h1 h2;simp_all;cases hs:S1 o with
   |dead=>simp_all
   |map v1 c8=>rw[q,hs]at ho;exact ho
   |cells v1 e1 a2=>rw[q,hs]at ho;cases ho
  obtain⟨b,k,ms,cl,g1,g2,g3,g4⟩:=t.maps o v0 es hs;exact⟨b,k,ms,cl,by simp_all,g2,g3,λi x m he hm=>⟨(g4 i x m he hm).1,(g4 i x m he hm).2.mono step⟩⟩
 refine wpIn_mono (h C' w a ⟨sim,st.size,λi=>mv (st.fr i),r.keep step st.v⟩) ?_;rintro e a' w' ⟨F2,S2,C2,h1,h2,h3,h4⟩;exact⟨F2,S2,C2,h1,h2,h3,step.trans h4⟩
def wU(f:Nat->Int)(p:Nat):Nat->Option Int
 |0=>none
 |k+1=>if k=p then wU f p k else match wU f p k with
  |none=>some (f k)
  |some b=>some (if f k<b then f k else b)
def wO(f:Nat->Int)(p k:Nat):Int:=(wU f p k).getD 0
def eb(f:Nat->Int)(p:Nat):wU f p (p+1)=wU f p p:=if_pos rfl
variable {f:Nat->Int}
def kD{p:Nat}(h:k≠p)(hn:wU f p k=none):wU f p (k+1)=some (f k):=by show (if k=p then _ else _)=_;rw[if_neg h,hn]
def ec{p:Nat}{b:Int}(h:k≠p)(hn:wU f p k=some b):wU f p (k+1)=some (if f k<b then f k else b):=by show (if k=p then _ else _)=_;rw[if_neg h,hn]
def tZ(n p:Nat)(hn:n<=2097152)(u:p<=2097152)(g:FuncId)(ps:List PV)(f:Nat->Int)
  (h:∀k,k<n->k≠p->∀T:Store,(∀o,S o≠.dead->T o=S o)->Spec prog g (ps++[I p,I k]) T (λq S'=>q=I (f k)/\S'=T)) :
  SP 170 [I n,I p,.fn (.func g) ps []] S (λq S'=>q=I (wO f p n)/\S'=S):=by
 have l:=eb f p;have e{k:Nat}:=kD (f:=f) (p:=p) (k:=k);have i{k:Nat}{b:Int}:=ec (f:=f) (p:=p) (k:=k) (b:=b);unfold wO;have h0:wU f p 0=none:=rfl;generalize wU f p=lo at *;refine yr func170 ntmps170 results170 λnx r=>?_;have s:∀obs o,S o≠.dead->ext S nx obs o=S o:=λobs o ho=>by apply zG;obtain q|q:=Bo o nx;exact q;exact absurd (r o q) ho
 refine EK ?_;refine EK ?_;repeat apply za
 refine zb ?_;refine zj (zC (λk:Nat=>k<=n) (λk=>[(1,I p),(2,.fn (.func g) ps []),(7,I ((lo k).getD 0)),(8,B (lo k).isSome),(11,I n),(12,I k)]) (λ_=>[]) (λk=>n-k) 0 [] EB (by simp[h0]) EB ?_);rintro k w;refine EK ?_;refine za (zv rfl (λhc=>?_) (λhc=>?_))
 .simp at hc;refine zh (aA (EK ?_));repeat apply za
  refine zb ?_;by_cases a:k=p;subst a;refine aD ?_;refine zx (zb ?_);exact zr (k+1) [] hc EA (by simp[zu k EA,l]) rfl EB;have t:¬(k:Int)=p:=EA;have e:=e a;have i:=@i k;refine zk EF ?_;refine zh (EK ?_);refine λj=>((h k hc a _ (s _)).mono ?_).v;rintro _ _ ⟨rfl,rfl⟩;refine⟨_,_,rfl,zO j ?_⟩;cases hl:lo k with
  |none =>
  have m:=e hl;refine aF [(2,24)] zE ?_;refine aD ?_;refine zb ?_;refine zb ?_;exact zr (k+1) [] hc EA (by simp[zu k EA,m]) rfl EB
  |some b =>
  have c:=i a hl;refine aF [(2,24)] trivial ?_;by_cases d:f k<b;rw[if_pos d]at c;refine zm (by simp[d]) ?_;refine zb ?_;refine zb ?_;exact zr (k+1) [] hc EA (by simp[zu k EA,c]) rfl EB;rw[if_neg d]at c;refine zk (by simp[d]) ?_;refine zh (zb ?_);exact zr (k+1) [] hc EA (by simp[zu k EA,c]) rfl EB
 simp at hc;obtain rfl:k=n:=EA;refine zx (EK ?_);exact EL r
abbrev J5(x:Inst)(s:PV):List PV:=[I x.days,I x.X,I x.Q,I x.len,L x.y,L x.O,s]
def ZwD{id ver:Nat}(x:Inst)(s:PV)(b a:Nat)(e:S id=.cells ver 243 (J5 x s)):
  SP 171 [.ptr id ver 0,I b,I a] S (λq S'=>q=I (arc x a b)/\S'=S):=by
 have c:=un x a b;refine yr func171 ntmps171 results171 λnx f=>?_;have d:id<nx:=jt f e EB;have x1:∀obs,ext S nx obs id=.cells ver 243 (J5 x s):=λobs=>(zG d).trans e;refine EK ?_;refine aF [] x1 ?_;refine yP [] c x1 ?_;exact EL f
variable {ib:Nat}{z:Int}
def ZwE{id ver w:Nat}(x:Inst)(l:List Int)(a b:Nat)(h:S id=.cells ver 243 (J5 x (.sl ib w 1 0 l.length)))(i:S ib=.cells w 3 (l.flatMap Enc.enc))(hb:l[b]?=some z):
  SP 172 [.ptr id ver 0,I a,I b] S (λq S'=>q=I (W (arc x a b-z))/\S'=S):=by
 have c:=un x a b;have e:b<l.length:=(Ad.1 hb).1;obtain⟨t,tl,b1,b2,b3,j⟩:=zF rfl l b e;obtain rfl:t=z:=by rw[hb]at b1;exact(Option.some.inj b1).symm
 refine yr func172 ntmps172 results172 λnx f=>?_;have g:id<nx:=jt f h EB;have d:ib<nx:=jt f i EB;have x1:∀obs,ext S nx obs id=.cells ver 243 (J5 x (.sl ib w 1 0 l.length)):=λobs=>(zG g).trans h;have x2:∀obs,ext S nx obs ib=.cells w 3 (l.flatMap Enc.enc):=λobs=>(zG d).trans i;refine EK ?_;refine aG (some [id,ib]) R3 mixed (zR x1 x2 j e) ?_;refine zJ (c) (zR x1 x2 j e) ?_;exact EL f
def eg(x:Inst)(hx:x.y.length<=1048576):PP 138 [.agg (zB x)] (I ((x.y.length+1:Nat):Int)):=by
 have a:IntKind.i64.wrap ((x.y.length:Int)+1)=(x.y.length:Int)+1:=by rw[AD];omega
 refine zt func138 ntmps138 results138 λS nx b=>?_;refine EK ?_;intro v0;refine aF [] a ?_;exact zg (zi b EC (by simp[zp]))
@[simp] theorem ZEa(a b c d:Nat)(v:Value):wN a b c d (.sc v)=.sc v:=rfl
@[simp] theorem ZEb(a b c d:Nat)(k:Nat)(l:List PV):wN a b c d (.lst k l)=.lst k l:=rfl
@[simp] theorem ZEc(a b c d:Nat)(l:List PV):wN a b c d (.agg l)=.agg l:=rfl
@[simp] theorem ZEd(a b c d o v sz off k:Nat):wN a b c d (.sl o v sz off k)=if o=a/\v=b then .sl c d sz off k else .sl o v sz off k:=rfl
@[simp] theorem ZEe(a b c d o v off:Nat):wN a b c d (.ptr o v off)=if o=a/\v=b then .ptr c d off else .ptr o v off:=rfl
@[simp] theorem ZEf(a b c d v e:Nat)(l:List PV):Je a b c d (.cells v e l)=.cells v e (l.map (wN a b c d)):=rfl
@[simp] theorem ZEg(a b c d:Nat):Je a b c d .dead=.dead:=rfl
def kE(n:Nat):qw n (.int .i64 0)=List.replicate n (I 0):=by apply Bi<;>simp_all[qw,Nat.mod_one]
def ua(a:yd nx S){x y:Ob}(b:obs[j]?=some x)(c:obs[k]?=some y)(o:Nat):((S.set (nx+j) x).set (nx+k) y) o=ext S nx obs o\/((S.set (nx+j) x).set (nx+k) y) o=.dead:=by by_cases h:o=nx+k;subst h;rw[q11];have:=Xv a c (nx+k);rwa[q11]at this;rw[q10 _ _ _ _ h];exact Xv a b o
def ZwF(f:yd nx S)(x:Inst)(hx:x.y.length<=1048576):
  SP 169 [.agg (zB x)] S (λq S'=>∃v w,q=.agg [.sl (nx+4) v 1 0 (x.y.length+1),.sl (nx+5) w 1 0 (x.y.length+1)] /\
   S'=(S.set (nx+4) (.cells v 3 (List.replicate (x.y.length+1) (I 0)))).set (nx+5) (.cells w 3 (List.replicate (x.y.length+1) (I 0)))):=by
 have d:=eg x hx;obtain⟨n,hn⟩:∃n,n=x.y.length+1:=⟨_,rfl⟩;rw[<-hn]at d ⊢;have g:n<=1048577:=EA;have c:=kE n;refine Z7 f func169 ntmps169 results169 ?_;refine EK ?_;intro v0 v1;refine EK ?_;refine zq d ?_;refine aG (some []) (Row.pures [0,2] (.alt 1 (.alt 3 RZ .stop) (.alt 3 (.alt 1 RZ .stop) .stop))) mixed trivial ?_;have e:(n:Int)<=140737488355328/\n*8<=281474976710656:=EA;refine⟨⟨e,λv=>⟨e,λw=>?_⟩⟩,⟨e,λv=>⟨e,λw=>?_⟩⟩⟩;refine QG 2 rfl λa=>?_;refine QG 3 rfl λb=>?_;exact zg ⟨_,_,by simp;rfl,⟨a,b,by simp[zp],rfl⟩,λo=>ua (j:=4) (k:=5) f (by simp[c]) (by simp[c]) o⟩;refine QG 3 rfl λa=>?_;refine QG 2 rfl λb=>?_;exact zg ⟨_,_,by simp;rfl,⟨a,b,by simp[zp],rfl⟩,λo=>ua (j:=4) (k:=5) f (by simp[c]) (by simp[c]) o⟩
def ZwG(x:Inst)(hx:x.y.length<=1048576):
  SP 169 [.agg (zB x)] (ext S nx obs) (λq S'=>∃v w,q=.agg [.sl (nx+(obs.length+4)) v 1 0 (x.y.length+1),.sl (nx+(obs.length+5)) w 1 0 (x.y.length+1)] /\
   S'=ext S nx (obs++[.dead,.dead,.dead,.dead,.cells v 3 (List.replicate (x.y.length+1) (I 0)),.cells w 3 (List.replicate (x.y.length+1) (I 0))])):=by
 refine(ZwF xM x hx).mono ?_;rintro _ _ ⟨v,w,rfl,rfl⟩;refine⟨v,w,by rw[Nat.add_assoc,Nat.add_assoc],?_⟩;rw[VT 4];have e2:=jE (S:=S) (nx:=nx) (obs:=obs++List.replicate 4 .dead++[.cells v 3 (List.replicate (x.y.length+1) (I 0))]) (.cells w 3 (List.replicate (x.y.length+1) (I 0)));rw[show nx+obs.length+5=nx+(obs++List.replicate 4 Ob.dead++[Ob.cells v 3 (List.replicate (x.y.length+1) (I 0))]).length by simp;omega,e2];simp[List.replicate]
def qN(x:Inst)(l:List Int):List Int:=(List.range (x.y.length+1)).map λb:Nat=>min (max (l.getD b 0) 0) (wO (λa=>arc x a b) b (x.y.length+1))
def qV(x:Inst)(i:List Int):List Int:=(List.range (x.y.length+1)).map λa:Nat=>wO (λb=>W (arc x a b-i.getD b 0)) a (x.y.length+1)
def eh(x:Inst)(l:List Int):(qN x l).length=x.y.length+1:=by simp[qN]
def kF(x:Inst)(i:List Int):(qV x i).length=x.y.length+1:=by simp[qV]
def ZwH{p:Nat}{lo hi:Int}(h0:lo<=0)(h1:0<=hi)(h:∀k:Nat,lo<=f k/\f k<=hi)(n:Nat):lo<=wO f p n/\wO f p n<=hi:=by
 have:∀n,∀b,wU f p n=some b->lo<=b/\b<=hi:=by
  intro n;induction n with
  |zero=>intro b hb;cases hb
  |succ n d =>
  intro b hb;by_cases a:n=p;subst a;rw[eb]at hb;exact d b hb;cases ho:wU f p n with
  |none=>rw[kD a ho]at hb;cases hb;exact h n
  |some c =>
  rw[ec a ho]at hb;cases hb;split;exact h n;exact d c ho
 unfold wO;cases e:wU f p n with
 |none=>exact⟨h0,h1⟩
 |some b=>exact this n b e
def kG(cs:List PV)(k:Nat)(v:PV)(h:k<cs.length):yl cs k [v]=cs.set k v:=by unfold yl;rw[AK,if_pos h];simp
def ub{l m:List Int}(c:k<m.length)(hl:l.length=m.length)(h:m[k]?=some z):yl ((m.take k++l.drop k).flatMap Enc.enc) k [I z]=(m.take (k+1)++l.drop (k+1)).flatMap Enc.enc:=by
 have e:∀l:List Int,l.flatMap Enc.enc=l.map I:=λl=>by
  induction l with
  |nil=>rfl
  |cons a l b=>rw[Ax,b];rfl
 rw[kG _ _ _ (by rw[e];simp;omega),e,e,<-List.map_set];congr 1;rw[AE,h,BQ _ _ EF,Az,Bt EA,Bs,List.append_assoc];congr 1;rw[AG EA];rfl
def vh(x:Inst)(l:List Int)(hx:x.y.length<=1048576)(hl:l.length=x.y.length+1):PP 139 [.agg (zB x),L l] (.agg [L (qV x (qN x l)),L (qN x l)]):=by
 have a0:=eg x hx;have y:=λ(S:Store) nx obs=>ZwG (S:=S) (nx:=nx) (obs:=obs) x hx;have g:=eh x l;have a1:∀k,k<x.y.length+1->(qN x l)[k]?=some (min (max (l.getD k 0) 0) (wO (λa=>arc x a k) k (x.y.length+1))):=λk f=>by unfold qN;rw[Ai,A4 f];rfl
 generalize qN x l=i at *;have a2:=kF x i;have a3:∀k,k<x.y.length+1->(qV x i)[k]?=some (wO (λb=>W (arc x k b-i.getD b 0)) k (x.y.length+1)):=λk f=>by unfold qV;rw[Ai,A4 f];rfl
 generalize qV x i=o at *;obtain⟨n,hn⟩:∃n,n=x.y.length+1:=⟨_,rfl⟩;rw[<-hn]at a0 y hl g a1 a2 a3;have e0:n<=1048577:=EA;have p:∀l:List Int,l.flatMap Enc.enc=l.map I:=λl=>by
  induction l with
  |nil=>rfl
  |cons a l ih=>rw[Ax,ih];rfl
 have q:(l.flatMap Enc.enc:List PV).length=n:=by rw[p];simpa using hl
 have a8:L l=.lst (l.flatMap Enc.enc:List PV).length (l.flatMap Enc.enc):=by show PV.lst l.length _=_;rw[q,hl]
 rw[a8];obtain⟨M,hM⟩:∃M:Nat->List Int,M=λk=>i.take k++l.drop k:=⟨_,rfl⟩;have a9:M 0=l:=by rw[hM];simp
 have b7:M n=i:=by rw[hM];show i.take n++l.drop n=i;rw[Ae EA,AT EA,AA]
 have b8:∀k,k<=n->(M k).length=n:=λk f=>by rw[hM];simp;omega
 have c6:∀k,k<n->(M k)[k]?=some (l.getD k 0):=λk f=>by rw[hM];show (i.take k++l.drop k)[k]?=_;rw[Am EF,Az,Bt EA,Bs,AV,BK,List.getD_eq_getElem?_getD,Ac EA];rfl
 have c7:∀k z,k<n->i[k]?=some z->yl ((M k).flatMap Enc.enc) k [I z]=(M (k+1)).flatMap Enc.enc:=λk z f y=>by rw[hM];exact ub EA EA y
 clear hM;refine zt func139 ntmps139 results139 λS nx hd=>?_;refine EK ?_;intro v0 v1;refine aG (some [nx]) (Row.pures [0,2] (.alt 1 (Row.pures [3] (.alt 4 (.alt 5 RN .stop) .stop)) (.alt 4 (.alt 1 (Row.pures [3] (.alt 5 RN .stop)) .stop) .stop))) mixed trivial ?_;refine⟨?_,λv2=>?_⟩;all_goals
  refine((y S nx _).mono ?_).v;rintro _ _ ⟨vo,vi,rfl,rfl⟩;simp only[Ab,Ag,Nat.reduceAdd,List.cons_append,AI];refine⟨by simp[yY],xl trivial ?_⟩;refine zJ (a0) trivial ?_;intros
 all_goals first
  |(refine QG 6 rfl λwo=>?_;refine QG 7 rfl λd=>?_;refine QG 8 rfl λwp=>?_)
  |(refine QG 7 rfl λwo=>?_;refine QG 8 rfl λd=>?_;refine QG 2 rfl λwp=>?_)
 all_goals
  refine EK ?_;refine λa4=>kC (id:=nx+10) (ver:=d) (e:=3) (l:=l.flatMap Enc.enc) rfl underlying26 ED (m:=n) rfl (by show PV.lst l.length _=_;rw[q,hl]) (by rw[zS];rfl) EB EA ?_;rw[q,Nat.min_self,Ae EA,AT EB,AA];refine⟨_,_,yi _ EA EB,zO a4 ?_⟩;refine EK ?_;intro v3;repeat apply za
  refine zb ?_;have c8:l.flatMap Enc.enc=(M 0).flatMap Enc.enc:=by rw[a9]
  refine zj (zC (λk:Nat=>k<=n) (λk=>[(4,.ptr (nx+1) v1 0),(5,.ptr (nx+11) wp 0),(6,I n),(7,.ptr (nx+12) v3 0),(23,I n),(24,I k)]) (λk=>[.cells v0 25 (zB x),.cells v1 113 [.sc (.slice none 0 0),.sc (.slice none 0 0)],.dead,.dead,.dead,.dead,.dead,.dead,.dead,.cells wo 3 (List.replicate n (I 0)),.cells d 3 ((M k).flatMap Enc.enc),.cells wp 113 [.sl (nx+9) wo 1 0 n,.sl (nx+10) d 1 0 n],.cells v3 243 (J5 x (.sl (nx+10) d 1 0 n))]) (λk=>n-k) 0 [] EB EB (by simp[c8]) ?_);rintro k f;refine EK ?_;by_cases hc:k<n
  .have d0:(k:Int)<n:=EA;refine za (zm EF ?_);refine zh (aA ?_);have d1:=a1 k hc;have r:=b8 k f;have d2:=c6 k hc;have s:=λz h=>c7 k z hc h;have u:=λ(T0:Store) (h0:T0 (nx+12)=.cells v3 243 (J5 x (.sl (nx+10) d 1 0 n)))=>tZ (S:=T0) n k EA EA 171 [.ptr (nx+12) v3 0] (λa=>arc x a k) (λa _ _ T hT=>ZwD x (.sl (nx+10) d 1 0 n) k a (by rw[hT _ (by rw[h0];simp),h0]));have d3:=W7 (l.getD k 0) 0 (wO (λa=>arc x a k) k n);generalize wO (λa=>arc x a k) k n=lv at *;generalize l.getD k 0=t at *;generalize min (max t 0) lv=z at *;have s:=s z d1;generalize a5:M (k+1)=mk1 at *;generalize M k=mk at *;obtain⟨t',tl,b1,b2,b3,f0⟩:=zF rfl mk k EA;obtain rfl:t'=t:=by rw[d2]at b1;exact(Option.some.inj b1).symm
   have c:k<mk.length:=EA;refine EK ?_;refine zA (some [nx+11]) (Row.pures [0,1,2,3,4,5,6,8,9,10,11] (.alt 7 (.alt 12 RU .stop) (.alt 12 (.alt 7 RU .stop) .stop))) mixed (zR f0 c hc r) ?_;refine⟨?_,?_⟩;all_goals
    refine((u _ (by rw[zS];rfl)).mono ?_).v;rintro _ _ ⟨rfl,rfl⟩;refine⟨by simp[yY],xl (zR f0 c hc r) ?_⟩;refine zJ (d3) (zR f0 c hc r) ?_;refine⟨by omega,?_⟩;refine zb ?_;exact zr (k+1) [] EA EA (by simp[zu k EA]) rfl (by simp[s,a5])
  obtain rfl:k=n:=EA;refine za (aE ?_);refine zx ?_;rw[b7];obtain⟨U,hU⟩:∃U:Nat->List Int,U=λj=>o.take j++(List.replicate k (0:Int)).drop j:=⟨_,rfl⟩;have d4:List.replicate k (I 0)=(U 0).flatMap Enc.enc:=by rw[hU,p];simp
  have d5:U k=o:=by rw[hU];show o.take k++(List.replicate k (0:Int)).drop k=o;rw[Ae EA,AT EB,AA]
  have d6:∀j,j<=k->(U j).length=k:=λj hj=>by rw[hU];simp;omega
  have d7:∀j z,j<k->o[j]?=some z->yl ((U j).flatMap Enc.enc) j [I z]=(U (j+1)).flatMap Enc.enc:=λj z hj y=>by rw[hU];exact ub EA EF y
  clear hU;repeat apply za
  refine zb ?_;refine zj (zC (λj:Nat=>j<=k) (λj=>[(4,.ptr (nx+1) v1 0),(5,.ptr (nx+11) wp 0),(6,I k),(7,.ptr (nx+12) v3 0),(43,I k),(44,I j)]) (λj=>[.cells v0 25 (zB x),.cells v1 113 [.sc (.slice none 0 0),.sc (.slice none 0 0)],.dead,.dead,.dead,.dead,.dead,.dead,.dead,.cells wo 3 ((U j).flatMap Enc.enc),.cells d 3 (i.flatMap Enc.enc),.cells wp 113 [.sl (nx+9) wo 1 0 k,.sl (nx+10) d 1 0 k],.cells v3 243 (J5 x (.sl (nx+10) d 1 0 k))]) (λj=>k-j) 0 [] EB EB (by simp[d4]) ?_);rintro j hj;refine EK ?_;by_cases hc:j<k;have d0:(j:Int)<k:=EA;refine za (zm EF ?_);refine zh (aA ?_);have d8:=a3 j hc;have a6:=d6 j hj;have w:=λz h=>d7 j z hc h;have u:=λ(T0:Store) (h0:T0 (nx+12)=.cells v3 243 (J5 x (.sl (nx+10) d 1 0 k))) (h1:T0 (nx+10)=.cells d 3 (i.flatMap Enc.enc))=>tZ (S:=T0) k j EA EA 172 [.ptr (nx+12) v3 0] (λb=>W (arc x j b-i.getD b 0)) (λb hb _ T hT=>ZwE x i j b (by rw[hT _ (by rw[h0];simp),h0,g]) (by rw[hT _ (by rw[h1];simp),h1]) (by rw[List.getD_eq_getElem?_getD,Ac EA];rfl));generalize wO (λb=>W (arc x j b-i.getD b 0)) j k=lv at *;have w:=w lv d8;generalize d9:U (j+1)=u1 at *;generalize U j=uj at *;have c:j<uj.length:=EA;have a7:j<(uj.flatMap Enc.enc:List PV).length:=by rw[p];simpa using c
  refine EK ?_;refine zA (some [nx+11]) (Row.pures [0,1,2,3,4,5,6] (.alt 7 Rl .stop)) mixed (zR c a7 hc a6) ?_;refine((u _ (by rw[zS];rfl) (by rw[zS];rfl)).mono ?_).v;rintro _ _ ⟨rfl,rfl⟩;refine⟨by simp[yY],xl (zR c a7 hc a6) ?_⟩;refine⟨by omega,?_⟩;refine zb ?_;exact zr (j+1) [] EA EA (by simp[zu j EA]) rfl (by simp[w,d9]);obtain rfl:j=k:=EA;refine za (aE ?_);refine zx ?_;rw[d5];refine zY 9 rfl ?_;refine zY 10 rfl ?_;refine EK ?_;exact zg (zi hd EC (by simp[zp,a2,g]))
def ZwI(n:Nat)(z:Int):L (List.replicate n z)=.lst n (List.replicate n (I z)):=by
 show PV.lst _ _=_;rw[Cf];congr 1;induction n with
 |zero=>rfl
 |succ n a=>rw[Br,Ax,a];rfl
def ZwJ(x:Inst)(hx:x.y.length<=1048576):PP 96 [.agg (zB x)] (.agg [L (qV x (qN x (List.replicate (x.y.length+1) 2147483648))),L (qN x (List.replicate (x.y.length+1) 2147483648))]):=by
 have b:=eg x hx;have a:=vh x (List.replicate (x.y.length+1) 2147483648) hx EB;rw[ZwI]at a;generalize qN x (List.replicate (x.y.length+1) 2147483648)=i at *;generalize qV x i=o at *;obtain⟨n,hn⟩:∃n,n=x.y.length+1:=⟨_,rfl⟩;rw[<-hn]at b a;have j:n<=1048577:=EA;have d:=kE n;have e:(n:Int)<=140737488355328/\n*8<=281474976710656:=EA;refine zt func96 ntmps96 results96 λS nx l=>?_;refine EK ?_;intro v0 v1;refine EK ?_;refine zq b ?_;refine⟨e,λh=>?_⟩;repeat apply za
 refine zb ?_;have c:∀k,k<n->yl (List.replicate k (I 2147483648)++List.replicate (n-k) (I 0)) k [I 2147483648]=List.replicate (k+1) (I 2147483648)++List.replicate (n-(k+1)) (I 0):=λk m=>by rw[kG _ _ _ EF,BQ _ _ EB,Cf,Bs,show n-k=(n-(k+1))+1 by omega,Br,AW,Dt];simp
 refine zj (zC (λk:Nat=>k<=n) (λk=>[(1,.ptr nx v0 0),(2,.ptr (nx+1) v1 0),(3,.sl (nx+2) h 1 0 n),(9,I n),(10,I k)]) (λk=>[.cells v0 25 (zB x),.cells v1 113 [.sc (.slice none 0 0),.sc (.slice none 0 0)],.cells h 3 (List.replicate k (I 2147483648)++List.replicate (n-k) (I 0))]) (λk=>n-k) 0 [] EB EB (by simp[d]) ?_);rintro k m;refine EK ?_;by_cases hc:k<n;refine za (zm EF ?_);refine zh (aA ?_);have hs:=c k hc;have hl:(List.replicate k (I 2147483648)++List.replicate (n-k) (I 0)).length=n:=EF;generalize f:List.replicate (k+1) (I 2147483648)++List.replicate (n-(k+1)) (I 0)=c1 at *;generalize List.replicate k (I 2147483648)++List.replicate (n-k) (I 0)=c0 at *;have g:k<c0.length:=EA;refine EK ?_;refine ze [] (zn hc g) ?_;refine⟨by omega,?_⟩;refine zb ?_;exact zr (k+1) [] EA EA (by simp[zu k EA]) rfl (by simp only[hs,f,AA]);obtain rfl:k=n:=EA;refine za (aE ?_);refine zx ?_;rw[Bs,List.replicate_zero,AA];refine zY 2 rfl ?_;refine EK ?_;refine zq a ?_;exact EL l
def ZwK(x:Inst)(a b:List Int)(c:Nat)(d:Int)(hx:x.y.length<=1048576)(hb:b.length=x.y.length+1)(q:c<x.y.length+1):
  PP 100 [.agg (zB x),.agg [L a,L b],I c,I d] (.agg [L (qV x (qN x (b.set c (W (b.getD c 0-d))))),L (qN x (b.set c (W (b.getD c 0-d))))]):=by
 have h:=eg x hx;have f:=vh x (b.set c (W (b.getD c 0-d))) hx (by simpa using hb);generalize qN x (b.set c (W (b.getD c 0-d)))=i at *;generalize qV x i=o at *;obtain⟨t,tl,b1,b2,b3,w⟩:=zF rfl b c EA;have y:b.getD c 0=t:=by rw[List.getD_eq_getElem?_getD,b1];rfl
 rw[y]at f;have g:∀l:List Int,l.flatMap Enc.enc=l.map I:=λl=>by
  induction l with
  |nil=>rfl
  |cons a l z=>rw[Ax,z];rfl
 have j:yl (b.flatMap Enc.enc) c [I (W (t-d))]=(b.set c (W (t-d))).flatMap Enc.enc:=by rw[kG _ _ _ (by rw[g];simp;omega),g,g,List.map_set]
 have r:(b.set c (W (t-d))).length=b.length:=BP;have s:L (b.set c (W (t-d)))=.lst b.length ((b.set c (W (t-d))).flatMap Enc.enc):=by show PV.lst _ _=_;rw[r]
 rw[s]at f;obtain⟨n,hn⟩:∃n,n=x.y.length+1:=⟨_,rfl⟩;rw[<-hn]at h q hb;have a0:n<=1048577:=EA;have a1:=kE n;have u:(n:Int)<=140737488355328/\n*8<=281474976710656:=EA;have k:(b.flatMap Enc.enc:List PV).length=n:=by rw[g];simpa using hb
 have c1:¬(c:Int)<0:=EA;have v:c<b.length:=EA;rw[hb]at f;refine zt func100 ntmps100 results100 λS nx hd=>?_;refine EK ?_;intro v0 v1 v2;refine EK ?_;refine zq h ?_;refine⟨u,λv3=>?_⟩;refine EK ?_;refine λp=>kC (id:=nx+3) (ver:=v3) (e:=3) (l:=b.flatMap Enc.enc) rfl underlying26 ED (m:=n) rfl (by show PV.lst b.length _=_;rw[k,hb]) (by rw[zS];rfl) (by simp[qw]) EA ?_;rw[k,Nat.min_self,Ae EA,AT (by simp[qw]),AA];refine⟨_,_,yi _ EA EB,zO p ?_⟩;repeat apply za
 refine ze [(2,19)] (zn c1 q) ?_;refine aD ?_;refine ze [] (zD w v q) ?_;refine⟨by omega,?_⟩;rw[j];refine zY 3 rfl ?_;refine aF [] hb ?_;refine yP [] f hb ?_;exact EL hd
def ZwL(op:BinOp)(x y:Int):0<=bits op .u64 x y/\bits op .u64 x y<18446744073709551616:=by have h:=wf_bits op .u64 x y;simp[Lit.wf,IntKind.min,IntKind.max,IntKind.signed,IntKind.bits]at h;omega
abbrev xT(s:Int):List PV:=[.sc (.int .u64 s)]
def yX(s:Int):Int:=IntKind.u64.wrap (s+11400714819323198485)
def J6(s:Int):Int :=
 let a:=yX s;let b:=IntKind.u64.wrap (bits .xor .u64 a (a.fdiv (2^30))*13787848793156543929);let c:=IntKind.u64.wrap (bits .xor .u64 b (b.fdiv (2^27))*10723151780598845931)
 bits .xor .u64 c (c.fdiv (2^31))
def ZwM(s:Int):0<=J6 s/\J6 s<18446744073709551616:=by unfold J6;exact ZwL _ _ _
def QH{id:Nat}(a:yd nx S)(b:id<nx)(o:Ob):yd nx (S.set id o):=λi hi=>by rw[q10 _ _ _ _ EA];exact a i hi
theorem ZwN:IntKind.u64.bits=64:=rfl
def ZwO(s:Int){id v:Nat}(b:S id=.cells v 205 (xT s)):SP 145 [.ptr id v 0] S (λq S'=>q=.sc (.int .u64 (J6 s))/\S'=S.set id (.cells v 205 (xT (yX s)))):=by refine yr func145 ntmps145 results145 λnx c=>?_;have a:id<nx:=qB c b EB;have d:=λobs=>(zG (S:=S) (obs:=obs) a).trans b;have e:=λ(o:Ob) obs=>(zG (S:=S.set id o) (obs:=obs) a).trans (q11 _ _ _);have g1:¬nx<=id:=EA;refine EK ?_;refine aF [] (zn d g1) ?_;refine aF [] (zn e g1) ?_;refine EK ?_;refine EK ?_;refine EK ?_;exact zg ⟨_,_,rfl,⟨by simp[zp,J6,yX,ZwN],rfl⟩,zV (QH c a _)⟩
def xF(s:Int)(n:Nat):Nat:=(J6 s).toNat%n
def X4(s:Int)(h:0<n):xF s n<n:=Nat.mod_lt _ h
def aX(s:Int)(n:Nat)(h0:0<n)(hn:n<=4611686018427387904){id v:Nat}(c:S id=.cells v 205 (xT s)):SP 99 [.ptr id v 0,I n] S (λq S'=>q=I (xF s n)/\S'=S.set id (.cells v 205 (xT (yX s)))):=by
 have hb:=ZwM s;have g:=X4 s h0;have d:(J6 s).tmod (n:Int)=(xF s n:Int):=by unfold xF;obtain⟨m,hm⟩:=Au hb.1;rw[hm,AJ,AY EA];omega
 have e:IntKind.u64.wrap (n:Int)=n:=by rw[IntWalk.u64_in _ EA]
 have w2:IntKind.i64.wrap (xF s n:Int)=xF s n:=wr _ EA EA;have h:=λ(S:Store) c=>ZwO s (S:=S) (id:=id) (v:=v) c;generalize J6 s=r at *;generalize xF s n=k at *;refine yr func99 ntmps99 results99 λnx f=>?_;have a:id<nx:=qB f c EB;have i:=λobs=>(zG (S:=S) (obs:=obs) a).trans c;refine EK ?_;repeat apply za
 refine zb ?_;refine zk EF ?_;refine zh (aF [] (zD e d w2) ?_);refine λb=>((h _ (i _)).mono ?_).v;rintro _ _ ⟨rfl,rfl⟩;refine⟨S.set id (.cells v 205 (xT (yX s))),[],qE _ a,?_⟩;have j:¬n=0:=EA;refine xA [] (zR e d w2 j) b ?_;exact zg ⟨_,_,rfl,⟨by simp[zp],rfl⟩,zV (QH f a _)⟩
def vm(s:Int)(a:yd nx S):SP 97 [I s] S (λq S'=>∃v,q=.ptr nx v 0/\S'=S.set nx (.cells v 205 (xT (IntKind.u64.wrap s)))):=by refine Z7 a func97 ntmps97 results97 ?_;refine EK ?_;refine EK ?_;intro v0;exact zg ⟨_,_,rfl,⟨v0,by simp[zp],rfl⟩,Xv (j:=0) a EB⟩
abbrev X5(x:Inst)(p:zy)(a o d:Nat)(b:Int):List PV:=[I x.days,I x.X,I x.Q,I x.len,L x.y,L x.O,L p,I a,I o,I d,I b]
def ZwP{x:Inst}{p:zy}(h:PlanG x n p)(d:Nat)(b:Int):PlanG x n (u9 x p d b).1:=by unfold u9;split;exact h;split;exact h;refine⟨h.a,h.ad,by rw[BP];exact h.len,λe f=>?_⟩;obtain q|q:=BH f;exact h.ab e q;rw[q];rename_i h1 h2;have c:(d:Int).toNat<p.length:=EA;refine(tT (by have:=h.ad;omega) h.a.h (h.ab _ ?_) b).1;rw[List.getD_eq_getElem?_getD,Ac c];exact AZ c
def ZwQ{x:Inst}{p:zy}(h:PlanG x n p)(a o d:Nat)(b:Int)(j:a<x.y.length){id v:Nat}(e:S id=.cells v 265 (X5 x p a o d b)):
  SP 190 [.ptr id v 0] S (λ_ S'=>S'=S.set id (.cells v 265 (X5 x (vX x n p [a]).1 a o d b))):=by
 have f:=Zwx h a j;generalize vX x n p [a]=r at *;obtain⟨q,ok⟩:=r;simp only at f ⊢;refine yr func190 ntmps190 results190 λnx g=>?_;have c:id<nx:=qB g e EB;have i:=λobs=>(zG (S:=S) (obs:=obs) c).trans e;have g1:¬nx<=id:=EA;refine zA (some []) (Row.pures [0,1,2,3,5,6,7,9,10,11] (.alt 4 (.alt 8 (.alt 12 Rb .stop) (.alt 12 (.alt 8 Rb .stop) .stop)) (.alt 8 (.alt 4 (.alt 12 Rb .stop) (.alt 12 (.alt 4 Rb .stop) .stop)) (.alt 12 (.alt 4 (.alt 8 Rb .stop) (.alt 8 (.alt 4 Rb .stop) .stop)) .stop)))) mixed (zn i g1) ?_
 repeat' refine And.intro ?_ ?_
 all_goals
  refine zJ (f) (zn i g1) ?_;exact⟨_,_,rfl,by simp,zV (QH g c _)⟩
def ZwR{x:Inst}{p:zy}(h:PlanG x n p)(a o d:Nat)(b:Int)(j:a<x.y.length)(ho:o<x.y.length){id v:Nat}(e:S id=.cells v 265 (X5 x p a o d b)):
  SP 191 [.ptr id v 0] S (λ_ S'=>S'=S.set id (.cells v 265 (X5 x (Yj x n p a o).1 a o d b))):=by
 have f:=Zwy h a o j ho;generalize Yj x n p a o=r at *;obtain⟨q,ok⟩:=r;simp only at f ⊢;refine yr func191 ntmps191 results191 λnx g=>?_;have c:id<nx:=qB g e EB;have i:=λobs=>(zG (S:=S) (obs:=obs) c).trans e;have g1:¬nx<=id:=EA;refine zA (some []) (Row.pures [0,1,2,3,5,6,7,9,10,11,13,14,15] (.alt 4 (.alt 8 (.alt 12 (.alt 16 R0 .stop) (.alt 16 (.alt 12 R0 .stop) .stop)) (.alt 12 (.alt 8 (.alt 16 R0 .stop) (.alt 16 (.alt 8 R0 .stop) .stop)) (.alt 16 (.alt 8 (.alt 12 R0 .stop) (.alt 12 (.alt 8 R0 .stop) .stop)) .stop))) (.alt 8 (.alt 4 (.alt 12 (.alt 16 R0 .stop) (.alt 16 (.alt 12 R0 .stop) .stop)) (.alt 12 (.alt 4 (.alt 16 R0 .stop) (.alt 16 (.alt 4 R0 .stop) .stop)) (.alt 16 (.alt 4 (.alt 12 R0 .stop) (.alt 12 (.alt 4 R0 .stop) .stop)) .stop))) (.alt 12 (.alt 4 (.alt 8 (.alt 16 R0 .stop) (.alt 16 (.alt 8 R0 .stop) .stop)) (.alt 8 (.alt 4 (.alt 16 R0 .stop) (.alt 16 (.alt 4 R0 .stop) .stop)) (.alt 16 (.alt 4 (.alt 8 R0 .stop) (.alt 8 (.alt 4 R0 .stop) .stop)) .stop))) (.alt 16 (.alt 4 (.alt 8 (.alt 12 R0 .stop) (.alt 12 (.alt 8 R0 .stop) .stop)) (.alt 8 (.alt 4 (.alt 12 R0 .stop) (.alt 12 (.alt 4 R0 .stop) .stop)) (.alt 12 (.alt 4 (.alt 8 R0 .stop) (.alt 8 (.alt 4 R0 .stop) .stop)) .stop))) .stop))))) mixed (zn i g1) ?_
 repeat' refine And.intro ?_ ?_
 all_goals
  refine zJ (f) (zn i g1) ?_;exact⟨_,_,rfl,by simp,zV (QH g c _)⟩
def ZwS{x:Inst}{p:zy}(h:PlanG x n p)(a o d:Nat)(b:Int)(hb:b<=9223372036854775807){id v:Nat}(e:S id=.cells v 265 (X5 x p a o d b)):
  SP 192 [.ptr id v 0] S (λ_ S'=>S'=S.set id (.cells v 265 (X5 x (u9 x p d b).1 a o d b))):=by
 have f:=Zws h.m d b hb;generalize u9 x p d b=r at *;obtain⟨q,ok⟩:=r;simp only at f ⊢;refine yr func192 ntmps192 results192 λnx g=>?_;have c:id<nx:=qB g e EB;have i:=λobs=>(zG (S:=S) (obs:=obs) c).trans e;have g1:¬nx<=id:=EA;refine zA (some []) (Row.pures [0,1,2,3,5,6,7,9,10,11,13,14,15] (.alt 4 (.alt 8 (.alt 12 (.alt 16 R0 .stop) (.alt 16 (.alt 12 R0 .stop) .stop)) (.alt 12 (.alt 8 (.alt 16 R0 .stop) (.alt 16 (.alt 8 R0 .stop) .stop)) (.alt 16 (.alt 8 (.alt 12 R0 .stop) (.alt 12 (.alt 8 R0 .stop) .stop)) .stop))) (.alt 8 (.alt 4 (.alt 12 (.alt 16 R0 .stop) (.alt 16 (.alt 12 R0 .stop) .stop)) (.alt 12 (.alt 4 (.alt 16 R0 .stop) (.alt 16 (.alt 4 R0 .stop) .stop)) (.alt 16 (.alt 4 (.alt 12 R0 .stop) (.alt 12 (.alt 4 R0 .stop) .stop)) .stop))) (.alt 12 (.alt 4 (.alt 8 (.alt 16 R0 .stop) (.alt 16 (.alt 8 R0 .stop) .stop)) (.alt 8 (.alt 4 (.alt 16 R0 .stop) (.alt 16 (.alt 4 R0 .stop) .stop)) (.alt 16 (.alt 4 (.alt 8 R0 .stop) (.alt 8 (.alt 4 R0 .stop) .stop)) .stop))) (.alt 16 (.alt 4 (.alt 8 (.alt 12 R0 .stop) (.alt 12 (.alt 8 R0 .stop) .stop)) (.alt 8 (.alt 4 (.alt 12 R0 .stop) (.alt 12 (.alt 4 R0 .stop) .stop)) (.alt 12 (.alt 4 (.alt 8 R0 .stop) (.alt 8 (.alt 4 R0 .stop) .stop)) .stop))) .stop))))) mixed (zn i g1) ?_
 repeat' refine And.intro ?_ ?_
 all_goals
  refine zJ (f) (zn i g1) ?_;exact⟨_,_,rfl,by simp,zV (QH g c _)⟩
def Jf(x:Inst)(n:Nat)(p:zy)(s b:Int):zy :=
 if x.y.length=0 then p else
  (u9 x (Yj x n (vX x n p [xF s x.y.length]).1 (xF s x.y.length) (xF (yX s) x.y.length)).1 (xF (yX (yX s)) n) b).1
def X6(x:Inst)(s:Int):Int:=if x.y.length=0 then s else yX (yX (yX s))
def ZwT{x:Inst}{p:zy}(h:PlanG x n p)(s b:Int):PlanG x n (Jf x n p s b):=by unfold Jf;split;exact h;rename_i h0;have a:=X4 s (n:=x.y.length) EA;have ho:=X4 (yX s) (n:=x.y.length) EA;exact ZwP (tY (kB h _ EB (by simpa using a)).1 _ _ a ho).1 _ _
def J7(p q1 q2 q3:zy)(k:Nat):zy:=if k=0 then p else if k=1 then q1 else if k=2 then q2 else q3
def vL(p a b c:zy):J7 p a b c 0=p:=if_pos rfl
def wq(p a b c:zy):J7 p a b c 1=a:=by unfold J7;rw[if_neg EH,if_pos rfl]
def xo(p b a c:zy):J7 p b a c 2=a:=by unfold J7;rw[if_neg EH,if_neg EH,if_pos rfl]
def ys(p b c a:zy):J7 p b c a 3=a:=by unfold J7;rw[if_neg EH,if_neg EH,if_neg EH]
def ZwU{x:Inst}{p:zy}(h:PlanG x n p)(a4:0<n)(s b:Int)(hb:b<=9223372036854775807){id v:Nat}(g:S id=.cells v 205 (xT s)):
  SP 148 [.agg (zB x),.agg [L p],.ptr id v 0,I b] S (λq S'=>q=.agg [L (Jf x n p s b)]/\S'=S.set id (.cells v 205 (xT (X6 x s)))):=by
 have t:=h.clone;have h6:=h.ad;have a5:=h.a.days;have a9:=h.a.ac;by_cases hm:x.y.length=0;have e1:Jf x n p s b=p:=by unfold Jf;rw[if_pos hm]
 have e2:X6 x s=s:=by unfold X6;rw[if_pos hm]
 rw[e1,e2];refine yr func148 ntmps148 results148 λnx u=>?_;have f:id<nx:=qB u g EB;refine EK ?_;intro v0 v1 v2;refine aG (some [nx,nx+1]) Ro mixed trivial ?_;refine zJ (t) trivial ?_;intro v3;refine EK ?_;repeat apply za
 refine zb ?_;refine zm (by simp[CD.1 hm]) ?_;refine EK ?_;have eS:S.set id (.cells v 205 (xT s))=S:=by rw[<-g];funext i;by_cases hi:i=id;subst hi;exact q11 _ _ _;exact q10 _ _ _ _ hi
 rw[eS];exact zg ⟨_,S,EC,⟨by simp[zp],rfl⟩,zV u⟩;have e1:Jf x n p s b=(u9 x (Yj x n (vX x n p [xF s x.y.length]).1 (xF s x.y.length) (xF (yX s) x.y.length)).1 (xF (yX (yX s)) n) b).1:=by unfold Jf;rw[if_neg hm]
 have e2:X6 x s=yX (yX (yX s)):=by unfold X6;rw[if_neg hm]
 rw[e1,e2];have ha:=X4 s (n:=x.y.length) EA;have ho:=X4 (yX s) (n:=x.y.length) EA;have b7:=X4 (yX (yX s)) a4;have b1:=λ(S:Store) g=>aX s x.y.length EA EA (S:=S) (id:=id) (v:=v) g;have b2:=λ(S:Store) g=>aX (yX s) x.y.length EA EA (S:=S) (id:=id) (v:=v) g;have b3:=λ(S:Store) g=>aX (yX (yX s)) n EA EA (S:=S) (id:=id) (v:=v) g;rw[<-a5]at b3;have r:PlanG x n (vX x n p [xF s x.y.length]).1:=(kB h _ EB (by simpa using ha)).1;have y:=(tY r _ _ ha ho).1;generalize xF s x.y.length=a at *;generalize xF (yX s) x.y.length=o at *;generalize xF (yX (yX s)) n=d at *;generalize yX (yX s)=s2 at *;generalize yX s=s1 at *;generalize yX s2=s3 at *;have r1:=λ(S:Store) (i w:Nat) g=>ZwQ h a o d b ha (S:=S) (id:=i) (v:=w) g;have r2:=λ(S:Store) (i w:Nat) g=>ZwR r a o d b ha ho (S:=S) (id:=i) (v:=w) g;have r3:=λ(S:Store) (i w:Nat) g=>ZwS y a o d b hb (S:=S) (id:=i) (v:=w) g;clear r y;generalize (u9 x (Yj x n (vX x n p [a]).1 a o).1 d b).1=q3 at *;generalize (Yj x n (vX x n p [a]).1 a o).1=q2 at *;generalize (vX x n p [a]).1=q1 at *;clear e1 e2;refine yr func148 ntmps148 results148 λnx u=>?_;have f:id<nx:=qB u g EB;have xw:=λobs=>(zG (S:=S) (obs:=obs) f).trans g;refine EK ?_;intro v0 v1 v2;refine aG (some [nx,nx+1]) Ro mixed trivial ?_;refine zJ (t) trivial ?_;intro v3;refine EK ?_;repeat apply za
 refine zb ?_;have a6:¬x.y=[]:=λe=>hm (by rw[e];rfl);refine zk (by simp[a6]) ?_;refine zh (EK ?_);refine λc=>((b1 _ (xw _)).mono ?_).v;rintro _ _ ⟨rfl,rfl⟩;refine⟨_,_,qE _ f,zO c ?_⟩;have z:(S.set id (.cells v 205 (xT s1))) id=.cells v 205 (xT s1):=q11 _ _ _;have a0:=QH u f (.cells v 205 (xT s1));obtain⟨S1,j⟩:∃S1,S1=S.set id (.cells v 205 (xT s1)):=⟨_,rfl⟩;rw[<-j]at z a0 ⊢;have a7:=λobs=>(zG (S:=S1) (obs:=obs) f).trans z;refine EK ?_;refine λc=>((b2 _ (a7 _)).mono ?_).v;rintro _ _ ⟨rfl,rfl⟩;refine⟨_,_,qE _ f,zO c ?_⟩;have a1:(S1.set id (.cells v 205 (xT s2))) id=.cells v 205 (xT s2):=q11 _ _ _;have a2:=QH a0 f (.cells v 205 (xT s2));obtain⟨S2,l⟩:∃S2,S2=S1.set id (.cells v 205 (xT s2)):=⟨_,rfl⟩;rw[<-l]at a1 a2 ⊢;have a8:=λobs=>(zG (S:=S2) (obs:=obs) f).trans a1;refine EK ?_;refine λc=>((b3 _ (a8 _)).mono ?_).v;rintro _ _ ⟨rfl,rfl⟩;refine⟨_,_,qE _ f,zO c ?_⟩;have a3:=QH a2 f (.cells v 205 (xT s3));obtain⟨S3,m⟩:∃S3,S3=S2.set id (.cells v 205 (xT s3)):=⟨_,rfl⟩;rw[<-m]at a3 ⊢;repeat apply za
 refine zb ?_;refine zj (zC (λk:Nat=>k<=3) (λk=>[(8,.ptr (nx+2) v2 0),(9,.ptr (nx+3) v3 0),(53,.lst 3 [.fn (.func 190) [.ptr (nx+3) v3 0] [],.fn (.func 191) [.ptr (nx+3) v3 0] [],.fn (.func 192) [.ptr (nx+3) v3 0] []]),(54,I 3),(55,I k)]) (λk=>[.cells v0 25 (zB x),.cells v1 31 [L p],.cells v2 31 [yB],.cells v3 265 (X5 x (J7 p q1 q2 q3 k) a o d b)]) (λk=>3-k) 0 [] EB EB (by simp[vL]) ?_);rintro k hk;refine EK ?_;refine za (zv rfl (λhc=>?_) (λhc=>?_));simp at hc;refine zh (aA ?_);obtain rfl|rfl|rfl:k=0\/k=1\/k=2:=EA;refine EK ?_;refine zb ?_;refine λc=>((r1 _ (nx+3) v3 (by rw[zS];simp[vL])).mono ?_).v;rintro _ _ rfl;refine⟨S3,_,(by rw[yi _ EA EB,AM]),zO c ?_⟩;refine zb ?_;exact zr 1 [] EA EA (by simp;exact wr 1 EA EA) rfl (by simp[wq]);refine EK ?_;refine zb ?_;refine λc=>((r2 _ (nx+3) v3 (by rw[zS];simp[wq])).mono ?_).v;rintro _ _ rfl;refine⟨S3,_,(by rw[yi _ EA EB,AM]),zO c ?_⟩;refine zb ?_;exact zr 2 [] EA EA (by simp;exact wr 2 EA EA) rfl (by simp[xo]);refine EK ?_;refine zb ?_;refine λc=>((r3 _ (nx+3) v3 (by rw[zS];simp[xo])).mono ?_).v;rintro _ _ rfl;refine⟨S3,_,(by rw[yi _ EA EB,AM]),zO c ?_⟩;refine zb ?_;exact zr 3 [] EA EA (by simp;exact wr 3 EA EA) rfl (by simp[ys]);simp at hc;obtain rfl:k=3:=EA;refine zx ?_;rw[ys];refine EK ?_;have eS:S.set id (.cells v 205 (xT s3))=S3:=by rw[m,l,j,Store.set_set,Store.set_set]
 rw[eS];exact zg ⟨_,S3,EC,⟨by simp[zp],rfl⟩,zV a3⟩
theorem yz{x:Inst}{a:Cust->List Int->List Visit × Bool}{b:Int}:∀(k:Nat) (pr:List (List Int)),Ye x.y.length n pr->(YR x a b n k pr).2=0->∃c,Ye x.y.length n c/\(jr x a c).2=0/\xq (j7 x (jr x a c).1 b n)=0/\(YR x a b n k pr).1=vn x (jr x a c).1 b n
 |0,_,_,h=>by simp[YR]at h
 |k+1,pr,d,h=>by unfold YR at h ⊢;by_cases h1:(jr x a pr).2≠0;rw[if_pos h1]at h;cases h;rw[if_neg h1]at h ⊢;by_cases h2:xq (j7 x (jr x a pr).1 b n)=0;rw[if_pos h2]at h ⊢;exact⟨pr,d,by simpa using h1,h2,rfl⟩;rw[if_neg h2]at h ⊢;by_cases h3:(j7 x (jr x a pr).1 b n).any Qu=true;rw[if_pos h3]at h;cases h;rw[if_neg h3]at h ⊢;exact yz k _ (aH _ d n) h
def vY(v:List Visit):Prop:=(v.map (·.d)).Pairwise (· < ·)
theorem zc:∀(v:List Visit),vY v->∀k:Nat,(v.filter λw=>decide (w.d<((k+1:Nat):Int)))=(v.filter λw=>decide (w.d<(k:Int)))++(v.filter λw=>decide (w.d=(k:Int)))
 |[],_,_=>rfl
 |w::v,h,k=>by
  have h':vY v:=by unfold vY at h ⊢;rw[Ap,Bl]at h;exact h.2
  have h1:∀u∈v,w.d<u.d:=by unfold vY at h;rw[Ap,Bl]at h;exact λu b=>h.1 _ (Cs b)
  have a:=zc v h' k;by_cases c1:w.d<(k:Int);have c2:w.d<((k+1:Nat):Int):=EA;have c3:¬w.d=(k:Int):=EA;rw[B7 (by simpa using c2),B7 (by simpa using c1),BE (by simpa using c3),a];rfl;have c:(v.filter λw=>decide (w.d<(k:Int)))=[]:=by rw[BA];intro u b;have:=h1 u b;simp;omega
  rw[c]at a;by_cases c3:w.d=(k:Int);have c2:w.d<((k+1:Nat):Int):=EA;rw[B7 (by simpa using c2),BE (by simpa using c1),B7 (by simpa using c3),a,c];rfl;have c2:¬w.d<((k+1:Nat):Int):=EA;rw[BE (by simpa using c2),BE (by simpa using c1),BE (by simpa using c3),a,c]
theorem Ep{v:List Visit}(h:vY v)(h0:∀w∈v,0<=w.d):∀k:Nat,(List.range k).flatMap (λd:Nat=>v.filter λw=>decide (w.d=(d:Int)))=v.filter λw=>decide (w.d<(k:Int))
 |0=>by symm;rw[List.range_zero,Cu,BA];intro u a;have:=h0 u a;simp;omega
 |k+1=>by rw[AC,Ar,Ep h h0 k,zc v h k];simp
def ZwV{v:List Visit}(h:vY v)(h0:∀w∈v,0<=w.d/\w.d<n):(List.range n).flatMap (λd:Nat=>v.filter λw=>decide (w.d=(d:Int)))=v:=by rw[Ep h λw a=>(h0 w a).1];rw[Dy];intro w a;simpa using (h0 w a).2
def Er{v:List Visit}(h:vY v)(d:Int):(v.filter λw=>decide (w.d=d))=[]\/∃w,w.d=d/\(v.filter λw=>decide (w.d=d))=[w]:=by
 have h1:=sp (l:=v) (h.imp λh=>Dk h) d;generalize a:(v.filter λw=>decide (w.d=d))=m at *
 match m,h1,a with
 |[],_,_=>exact .inl rfl
 |[w],_,a =>
 refine .inr ⟨w,?_,rfl⟩;have:w∈v.filter λw=>decide (w.d=d):=by rw[a];simp
 simpa using (AX.1 this).2
 |_::_::_,h1,_=>simp at h1
theorem Es(f:Nat->Int):∀(k i:Nat),yQ i ((List.range' i k).map f)=(List.range' i k).flatMap λd=>if 0<f d then [⟨(d:Int),f d⟩] else []
 |0,i=>by simp[yQ]
 |k+1,i=>by rw[List.range'_succ,Ap,Ax,<-Es f k (i+1)];simp only[yQ];split<;>rfl
def ZwW(f:Nat->Int)(k:Nat):yQ 0 ((List.range k).map f)=(List.range k).flatMap λd=>if 0<f d then [⟨(d:Int),f d⟩] else []:=by rw[List.range_eq_range'];exact Es f k 0
def kH{v:List Visit}(b:GoodV n v)(hn:n<=60)(h:vY v):yQ 0 (z8 v n)=v:=by
 unfold z8;have e:(min (max (n:Int) 0) 64).toNat=n:=EA;rw[e,ZwW];conv=>rhs;rw[<-ZwV h λw a=>(b.ok w a).1]
 have key:∀d:Nat,(if 0<((v.filter λs=>decide (s.d=(d:Int))).map (·.q)).sum then [(⟨(d:Int),((v.filter λs=>decide (s.d=(d:Int))).map (·.q)).sum⟩:Visit)] else [])=v.filter λw=>decide (w.d=(d:Int)):=by
  intro d;obtain q|⟨w,f,c⟩:=Er h d;rw[q];rfl;have a:w∈v:=by
   have:w∈v.filter λw=>decide (w.d=(d:Int)):=by rw[c];simp
   exact(AX.1 this).1
  have:=(b.ok w a).2;rw[c];simp only[Ap,A8,AL,Dl,CY];rw[if_pos EA,<-f]
 have g:(λd:Nat=>if 0<((v.filter λs=>decide (s.d=(d:Int))).map (·.q)).sum then [(⟨(d:Int),((v.filter λs=>decide (s.d=(d:Int))).map (·.q)).sum⟩:Visit)] else [])=λd:Nat=>v.filter λw=>decide (w.d=(d:Int)):=funext key;rw[g]
def ww(r:Int)(k:Nat):r*((k+1:Nat):Int)=r*(k:Int)+r:=by rw[CM,B6];simp
theorem kI(size rate:Int):∀(a b:List Int) (there:Int),yk size rate there (a++b)=(yk size rate there a).bind λl=>(yk size rate (there+a.sum-rate*a.length) b).map (l++·)
 |[],b,there=>by have e:there+([]:List Int).sum-rate*(([]:List Int).length:Int)=there:=EB;show yk size rate there b=(yk size rate (there+([]:List Int).sum-rate*(([]:List Int).length:Int)) b).map ([]++·);rw[e];cases yk size rate there b<;>rfl
 |q::a,b,there=>by
  rw[List.cons_append,yk,yk];split;rfl;rw[kI size rate a b];have e:there+q-rate+a.sum-rate*(a.length:Int)=there+(q::a).sum-rate*((q::a).length:Int):=by rw[AL,Ab,ww];omega
  rw[e];cases yk size rate (there+q-rate) a with
  |none=>rfl
  |some l =>
  simp only[Cl,AR];cases yk size rate (there+(q::a).sum-rate*((q::a).length:Int)) b<;>simp
theorem kJ(a:0<=rate):∀(k:Nat) (t:Int),t<=size->0<=t-rate*k->∃l,yk size rate t (List.replicate k 0)=some l
 |0,t,_,_=>⟨[],rfl⟩
 |k+1,t,h1,h2=>by rw[ww]at h2;have b:0<=rate*(k:Int):=Bc a EA;obtain⟨l,hl⟩:=kJ a k (t+0-rate) EA EA;rw[Br,yk,if_neg EA,hl];exact⟨_,rfl⟩
theorem Et:∀k:Nat,(List.replicate k (0:Int)).sum=0
 |0=>rfl
 |k+1=>by rw[Br,AL,Et k];rfl
theorem Eu(rate size:Int):∀(a b:List Int) (n m:List Int),a.length=n.length->xC rate size (a++b) (n++m)=(xC rate size a n||xC rate size b m)
 |[],b,[],m,_=>by simp[xC]
 |z::a,b,x::n,m,h=>by rw[List.cons_append,List.cons_append,xC,xC,Eu rate size a b n m (by simpa using h),Bool.or_assoc]
 |[],b,_::_,m,h=>by simp at h
 |_::_,b,[],m,h=>by simp at h
theorem kK(rate size:Int):∀(k:Nat) (l:List Int),xC rate size (List.replicate k 0) l=false
 |0,l=>rfl
 |k+1,[]=>by simp[Br,xC]
 |k+1,x::l=>by simp[Br,xC,kK rate size k l]
theorem kL:∀(q:List Int) (there:Int) (l:List Int),yk size rate there q=some l->l.length=q.length
 |[],_,l,h=>by simp only[yk,Option.some.injEq]at h;subst h;rfl
 |q::qs,there,l,h=>by rw[yk]at h;split at h;cases h;obtain⟨m,hm,rfl⟩:=An.1 h;rw[Ab,Ab,kL qs _ m hm]
def Yk(v:List Visit)(hn:n<=60):(z8 v n).length=n:=by rw[aw];omega
def ZwX(v:List Visit){w:Visit}{d m:Nat}(c:w.d=d)(hv:∀u∈v,u.d<d)(e:d<m)(hm:m<=60):z8 (v++[w]) m=z8 v d++w.q::List.replicate (m-d-1) 0:=by
 apply Bg;intro i;have f:(min (max (m:Int) 0) 64).toNat=m:=EA;have g:(min (max (d:Int) 0) 64).toNat=d:=EA;by_cases hi:i<m;have k:(z8 (v++[w]) m)[i]?=some ((((v++[w]).filter λs=>decide (s.d=(i:Int))).map (·.q)).sum):=by unfold z8;rw[Ai,f,A4 hi];rfl
 rw[k,BM];obtain h|h|h:=Nat.lt_trichotomy i d;rw[As (by rw[Yk v EA];exact h)];have:(z8 v d)[i]?=some ((((v.filter λs=>decide (s.d=(i:Int))).map (·.q)).sum)):=by unfold z8;rw[Ai,g,A4 h];rfl
 rw[this,BE EF];simp;subst h;have a:(v.filter λs=>decide (s.d=(i:Int)))=[]:=by rw[BA];intro u b;have:=hv u b;simp;omega
 rw[a,Am (by rw[Yk v EA];exact Af _),Yk v EA,Bs,B7 (by simpa using c)];simp;have a:(v.filter λs=>decide (s.d=(i:Int)))=[]:=by rw[BA];intro u b;have:=hv u b;simp;omega
 rw[a,Am (by rw[Yk v EA];omega),Yk v EA,BE EF];obtain⟨j,l⟩:∃j,i-d=j+1:=⟨i-d-1,by omega⟩;rw[l,Bk,C8,if_pos EA];simp;rw[Ao (by rw[Yk _ hm];omega),Ao (by simp[Yk v (show d<=60 by omega)];omega)]
theorem J8(c:Cust)(a d:Int):(yO c a d).1=(if a<0 then c.H else c.size)-c.D*((if a<0 then d else d-a).toNat:Int):=rfl
variable {ds:List Int}
def ZwY{c:Cust}(hc:CustFits c)(f:c.H<=c.size){cap:Int}(hn:n<=60)(h:FilS c cap n ds):∀m:Nat,js ds<m->m<=n->0<=(yO c (js ds) m).1->∃l,yk c.size c.D c.H (z8 (qc c ds).1 m)=some l/\xC c.D c.size (z8 (qc c ds).1 m) l=false/\c.H+(z8 (qc c ds).1 m).sum-c.D*(m:Int)=(yO c (js ds) m).1:=by
 have g:=hc.D.1;induction h with
 |nil =>
 intro m _ hm h0;have e:z8 (qc c []).1 m=List.replicate m 0:=by show z8 [] m=_;rw[rT,show (min (max (m:Int) 0) 64).toNat=m by omega]
 have q:(yO c (js []) m).1=c.H-c.D*(m:Int):=by rw[J8];simp[js]
 rw[q]at h0 ⊢;obtain⟨l,hl⟩:=kJ (size:=c.size) g m c.H f EA;refine⟨l,by rw[e,hl],by rw[e];exact kK _ _ _ _,by rw[e];simp⟩
 |@snoc ds d h h1 h2 h3 r =>
 intro m hm s h0;rw[YS]at hm h0 ⊢;have i:=h.lo;obtain⟨k,rfl⟩:=Au (show 0<=d by omega);obtain⟨l,p,e2,t⟩:=r k h1 EA h3.1;obtain⟨v,q2,q3,q4⟩:=sY hc h3;have hb:z8 (qc c (ds++[(k:Int)])).1 m=z8 (qc c ds).1 k++(c.size-(yO c (js ds) k).1)::List.replicate (m-k-1) 0:=by
  have hf:(qc c (ds++[(k:Int)])).1=(qc c ds).1++[⟨k,c.size-(yO c (js ds) k).1⟩]:=by rw[aK];simp only[Qx];rw[sX,v]
  rw[hf];refine ZwX _ rfl (λu w=>?_) EA EA;have:u.d∈(qc c ds).1.map (·.d):=Cs w;rw[dR]at this;have:=i.2 _ this;show u.d<(k:Int);omega
 have j:=Yk (qc c ds).1 (n:=k) EA;rw[J8 c k m]at h0 ⊢;rw[if_neg EA,if_neg EA]at h0 ⊢;have x:((m:Int)-(k:Int)).toNat=(m-k-1)+1:=EA;rw[x,ww]at h0 ⊢;obtain⟨l2,o⟩:=kJ (size:=c.size) g (m-k-1) (c.size-c.D) EA EA;have a:c.H+(z8 (qc c ds).1 k).sum-c.D*((z8 (qc c ds).1 k).length:Int)+(c.size-(yO c (js ds) k).1)=c.size:=by rw[j,t];omega
 have y:0<=c.D*((m-k-1:Nat):Int):=Bc g EA;have b:yk c.size c.D c.H (z8 (qc c (ds++[(k:Int)])).1 m)=some (l++(c.size-c.D)::l2):=by rw[hb,kI,p,Cl,yk,a,if_neg EA,o];rfl
 refine⟨_,b,?_,?_⟩;rw[hb,Eu _ _ _ _ _ _ (kL _ _ _ p).symm,e2,xC,kK];simp;rw[hb,Bb,AL];have:(m:Int)=(k:Int)+((m-k-1+1:Nat):Int):=EA;have z:c.D*(m:Int)=c.D*(k:Int)+(c.D*((m-k-1:Nat):Int)+c.D):=by rw[this,B6,ww]
 rw[z,Et];omega
def ZwZ{c:Cust}{cap:Int}(h:FilS c cap n ds):vY (qc c ds).1:=by unfold vY;rw[dR];exact h.inc
def kM{v:List Visit}(c:GoodV n v)(h:vY v):Qs (z8 v n):=by
 intro z a;unfold z8 at a;obtain⟨d,-,rfl⟩:=Aj.1 a;obtain q|⟨w,-,b⟩:=Er h d;rw[q];simp;have e:w∈v:=by
  have:w∈v.filter λw=>decide (w.d=(d:Int)):=by rw[b];simp
  exact(AX.1 this).1
 have:=(c.ok w e).2;rw[b];simp;omega
def Zw0{c:Cust}{l:List Int}(a:Qs price)(h:yk c.size c.D c.H price=some l):yS c price=(l,0):=by
 have:price.any wK=false:=by rw[CB];intro z b;have:=a z b;simp[wK];omega
 unfold yS;rw[this,h];rfl
theorem Ev:∀(l:List Int) (i:Nat),∀w∈yQ i l,0<w.q/\w.q∈l
 |[],_=>by intro w a;cases a
 |z::l,i=>by
  have b:=Ev l (i+1);intro w a;simp only[yQ]at a;split at a;rcases Al.1 a with rfl|a
  exact⟨by assumption,by simp⟩;have:=b w a;exact⟨this.1,by simp[this.2]⟩;have:=b w a;exact⟨this.1,by simp[this.2]⟩
def Zw1{x:Inst}(h:InstA x n){b:Int}(h0:(xE x b).2=0):∃v pr,VsOk x.y.length n v/\Ye x.y.length n pr/\(xE x b).1=vn x v b n/\(∀d:Nat,d<n->(ZP x b (wv v d x.y.length)).2=0)/\∀i c,x.y[i]?=some c->v[i]?=some (qJ n x.Q c (pr.getD i [])).1/\(qJ n x.Q c (pr.getD i [])).2=true:=by
 have g:x.days.toNat=n:=by rw[h.days];rfl
 unfold xE aM at h0 ⊢;rw[g]at h0 ⊢;obtain⟨pr,e,f,e2,j⟩:=yz 8 _ (sG x n) h0;have hv:=tm h pr e f;obtain⟨c1,c2⟩:=tk f;refine⟨_,pr,hv,e,j,λd a=>?_,c2⟩;refine(iF _).1 e2 _ (Aj.2 ⟨_,Aj.2 ⟨d,AN.2 a,rfl⟩,rfl⟩)
def Zw2(c:Cust)(d:Int)(h1:1<=d)(i:d<=7):wT (xn c d) d=true:=by
 have hm:=sL c d h1 i;by_cases g:c.kind.tmod 2=0;have e:xn c d=⟨2,0,[],yM c.D 0 9,yM c.size 1 30,yM c.H 0 (yM c.size 1 30),yM c.Y 1 2,yM c.U 0 4⟩:=by unfold xn;rw[if_pos g]
 have a:=wF c.D 0 9 EA;have b:=wF c.size 1 30 EA;have s:=wF c.H 0 (yM c.size 1 30) EA;have r:=wF c.Y 1 2 EA;have h:=wF c.U 0 4 EA;rw[e];simp[wT,yI,JW,Q8];omega;have e:xn c d=⟨1,yM c.R 1 15,Yy c.J d,0,0,0,0,0⟩:=by unfold xn;rw[if_neg g]
 have a:=wF c.R 1 15 EA;rw[e]at hm ⊢;obtain⟨j,-⟩:=hm.per rfl;have hl:1<=(Yy c.J d).length/\(Yy c.J d).length<=64:=by unfold Yy;split;simp;rename_i hn;have:0<c.J.length:=BD.2 hn;simp only[List.length_map,Az];omega
 simp only[wT,if_true,Aw,yI,decide_eq_true_eq,Yd,YI,Ay];refine⟨⟨by omega,λp f=>?_,by omega⟩,by simp⟩;unfold Qo;have:yC p d.toNat 64=[]:=by rw[rY,BA];intro z k;have:=j p f z k;simp;omega
 rw[this];decide
theorem Ew(n:Nat)(row:Nat->List Int)(h:∀a,a<n->(row a).length=n/\(row a).getD a 0=0/\∀z∈row a,0<=z/\z<=2147483648):∀k a:Nat,a+k<=n->YJ n a ((List.range' a k).map row)=true
 |0,_,_=>rfl
 |k+1,a,b=>by obtain⟨h1,h2,h3⟩:=h a EA;rw[List.range'_succ,Ap];simp only[YJ,Ew n row h k (a+1) EA,DT,h1,h2,decide_true,CE,Ay,yI,decide_eq_true_eq];exact h3
def Zw3(x:Inst):jq (yW x)=true:=by
 have h1:=aI x;have h2:=UH x;have h3:=UI x;have g:=UJ x;have h:=UK x;unfold jq;simp only[Aw,Ay,decide_eq_true_eq,yI];refine⟨⟨⟨⟨⟨⟨by omega,by omega⟩,by omega⟩,by omega⟩,by omega⟩,λc hc=>?_⟩,?_⟩;obtain⟨c0,rfl⟩:=iT x hc;exact Zw2 c0 _ h1.1 h1.2;have e:(yW x).y.length=(x.y.take 6).length:=by simp[yW]
 rw[e];unfold YK;have e2:(yW x).O=(List.range' 0 ((x.y.take 6).length+1)).map λa=>Zj x (x.y.take 6).length a:=by rw[<-List.range_eq_range'];rfl
 rw[e2,Ew _ _ (λa f=>?_) _ _ EA];simp;refine⟨by simp[Zj],?_,λz d=>?_⟩;unfold Zj;rw[List.getD_eq_getElem?_getD,Ai,A4 f];simp;unfold Zj at d;obtain⟨b,-,rfl⟩:=Aj.1 d;split;have:=wF (arc x a b) 0 60 EA;omega;omega
theorem kN{c:Cust}{cap:Int}(price:List Int){a:List Stp}{d i:Nat}(b:YP c n cap a d ((i:Int)-1)):∀j:Nat,i<j->jS c n cap price a d j≠zs
 |0,h=>by omega
 |j+1,h=>by
  have f:∀(k l:Int),(⟨true,k,l⟩:Stp)≠zs:=by intro k l e;injection e with e _ _;cases e
  rw[aL];unfold Jb;by_cases g:i=j;subst g;rw[if_pos b];split;exact f _ _;rename_i h2;exact λe=>h2 (.inl e);have m:=kN price b j EA;split;split;exact f _ _;exact m;exact m
theorem Ex(c:Cust)(n:Nat)(cap:Int)(price:List Int):∀m d:Nat,d<m->(y8 c n cap price m).getD d zs=jS c n cap price (y8 c n cap price d) d (d+1)
 |0,_,h=>by omega
 |m+1,d,h=>by have hl:=XZ c n cap price m;rw[List.getD_eq_getElem?_getD];simp only[y8];by_cases a:d<m;rw[As EA,<-List.getD_eq_getElem?_getD,Ex c n cap price m d a];obtain rfl:d=m:=EA;rw[Am EA,hl,Bs];rfl
def Ey{l:List Int}(h:yk size rate a (price++[z])=some l):(∃l',yk size rate a price=some l')/\0<=a+price.sum-rate*price.length+z-rate:=by
 rw[kI]at h;cases e:yk size rate a price with
 |none=>rw[e]at h;cases h
 |some l' =>
 rw[e,Cl]at h;refine⟨⟨_,rfl⟩,?_⟩;rw[yk]at h;split at h;cases h;omega
def Zw4(c:Cust){m:Nat}(h:a<m)(h1:-1<=a):(yO c a ((m+1:Nat):Int)).1=(yO c a m).1-c.D:=by rw[J8,J8];by_cases h0:a<0;rw[if_pos h0,if_pos h0,if_pos h0,AJ,AJ,ww];omega;rw[if_neg h0,if_neg h0,if_neg h0];have e:(((m+1:Nat):Int)-a).toNat=((m:Int)-a).toNat+1:=EA;rw[e,ww];omega
def Ez(s:Nat)(d:Int)(i:Nat)(h:0<=d/\d<64):(jp s d).testBit i=(s.testBit i||decide (d=(i:Int))):=by obtain⟨k,rfl⟩:=Au h.1;unfold jp;rw[if_pos EA,AJ,DJ,CV];congr 1;rw[decide_eq_decide];omega
theorem kO(i:Nat):∀(l:List Int) (s:Nat),(∀d∈l,0<=d/\d<64)->(l.foldl jp s).testBit i=(s.testBit i||decide ((i:Int)∈l))
 |[],s,_=>by simp
 |d::l,s,h=>by rw[A6,kO i l _ λz a=>h z (by simp[a]),Ez s d i (h d EB),Bool.or_assoc];congr 1;by_cases h1:d=(i:Int);subst h1;simp;have:¬(i:Int)=d:=λe=>h1 e.symm;simp[h1,this]
def Zw5(p:Nat)(b:p<2^64):ZQ (yC p 0 64)=p:=by apply Ds;intro i;unfold ZQ;rw[kO i _ _ λd c=>by obtain⟨k,rfl,a,-⟩:=Qv c;omega,Nat.zero_testBit,Ej];by_cases hi:i<64;rw[W8,decide_eq_decide];constructor;intro h;obtain⟨k,e,-,a⟩:=Qv h;obtain rfl:i=k:=EA;exact a;intro h;simp only[yC,Aj,AX,AN,Aw,decide_eq_true_eq];exact⟨i,⟨hi,by omega,h⟩,rfl⟩;rw[CI (Bw b (BL EH EA))];rw[decide_eq_false_iff_not];intro h;obtain⟨k,e,a,-⟩:=Qv h;omega
def Zw6(c:Cust):Prop:=(c.kind=1/\c.Y=0)\/(c.kind=2/\(c.Y=1\/c.Y=2))
def vt(x:Inst)(n:Nat)(b:Int)(p:zy)(s:Int):Nat->zy × Int
 |0=>(p,s)
 |k+1=>(Jf x n (vt x n b p s k).1 (vt x n b p s k).2 b,X6 x (vt x n b p s k).2)
def QI(x:Inst)(n:Nat)(b:Int)(p:zy)(s:Int)(k:Nat):List zy:=(List.range (k+1)).map λi=>(vt x n b p s i).1
theorem Zw7(x:Inst)(n:Nat)(b:Int)(p:zy)(s:Int):QI x n b p s 0=[p]:=rfl
def EM(x:Inst)(n:Nat)(b:Int)(p:zy)(s:Int)(k:Nat):QI x n b p s (k+1)=QI x n b p s k++[(vt x n b p s (k+1)).1]:=by unfold QI;rw[AC,List.map_append];rfl
def Zw8(x:Inst)(n:Nat)(b:Int)(p:zy)(s:Int)(k:Nat):(QI x n b p s k).length=k+1:=by simp[QI]
theorem kP{x:Inst}{p:zy}(h:PlanG x n p)(b s:Int):∀k,PlanG x n (vt x n b p s k).1
 |0=>h
 |k+1=>ZwT (kP h b s k) _ _
abbrev X7(seed r b cl:Int):List PV:=[I seed,I r,I b,I cl]
def Zw9{x:Inst}(hA:InstA x n)(o:0<n)(g:∀b,(xE x b).2=0->PlanG x n (xE x b).1)(a:Int)(r:Nat)(hr:r<=1000)(b:Int)(hb:b<=9223372036854775807)(cl:Int)(fn:FuncId)(cs:List PV)(St:List zy->Store)(s:St []=S)
  (f:∀nx,yd nx S->∀h,yd nx (St h))
  (d:∀nx,yd nx S->∀(h:List zy) (p:zy) (obs:List Ob),h.length<=1001->PlanG x n p->Spec prog fn ([.agg [L p]]++cs) (ext (St h) nx obs) (λ_ S'=>S'=ext (St (h++[p])) nx obs)) :
  SP 102 [.agg (zB x),.agg (X7 a r b cl),.fn (.func fn) [] cs] S (λq S'=>q=I (xE x b).2/\S'=St (if (xE x b).2=0 then QI x n b (xE x b).1 (IntKind.u64.wrap a) r else [])):=by
 subst s;have j:=ZvM hA hb;have g:=g b;generalize xE x b=st at *;obtain⟨i,e⟩:=st;simp only at j g ⊢;refine yr func102 ntmps102 results102 λnx t=>?_;have d:=d nx t;have f:=f nx t;refine EK ?_;intro v0 v1;refine EK ?_;refine zq j ?_;intro v2;by_cases u:e=0;case neg =>
  rw[if_neg u];repeat apply za
  refine zb ?_;refine zm (by simp[u]) ?_;refine EK ?_;exact zg ⟨_,_,rfl,⟨by simp[zp],rfl⟩,zV t⟩
 subst u;rw[if_pos rfl];have hG:=g rfl;have hit:=kP hG b (IntKind.u64.wrap a);repeat apply za
 refine zb ?_;refine aC (EK ?_);refine λc=>((d [] i _ EB hG).mono ?_).v;rintro _ _ rfl;refine⟨_,_,rfl,zO c ?_⟩;refine EK ?_;refine λc=>((vm a xM).mono ?_).v;rintro _ _ ⟨v3,rfl,rfl⟩;refine⟨_,_,jE _,zO c ?_⟩;repeat apply za
 refine zb ?_;have hz:QI x n b i (IntKind.u64.wrap a) 0=[]++[i]:=rfl;generalize IntKind.u64.wrap a=s0 at *;refine zj (xk (σ:=Nat) (λk=>k<=r) (λk=>[(2,.fn (.func fn) [] cs),(3,.ptr nx v0 0),(4,.ptr (nx+1) v1 0),(7,.ptr (nx+2) v2 0),(9,.ptr (nx+3) v3 0),(27,I r),(28,I k)]) (λk=>St (QI x n b i s0 k)) (λk=>[.cells v0 25 (zB x),.cells v1 68 (X7 a r b cl),.cells v2 31 [L (vt x n b i s0 k).1],.cells v3 205 (xT (vt x n b i s0 k).2)]) (λk=>r-k) (yb 0 [] EB EB (by rw[Zw7]) (by simp[vt])) ?_);rintro k hk;have w:=hit k;have y:=hit (k+1);have l:=λ(S:Store) (id v:Nat) hS=>ZwU w o (vt x n b i s0 k).2 b hb (S:=S) (id:=id) (v:=v) hS;have z:Jf x n (vt x n b i s0 k).1 (vt x n b i s0 k).2 b=(vt x n b i s0 (k+1)).1:=rfl;have m:X6 x (vt x n b i s0 k).2=(vt x n b i s0 (k+1)).2:=rfl;have a0:=EM x n b i s0 k;have a1:=Zw8 x n b i s0 k;rw[z,m]at l;refine EK ?_;refine za (zv rfl (λhc=>?_) (λhc=>?_));simp at hc;refine zh (aA (EK ?_));refine λc=>((l _ (nx+3) v3 (by rw[zS];rfl)).mono ?_).v;rintro _ _ ⟨rfl,rfl⟩;refine⟨_,_,yi _ EA EB,zO c ?_⟩;try simp only[AM,AO,AW]
 refine zb ?_;refine λc=>((d _ _ _ EA y).mono ?_).v;rintro _ _ rfl;refine⟨_,_,rfl,zO c ?_⟩;refine zb ?_;exact zr (k+1) [] hc EA (by simp[zu k EA]) (by rw[a0]) EB;simp at hc;obtain rfl:k=r:=EA;refine zx (EK ?_);exact zg ⟨_,_,rfl,⟨by simp[zp],rfl⟩,zV (f _)⟩
theorem EN{c:Int}:∀{l:List Stop},(l.map (·.c)).Nodup->(l.filter λs=>decide (s.c=c)).length<=1
 |[],_=>by simp
 |s::l,h=>by
  rw[Ap,Cr]at h;have b:=EN (c:=c) h.2;rw[Cm];split;rename_i hs;have a:s.c=c:=by simpa using hs
  have:(l.filter λs=>decide (s.c=c))=[]:=by rw[BA];intro u d;simp only[decide_eq_true_eq];intro e;exact h.1 (by rw[a,<-e];exact Cs d)
  rw[this];simp;exact b
structure InstK (x:Inst) (n:Nat):Prop where
 a:InstA x n
 kind:∀c∈x.y,Zw6 c
 H:∀c∈x.y,c.H<=c.size
def Zxa(p:zy){id v:Nat}{old:PV}(b:S id=.cells v 31 [old]):SP 103 [.agg [L p],.ptr id v 0] S (λ_ S'=>S'=S.set id (.cells v 31 [L p])):=by refine yr func103 ntmps103 results103 λnx c=>?_;have a:id<nx:=qB c b EB;have d:=λobs=>(zG (S:=S) (obs:=obs) a).trans b;have g1:¬nx<=id:=EA;refine EK ?_;intro v0;refine ze [] (zn d g1) ?_;exact⟨_,_,rfl,by simp,zV (QH c a _)⟩
def aY(h:List zy):PV:=match h.getLast? with
 |none=>yB
 |some p=>L p
def EO(h:List zy)(p:zy):aY (h++[p])=L p:=by unfold aY;rw[List.getLast?_append];rfl
def Zxb(x:Inst)(n:Nat)(b:Int)(p:zy)(s:Int)(k:Nat):aY (QI x n b p s k)=L (vt x n b p s k).1:=by
 cases k with
 |zero=>rfl
 |succ k=>rw[EM,EO]
def Jg(x:Inst)(n:Nat)(seed:Int)(r:Nat)(b:Int):zy × Int :=
 if (xE x b).2=0 then ((vt x n b (xE x b).1 (IntKind.u64.wrap seed) r).1,0) else ([],(xE x b).2)
def Zxc{x:Inst}(w:InstA x n)(q:0<n)(f:∀b,(xE x b).2=0->PlanG x n (xE x b).1)(a:Int)(r:Nat)(y:r<=1000)(b:Int)(hb:b<=9223372036854775807)(cl:Int):
  PP 62 [.agg (zB x),.agg (X7 a r b cl)] (.tup [.agg [L (Jg x n a r b).1],I (Jg x n a r b).2]):=by
 have t:=λ(S:Store) fn cs St h1 h2 h3=>Zw9 w q f a r y b hb cl fn cs (S:=S) St h1 h2 h3;have c:Jg x n a r b=if (xE x b).2=0 then ((vt x n b (xE x b).1 (IntKind.u64.wrap a) r).1,0) else ([],(xE x b).2):=rfl;have hl:=λp s=>Zxb x n b p s r;generalize xE x b=st at *;obtain⟨p0,e⟩:=st;simp only at t c;generalize IntKind.u64.wrap a=s0 at *;refine zt func62 ntmps62 results62 λS nx u=>?_;refine EK ?_;intro v0 v1 z;refine EK ?_;intro v3;obtain⟨S1,g⟩:∃S1,S1=ext S nx [.cells v0 25 (zB x),.cells v1 68 (X7 a r b cl),.cells z 31 [yB],.cells v3 31 [yB]]:=⟨_,rfl⟩;have h1:S1 (nx+3)=.cells v3 31 [yB]:=by rw[g,zS];rfl
 have j:=t S1 103 [.ptr (nx+3) v3 0] (λh=>S1.set (nx+3) (.cells v3 31 [aY h])) (by
   funext i;by_cases hi:i=nx+3;subst hi;rw[q11];exact h1.symm;exact q10 _ _ _ _ hi) (λk d h=>QH d (qB d h1 EB) _) (λk d h p obs _ _=>by
   have l:nx+3<k:=qB d h1 EB;refine(Zxa p (id:=nx+3) (v:=v3) (old:=aY h) (by rw[zG l];exact q11 _ _ _)).mono ?_;rintro _ _ rfl;rw[qE _ l,Store.set_set,EO])
 rw[g]at j;refine EK ?_;refine λm=>(j.mono ?_).v;rintro _ _ ⟨rfl,rfl⟩;refine⟨_,_,yi _ EA EB,zO m ?_⟩;try simp only[AM,AO,AW]
 by_cases o:e=0;rw[if_pos o]at c;rw[c];simp only[if_pos o,hl];subst o;refine EK ?_;exact EL u;rw[if_neg o]at c;rw[c];simp only[if_neg o];show PW _ _ _ _ _ _ _ (ext _ _ _);refine EK ?_;refine yn 2 0 rfl rfl ?_;exact EL u
def wy(c:UInt8):List UInt8->Option (List UInt8 × List UInt8)
 |[]=>none
 |x::xs=>if x=c then some ([],xs) else (wy c xs).map λp=>(x::p.1,p.2)
theorem X8{c:UInt8}{l a b:List UInt8}(h:wy c l=some (a,b)):l=a++c::b/\c ∉ a:=by induction l generalizing a b<;>grind[wy,Option.map_eq_some_iff]
theorem ei{c:UInt8}{l:List UInt8}(h:wy c l=none):c ∉ l:=by induction l<;>grind[wy,Option.map_eq_none_iff]
def Zxd{c:UInt8}{a:List UInt8}(b:List UInt8)(h:c ∉ a):wy c (a++c::b)=some (a,b):=by induction a<;>grind[wy]
def kQ{c:UInt8}{l a b:List UInt8}(h:wy c l=some (a,b)):b.length<l.length:=by rw[(X8 h).1];simp;omega
def yZ(c:UInt8):List UInt8->List (List UInt8)
 |[]=>[[]]
 |x::xs=>if x=c then []::yZ c xs else match yZ c xs with
  |[]=>[[x]]
  |h::t=>(x::h)::t
theorem kR(c x:UInt8)(xs:List UInt8):yZ c (x::xs)=if x=c then []::yZ c xs else match yZ c xs with
  |[]=>[[x]]
  |h::t=>(x::h)::t:=rfl
theorem kS(c:UInt8)(l:List UInt8):yZ c l≠[]:=by cases l<;>grind[yZ]
def kT{c:UInt8}{a:List UInt8}(h:c ∉ a):yZ c a=[a]:=by
 induction a with
 |nil=>rfl
 |cons x a b =>
 grind[kR]
def kU{c:UInt8}{a:List UInt8}(b:List UInt8)(h:c ∉ a):yZ c (a++c::b)=a::yZ c b:=by induction a<;>grind[kR]
theorem Zxe(c:UInt8)(l:List UInt8):yZ c l=match wy c l with
  |none=>[l]
  |some (a,b)=>a::yZ c b:=by
 cases h:wy c l with
 |none=>simp_all[kT,ei]
 |some p=>obtain⟨a,b⟩:=p;obtain⟨h1,h2⟩:=X8 h;simp_all[kU]
def Zxf(c:UInt8)(l:List UInt8):(yZ c l).length<=l.length+1:=by induction l<;>grind[yZ]
def Zxg(c:UInt8)(l:List UInt8):∀w∈yZ c l,w.length<=l.length:=by induction l<;>grind[yZ]
theorem Zxh(a:ws≠[])(b:∀w∈ws,(32:UInt8) ∉ w):yZ 32 (zP ws)=ws:=by
 induction ws with
 |nil=>simp_all
 |cons w ws c =>
 cases ws with
 |nil=>exact kT (b w EB)
 |cons v ws =>
 simp_all[Vh,kU]
def Za(w:List UInt8):Bool:=decide (w≠[])&&w.all λc=>decide (33<=c.toNat/\c.toNat<=126)
theorem uE(w:List UInt8):Za w=true<->jT w:=by simp[Za,jT]
def EP{w:List UInt8}{c:UInt8}(h:w[k]?=some c)(hc:¬(33<=c.toNat/\c.toNat<=126)):Za w=false:=by grind[Za]
def y9(t:List UInt8):Option (List (List (List UInt8))) :=
 if t=[] then some [] else
  match h:wy 10 t with
  |none=>none
  |some (a,b)=>if (yZ 32 a).all Za=true then (y9 b).map (yZ 32 a::·) else none
termination_by t.length
decreasing_by exact kQ h
def Vi:y9 []=some []:=by rw[y9,if_pos rfl]
def EQ{t:List UInt8}(h0:t≠[])(h:wy 10 t=none):y9 t=none:=by grind[y9]
theorem ej{t a b:List UInt8}(h:wy 10 t=some (a,b)):y9 t=if (yZ 32 a).all Za=true then (y9 b).map (yZ 32 a::·) else none:=by rw[y9,if_neg (by rintro rfl;cases h)];grind
def Zxi{t a b:List UInt8}(h:wy 10 t=some (a,b)){w:List UInt8}(c:(yZ 32 a)[k]?=some w)(hb:Za w=false):y9 t=none:=by rw[ej h,if_neg];grind
theorem Zxj{w:List UInt8}(h:jT w):(32:UInt8) ∉ w/\(10:UInt8) ∉ w :=
 ⟨λhc=>by have:=(h.2 32 hc).1;simp at this,λhc=>by have:=(h.2 10 hc).1;simp at this⟩
theorem Vj{ls:List (List (List UInt8))}(h0:∀l∈ls,l≠[])(h:∀l∈ls,∀w∈l,jT w):y9 (zN ls)=some ls:=by
 induction ls with
 |nil=>exact Vi
 |cons l ls a =>
 have hl:=h l EB;have hc:wy 10 (zN (l::ls))=some (zP l,zN ls):=by rw[vW];exact Zxd _ (ZvW hl)
 grind[Zxh,Zxj,ej,uE]
theorem Zxk(l:List UInt8):zP (yZ 32 l)=l:=by
 induction l with
 |nil=>rfl
 |cons x xs a =>
 unfold yZ;split;rename_i e;cases h:yZ 32 xs<;>simp_all[kS,Vh];cases h:yZ 32 xs with
 |nil=>simp_all[kS]
 |cons v vs =>
 rw[h]at a;cases vs<;>simp_all[zP]
def ek(n:Nat):∀{t:List UInt8} {ls:List (List (List UInt8))},t.length<=n->y9 t=some ls->zN ls=t/\(∀l∈ls,l≠[])/\(∀l∈ls,∀w∈l,jT w):=by
 induction n with
 |zero =>
 intro t ls hn h;obtain rfl:=Av (Nat.le_zero.1 hn);rw[Vi]at h;cases h;exact⟨rfl,by simp,by simp⟩
 |succ n c =>
 intro t ls hn h;by_cases h0:t=[];grind;cases hc:wy 10 t with
 |none=>simp_all[EQ]
 |some p =>
 obtain⟨a,b⟩:=p;rw[ej hc]at h;split at h;rename_i d;obtain⟨ms,hm,rfl⟩:=An.1 h;have:=kQ hc;grind[X8,vW,Zxk,kS,uE];cases h
def aZ{p:List α->Prop}(h0:p [])(h1:∀l a,p l->p (l++[a]))(l:List α):p l:=by
 have:∀m:List α,p m.reverse:=by
  intro m;induction m with
  |nil=>exact h0
  |cons a m b=>rw[CC];exact h1 _ _ b
 have:=this l.reverse;simp_all
def xG(l:List UInt8):Nat:=l.foldl (λn c=>if 100000000000000000<=n then 1000000000000000000 else 10*n+(c.toNat-48)) 0
theorem bb(l:List UInt8)(c:UInt8):xG (l++[c])=if 100000000000000000<=xG l then 1000000000000000000 else 10*xG l+(c.toNat-48):=by grind[xG]
def Zy(w:List UInt8):Bool:=w.all λc=>decide (48<=c.toNat/\c.toNat<=57)
def en{w:List UInt8}{c:UInt8}(h:w[k]?=some c)(hc:¬(48<=c.toNat/\c.toNat<=57)):Zy w=false:=by grind[Zy]
def Zb(w:List UInt8):Bool:=match w with
 |[]=>true
 |c::l=>decide (c.toNat=48)&&decide (l≠[])
def yF(w:List UInt8):Option Nat:=if Zb w=true then none else if Zy w=true then some (xG w) else none
theorem ER(l:List UInt8)(h:∀c∈l,c.toNat<=57):xG l<=1000000000000000000:=by revert h;refine aZ (p:=λl:List UInt8=>(∀c∈l,c.toNat<=57)->xG l<=1000000000000000000) (λ_=>by decide) (λl c a h=>?_) l;grind[bb]
def Zxl(w:List UInt8)(h:xS w<100000000000000000):xG w=xS w:=by revert h;refine aZ (p:=λw:List UInt8=>xS w<100000000000000000->xG w=xS w) (λ_=>rfl) (λl c a h=>?_) w;grind[Vg,bb]
theorem ES(n:Nat)(hn:n<100000000000000000):yF (zH n)=some n:=by
 have h1:Zb (zH n)=false:=by
  obtain h|h:=Bo 1 (zH n).length;obtain⟨c,l,e,hc⟩:=tE n h;rw[e];simp[Zb,hc];rcases a:zH n with _|⟨c,_|⟨d,l⟩⟩
  exact absurd a (aP n);simp[Zb];rw[a]at h;simp at h
 have h2:Zy (zH n)=true:=by unfold Zy;rw[Ay];intro c hc;simpa using kj n c hc
 simp_all[yF,Zxl,tD]
def J9{w:List UInt8}(h:yF w=some n):n<=1000000000000000000:=by grind[yF,ER,Zy]
abbrev Wd:=List UInt8
abbrev Ln:=List Wd
abbrev vu:Wd:=[116,114,97,110,116,101,114]
abbrev vw:Wd:=[100,97,121,115]
abbrev vx:Wd:=[118,101,104,105,99,108,101,115]
abbrev vy:Wd:=[99,97,112,97,99,105,116,121]
abbrev vz:Wd:=[108,101,110,103,116,104]
abbrev vA:Wd:=[99,117,115,116,111,109,101,114,115]
abbrev Zc:Wd:=[118,105,115,105,116]
abbrev Xa:Wd:=[116,97,110,107]
abbrev Zz:Wd:=[102,105,108,108]
abbrev ZX:Wd:=[97,110,121]
abbrev j9:Wd:=[100,105,115,116,97,110,99,101,115]
def zT(w:Wd):Int:=((yF w).getD 0:Nat)
def jg(l:Ln):Option (List Int):=if l.all (λw=>(yF w).isSome)=true then some (l.map zT) else none
def ET{l:Ln}{w:Wd}(h:l[k]?=some w)(a:yF w=none):jg l=none:=by grind[jg]
def Vk{l:Ln}(h:∀w∈l,(yF w).isSome=true):jg l=some (l.map zT):=by simp_all[jg]
def eo{l:Ln}{z:List Int}(h:jg l=some z):z.length=l.length:=by grind[jg]
def wP(l:Ln)(n:Nat):Ln:=(List.range n).map λi=>l.getD (2*i+1) []
def X9(l names:Ln):Bool:=decide (l.length=2*names.length)&&(List.range names.length).all λi=>decide (l.getD (2*i) []=names.getD i [])
def qK(l names:Ln):Option (List Int):=if X9 l names=true then jg (wP l names.length) else none
def wV(w:Wd):Nat->Nat
 |0=>0
 |k+1=>if w.getD k 0=49 then jp (wV w k) k else wV w k
def vZ(w:Wd):Bool:=decide (w≠[])&&w.all λc=>decide (c.toNat=48\/c.toNat=49)
def xU(w:Wd):Nat:=if 64<w.length then 0 else wV w w.length
def QJ(d:Wd)(ps:Ln):Cust:=⟨1,zT d,ps.map xU,0,0,0,0,0⟩
def Xb(n:Int)(l:Ln):Option (Cust × Bool):=match l with
 |[]=>none
 |d::ps=>if (yF d).isSome=true/\ps.all vZ=true then some (QJ d ps,ps.all λw=>decide ((w.length:Int)=n)) else none
theorem kV(n:Int)(d:Wd)(ps:Ln):Xb n (d::ps)=if (yF d).isSome=true/\ps.all vZ=true then some (QJ d ps,ps.all λw=>decide ((w.length:Int)=n)) else none:=rfl
def Vl(w:Wd):Int:=if w=Zz then 1 else 2
def Jh(l:Ln):Option Cust:=match l with
 |[a,b,c,r,h]=>if (jg [a,b,c,h]).isSome=true/\(r=Zz\/r=ZX) then some ⟨2,0,[],zT a,zT b,zT c,Vl r,zT h⟩ else none
 |_=>none
theorem kW(a b c r h:Wd):Jh [a,b,c,r,h]=if (jg [a,b,c,h]).isSome=true/\(r=Zz\/r=ZX) then some ⟨2,0,[],zT a,zT b,zT c,Vl r,zT h⟩ else none:=rfl
def vB(n:Int)(l:Ln):Option (Cust × Bool):=match l with
 |[]=>none
 |w::l=>if w=Zc then Xb n l else if w=Xa then (Jh l).map (·,true) else none
instance:Inhabited (Cust × Bool):=⟨(default,false)⟩
def uF(n:Int)(l:Ln):Cust × Bool:=(vB n l).getD default
def uG(m:Nat)(l:Ln):Bool:=(jg l).isSome&&decide (l.length=m)
def zZ(ls:List Ln)(k:Nat):Ln:=ls.getD k []
def qq(ls:List Ln)(k n:Nat):List Ln:=(List.range n).map λi=>zZ ls (k+i)
def Yl(ls:List Ln):Option (Inst × Bool) :=
 if zZ ls 0=[vu,[49]] then
  match qK (zZ ls 1) [vw,vx,vy,vz] with
  |some [d,v,c,l] =>
   match qK (zZ ls 2) [vA] with
   |some [m] =>
   if (qq ls 3 m.toNat).all (λl=>(vB d l).isSome)=true/\zZ ls (3+m.toNat)=[j9]/\(qq ls (4+m.toNat) (m.toNat+1)).all (uG (m.toNat+1))=true/\ls.length=5+2*m.toNat then
    some (⟨d,v,c,l,(qq ls 3 m.toNat).map λl=>(uF d l).1,(qq ls (4+m.toNat) (m.toNat+1)).map λl=>l.map zT⟩,(qq ls 3 m.toNat).all λl=>(uF d l).2)
   else none
   |_=>none
  |_=>none
 else none
def zI:Inst:=⟨0,0,0,0,[],[]⟩
def yD(t:List UInt8):Inst × Int:=match y9 t with
 |none=>(zI,2)
 |some ls=>match Yl ls with
  |none=>(zI,2)
  |some (x,ok)=>if ok=true/\jq x=true then (x,0) else (zI,3)
def zz(z:Int):Wd:=zH z.toNat
def YW(h0:0<=z)(h1:z<100000000000000000):(yF (zz z)).isSome=true/\zT (zz z)=z:=by grind[ES,zT,zz]
def jh(n:Nat)(p:Nat):Wd:=(List.range n).map λi=>UInt8.ofNat (48+yU p i)
def qW(n:Nat)(c:Cust):Ln:=if c.kind=1 then Zc::zz c.R::c.J.map (jh n) else [Xa,zz c.D,zz c.size,zz c.H,if c.Y=2 then ZX else Zz,zz c.U]
def jU(x:Inst):List Ln :=
 [vu,[49]]::[vw,zz x.days,vx,zz x.X,vy,zz x.Q,vz,zz x.len]::[vA,zH x.y.length]::(x.y.map (qW x.days.toNat)++[j9]::x.O.map (λr:List Int=>r.map zz))
def YX(z:Int):Prop:=0<=z/\z<100000000000000000
structure CustT (n:Nat) (c:Cust):Prop where
 kind:(c.kind=1/\YX c.R/\(∀p∈c.J,p<2^n)/\c.D=0/\c.size=0/\c.H=0/\c.Y=0/\c.U=0)\/(c.kind=2/\c.R=0/\c.J=[]/\YX c.D/\YX c.size/\YX c.H/\(c.Y=1\/c.Y=2)/\YX c.U)
structure InstT (x:Inst) (n:Nat):Prop where
 days:x.days=n
 n1:1<=n
 n64:n<=64
 al:YX x.X/\YX x.Q/\YX x.len
 ag:x.y.length<100000000000000000
 y:∀c∈x.y,CustT n c
 rows:x.O.length=x.y.length+1
 af:∀r∈x.O,r.length=x.y.length+1/\∀z∈r,YX z
theorem eu(w:Wd)(i:Nat):∀k,(wV w k).testBit i=(decide (i<k/\i<64)&&decide (w.getD i 0=49))
 |0=>by simp[wV]
 |k+1=>by
  unfold wV;split;rename_i h;by_cases a:k<64;rw[Ez _ _ _ ⟨by omega,by omega⟩,eu w i k];grind;have:jp (wV w k) k=wV w k:=by unfold jp;rw[if_neg EA]
  have e2:decide (i<k+1/\i<64)=decide (i<k/\i<64):=by rw[decide_eq_decide];omega
  rw[this,eu w i k,e2];rename_i h;rw[eu w i k];grind
theorem ex(w:Wd):∀k,wV w k<2^64
 |0=>by show 0<2^64;decide
 |k+1=>by unfold wV;split;exact dB _ _ (ex w k);exact ex w k
theorem be(n p:Nat):(jh n p).length=n:=by simp[jh]
def Zxm(n p i:Nat)(h:i<n):(jh n p).getD i 0=UInt8.ofNat (48+yU p i):=by simp_all[jh]
def EU(n p:Nat)(h:1<=n):vZ (jh n p)=true:=by grind[vZ,jh,be,cE,QA]
def Zxn(n p:Nat)(h1:1<=n)(hn:n<=64)(c:p<2^n):xU (jh n p)=p:=by
 unfold xU;rw[be,if_neg EA];apply Ds;intro i;rw[eu];by_cases hi:i<n;rw[Zxm n p i hi];have hb:=cE p i;have e:(UInt8.ofNat (48+yU p i)=49)<->yU p i=1:=by constructor;intro e;have:=congrArg UInt8.toNat e;rw[QA EA]at this;have a:(49:UInt8).toNat=49:=rfl;omega;intro e;rw[e];rfl
 have b:decide (i<n/\i<64)=true:=EF;rw[b,CE,C9];unfold yU at e ⊢;simp only[e];grind[Nat.testBit_lt_two_pow,Nat.lt_of_lt_of_le,Nat.pow_le_pow_right]
def Zxo{c:Cust}(h1:1<=n)(hn:n<=64)(h:CustT n c):vB n (qW n c)=some (c,true):=by
 obtain⟨k,v,ps,j,l,st,t,ho⟩:=c;obtain⟨k1,b,i,d,e,f,a,g⟩|⟨k1,b,i,d,e,f,a,g⟩:=h.kind;simp only at k1 b i d e f a g;subst k1 d e f a g;obtain⟨x,m⟩:=YW b.1 b.2;have o:(ps.map (jh n)).all vZ=true:=by rw[Ay];intro w q;obtain⟨p,r,rfl⟩:=Aj.1 q;exact EU n p h1
 have e2:((ps.map (jh n)).all λw=>decide ((w.length:Int)=n))=true:=by rw[Ay];intro w q;obtain⟨p,r,rfl⟩:=Aj.1 q;simp[be]
 have y:(ps.map (jh n)).map xU=ps:=by rw[B3];refine(AQ λp r=>?_).trans (DA _);exact Zxn n p h1 hn (i p r)
 unfold qW;rw[if_pos rfl];show Xb n (zz v::ps.map (jh n))=_;simp_all[kV,QJ];simp only at k1 b i d e f a g;subst k1 b i;obtain⟨z,u⟩:=YW d.1 d.2;obtain⟨b1,b2⟩:=YW e.1 e.2;obtain⟨c1,c2⟩:=YW f.1 f.2;obtain⟨x,m⟩:=YW g.1 g.2;have o:(jg [zz j,zz l,zz st,zz ho]).isSome=true:=by rw[Vk EJ];rfl
 have s:vB n (qW n ⟨2,0,[],j,l,st,t,ho⟩)=(Jh [zz j,zz l,zz st,if t=2 then ZX else Zz,zz ho]).map (·,true):=rfl;rw[s,kW];obtain a|a:=a;subst a;rw[if_pos ⟨o,.inl (if_neg EH)⟩,show (if (1:Int)=2 then ZX else Zz)=Zz from rfl];simp only[AR,u,b2,c2,m];rfl;subst a;rw[if_pos ⟨o,.inr (if_pos rfl)⟩,show (if (2:Int)=2 then ZX else Zz)=ZX from rfl];simp only[AR,u,b2,c2,m];rfl
def Vm(a b:List α)(d:α)(k:Nat)(h:a.length=k)(i:Nat):(a++b).getD (k+i) d=b.getD i d:=EI
def EV(l m:List α)(d:α):(List.range l.length).map (λi=>(l++m).getD i d)=l:=by apply Bi<;>grind
theorem Zxp{x:Inst}(h:InstT x n):Yl (jU x)=some (x,true):=by
 obtain⟨dy,k,m,le,a,b⟩:=x;obtain⟨h1,h2,h3,⟨t,u,v⟩,y,h8,h9,o⟩:=h;simp only at h1 t u v y h8 h9 o;subst h1;obtain⟨d1,d2⟩:=YW (z:=(n:Int)) EA EA;obtain⟨v1,v2⟩:=YW t.1 t.2;obtain⟨c1,c2⟩:=YW u.1 u.2;obtain⟨l1,l2⟩:=YW v.1 v.2;have m1:=ES a.length y;have hW:jU ⟨n,k,m,le,a,b⟩=[vu,[49]]::[vw,zz n,vx,zz k,vy,zz m,vz,zz le]::[vA,zH a.length]::(a.map (qW n)++[j9]::b.map (λr:List Int=>r.map zz)):=rfl;rw[hW];generalize g:[vu,[49]]::[vw,zz n,vx,zz k,vy,zz m,vz,zz le]::[vA,zH a.length]::(a.map (qW n)++[j9]::b.map (λr:List Int=>r.map zz))=ls;have d:ls=[[vu,[49]],[vw,zz n,vx,zz k,vy,zz m,vz,zz le],[vA,zH a.length]]++(a.map (qW n)++[j9]::b.map (λr:List Int=>r.map zz)):=by rw[<-g];rfl
 have q0:zZ ls 0=[vu,[49]]:=by rw[<-g];rfl
 have q1:zZ ls 1=[vw,zz n,vx,zz k,vy,zz m,vz,zz le]:=by rw[<-g];rfl
 have q2:zZ ls 2=[vA,zH a.length]:=by rw[<-g];rfl
 have q3:qq ls 3 a.length=a.map (qW n):=by
  unfold qq zZ;rw[d];have:(List.range a.length).map (λi=>([[vu,[49]],[vw,zz n,vx,zz k,vy,zz m,vz,zz le],[vA,zH a.length]]++(a.map (qW n)++[j9]::b.map (λr:List Int=>r.map zz))).getD (3+i) [])=(List.range (a.map (qW n)).length).map λi=>(a.map (qW n)++[j9]::b.map (λr:List Int=>r.map zz)).getD i []:=by rw[List.length_map];refine AQ λi _=>?_;exact Vm _ _ _ 3 rfl i
  rw[this,EV]
 have q4:zZ ls (3+a.length)=[j9]:=by unfold zZ;rw[d,Vm _ _ _ 3 rfl];have:=Vm (a.map (qW n)) ([j9]::b.map (λr:List Int=>r.map zz)) [] a.length EB 0;rw[BK]at this;rw[this];rfl
 have q5:qq ls (4+a.length) (a.length+1)=b.map (λr:List Int=>r.map zz):=by
  unfold qq zZ;have:(List.range (a.length+1)).map (λi=>ls.getD (4+a.length+i) [])=(List.range (b.map (λr:List Int=>r.map zz)).length).map λi=>(b.map (λr:List Int=>r.map zz)++[]).getD i []:=by rw[List.length_map,h9];refine AQ λi _=>?_;rw[d,show 4+a.length+i=3+(a.length+(1+i)) by omega,Vm _ _ _ 3 rfl,Vm _ _ _ a.length EB,AA];have:=Vm [[j9]] (b.map (λr:List Int=>r.map zz)) [] 1 rfl i;exact this
  rw[this,EV]
 have q6:ls.length=5+2*a.length:=by rw[d];simp;omega
 have n1:qK (zZ ls 1) [vw,vx,vy,vz]=some [(n:Int),k,m,le]:=by rw[q1];unfold qK;rw[if_pos (by simp[X9,AC]),Vk (by intro w p;simp[wP,AC]at p;grind)];simp[wP,AC,d2,v2,c2,l2]
 have n2:qK (zZ ls 2) [vA]=some [(a.length:Int)]:=by rw[q2];unfold qK;rw[if_pos (by simp[X9]),Vk (by intro w p;simp[wP,AC]at p;rw[p,m1];rfl)];simp[wP,AC,zT,m1]
 have hc:∀c∈a,vB n (qW n c)=some (c,true):=λc hc=>Zxo h2 h3 (h8 c hc);have r1:(a.map (qW n)).all (λl=>(vB n l).isSome)=true:=by rw[Ay];intro l hl;obtain⟨c,e,rfl⟩:=Aj.1 hl;rw[hc c e];rfl
 have j:∀r∈b,(jg (r.map zz)).isSome=true/\(r.map zz).map zT=r:=by intro r q;have s:=(o r q).2;refine⟨?_,?_⟩;rw[Vk];rfl;intro w p;obtain⟨z,f,rfl⟩:=Aj.1 p;exact(YW (s z f).1 (s z f).2).1;rw[B3];refine(AQ λz f=>?_).trans (DA _);exact(YW (s z f).1 (s z f).2).2
 have r2:(b.map (λr:List Int=>r.map zz)).all (uG (a.length+1))=true:=by rw[Ay];intro l hl;obtain⟨r,q,rfl⟩:=Aj.1 hl;simp[uG,(j r q).1,(o r q).1]
 have tn:((a.length:Nat):Int).toNat=a.length:=EB;unfold Yl;rw[if_pos q0,n1];simp only;rw[n2];simp only[tn,q3,q5,q4];rw[if_pos ⟨r1,trivial,r2,q6⟩];have e1:(a.map (qW n)).map (λl=>(uF n l).1)=a:=by rw[B3];refine(AQ λc e=>?_).trans (DA _);simp only[Function.comp_apply,uF,hc c e];rfl
 have e2:(b.map (λr:List Int=>r.map zz)).map (λl=>l.map zT)=b:=by rw[B3];refine(AQ λr q=>?_).trans (DA _);exact(j r q).2
 have e3:((a.map (qW n)).all λl=>(uF n l).2)=true:=by rw[Ay];intro l hl;obtain⟨c,e,rfl⟩:=Aj.1 hl;simp only[uF,hc c e];rfl
 rw[e1,e2,e3]
def Zxq:∀w∈[vu,vw,vx,vy,vz,vA,Zc,Xa,Zz,ZX,j9,[49]],jT w:=by intro w a;rw[<-uE];revert w;decide
def Zxr(n p:Nat)(h:1<=n):jT (jh n p):=by have:=EU n p h;simp only[vZ,Aw,decide_eq_true_eq,Ay]at this;exact⟨this.1,λc hc=>by grind⟩
theorem Zxs{x:Inst}(h:InstT x n):(∀l∈jU x,l≠[])/\∀l∈jU x,∀w∈l,jT w:=by
 have A:∀w,w∈[vu,vw,vx,vy,vz,vA,Zc,Xa,Zz,ZX,j9,[49]]->jT w:=Zxq;have d:=h.n1;have f:x.days.toNat=n:=by have:=h.days;omega
 constructor;intro l hl;simp only[jU,Al,AB,Aj]at hl;obtain rfl|rfl|rfl|⟨c,hc,rfl⟩|rfl|⟨r,b,rfl⟩:=hl;simp;simp;simp;grind[qW];simp;intro e;have:=(h.af r b).1;simp_all;intro l hl w a;simp only[jU,Al,AB,Aj]at hl;obtain rfl|rfl|rfl|⟨c,hc,rfl⟩|rfl|⟨r,b,rfl⟩:=hl;grind
 .simp only[Al,Be,or_false]at a;obtain rfl|rfl|rfl|rfl|rfl|rfl|rfl|rfl:=a;all_goals first|exact YT _|simp_all
 grind[YT];unfold qW at a;split at a;simp only[Al,Aj]at a;obtain rfl|rfl|⟨p,g,rfl⟩:=a;exact A _ EB;exact YT _;simp_all[Zxr];simp only[Al,Be,or_false]at a;obtain rfl|rfl|rfl|rfl|rfl|rfl:=a;simp_all;exact YT _;exact YT _;exact YT _;split<;>simp_all;exact YT _;simp_all;obtain⟨z,_,rfl⟩:=Aj.1 a;exact YT _
def EW{x:Inst}(h:InstT x n)(hm:jq x=true):yD (zN (jU x))=(x,0):=by grind[Zxs,yD,Vj,Zxp]
structure MayP (x:Inst):Prop where
 days:1<=x.days/\x.days<=64
 y:x.y.length<=2000
 X:0<=x.X/\x.X<=2147483648
 Q:0<=x.Q/\x.Q<=2147483648
 len:0<=x.len/\x.len<=2147483648
 ah:∀c∈x.y,wT c x.days=true
 O:YK x.O (x.y.length+1)=true
def ZY{x:Inst}(h:jq x=true):MayP x:=by unfold jq at h;simp only[Aw,Ay,decide_eq_true_eq,yI]at h;obtain⟨⟨⟨⟨⟨⟨h1,h2⟩,h3⟩,h4⟩,h5⟩,h6⟩,h7⟩:=h;exact⟨h1,h2,h3,h4,h5,h6,h7⟩
def EX(c:Cust)(d:Int):Prop:=c.kind=1/\(1<=c.R/\c.R<=2147483648)/\(∀p∈c.J,Qo p d<0)/\(1<=c.J.length/\c.J.length<=64)/\c.D=0/\c.size=0/\c.H=0/\c.Y=0/\c.U=0
def EY(c:Cust):Prop:=c.kind=2/\(0<=c.D/\c.D<=2147483648)/\(1<=c.size/\c.size<=2147483648)/\(0<=c.H/\c.H<=c.size)/\(c.Y=1\/c.Y=2)/\(0<=c.U/\c.U<=1024)/\c.J=[]/\c.R=0
def Wa{c:Cust}{d:Int}(h:wT c d=true):EX c d\/EY c:=by unfold wT at h;split at h;rename_i a;simp only[Aw,yI,decide_eq_true_eq,Yd,YI,Ay]at h;obtain⟨⟨h1,h2,h3⟩,b⟩:=h;exact .inl ⟨a,h1,h2,by omega,b⟩;split at h;rename_i a;simp only[Aw,yI,decide_eq_true_eq,JW,Q8]at h;obtain⟨⟨⟨⟨⟨h1,h2⟩,h3⟩,b⟩,h5⟩,h6,h7⟩:=h;exact .inr ⟨a,h1,h2,h3,b,h5,Av h6,h7⟩;cases h
def EZ{p:Nat}(h:Qo p n<0):∀d∈yC p 0 64,d<n:=by
 have h0:yC p (n:Int).toNat 64=[]:=by
  unfold Qo at h;cases e:yC p (n:Int).toNat 64 with
  |nil=>rfl
  |cons a l =>
  rw[e]at h;obtain⟨k,rfl,-⟩:=Qv (p:=p) (a:=(n:Int).toNat) (k:=64) (d:=a) (by rw[e];simp);simp only[List.headD_cons]at h;omega
 grind[rY,List.filter_eq_nil_iff]
def Fa{p:Nat}(b:p<2^64)(h:∀d∈yC p 0 64,d<(n:Int)):p<2^n:=by
 apply Nat.lt_pow_two_of_testBit;intro i hi;by_cases a:i<64;rw[W8,decide_eq_false_iff_not];intro hb;have:(i:Int)∈yC p 0 64:=by simp only[yC,Aj,AX,AN,Aw,decide_eq_true_eq];exact⟨i,⟨a,by omega,hb⟩,rfl⟩
 grind;exact CI (Bw b (BL EH EA))
theorem Fb(n:Nat):∀(l:List (List Int)) (a:Nat),YJ n a l=true->∀r∈l,r.length=n/\∀z∈r,0<=z/\z<=2147483648
 |[],_,_=>by simp
 |row::l,a,h=>by simp only[YJ,Aw,decide_eq_true_eq,Ay,yI]at h;obtain⟨⟨⟨h1,h2⟩,h3⟩,c⟩:=h;intro r b;obtain rfl|b:=Al.1 b;simp_all;exact Fb n l (a+1) c r b
def Vn{x:Inst}(h:YK x.O (x.y.length+1)=true):x.O.length=x.y.length+1/\(∀r∈x.O,r.length=x.y.length+1/\∀z∈r,0<=z/\z<=2147483648)/\qG x/\arc x 0 0=0:=by
 unfold YK at h;simp only[Aw,decide_eq_true_eq]at h;have c:=Fb _ _ _ h.2;refine⟨h.1,c,λa b=>?_,?_⟩
 .unfold arc;split;omega;rw[List.getD_eq_getElem?_getD,List.getD_eq_getElem?_getD];cases e:x.O[a.toNat]? with
  |none=>simp
  |some r =>
  rw[Option.getD_some];cases e2:r[b.toNat]? with
  |none=>simp
  |some z=>exact(c r (Aa e)).2 z (Aa e2)
 obtain⟨h1,h2⟩:=h;cases e:x.O<;>simp_all[YJ,arc]
structure InstQ (x:Inst) (n:Nat):Prop where
 k:InstK x n
 m:jq x=true
 t:InstT x n
 ad:x.y.length<=6
 n7:n<=7
def Zxt{x:Inst}(h:jq x=true)(o:∀c∈x.y,∀p∈c.J,p<2^64)(hn:x.days=n)(w:n<=7)(y:x.y.length<=6):InstQ x n:=by
 have hm:=ZY h;obtain⟨d1,q,d3,d4⟩:=Vn hm.O;have hc:=λc hc=>Wa (hm.ah c hc);rw[hn]at hc;have i:∀c∈x.y,CustMade c n:=λc d=>by obtain⟨k,a,b,l,r1,r2,r3,r4,r5⟩|⟨k,r,s,t,j,ho,e,m⟩:=hc c d;exact⟨⟨by omega,by omega,by omega⟩,o c d,by omega,λ_=>⟨λp f=>EZ (b p f),by omega,by omega⟩⟩;exact⟨⟨by omega,by omega,by omega⟩,o c d,by rw[e];simp,λh=>by omega⟩
 have g:∀z:Int,0<=z->z<=2147483648->YX z:=λz a b=>⟨a,by omega⟩;refine⟨⟨⟨⟨by omega,d4,d3,hm.X.1⟩,hn,by omega,i,λc d=>?_⟩,λc d=>?_,λc d=>?_⟩,h,⟨hn,by have:=hm.days;omega,by omega,⟨g _ hm.X.1 hm.X.2,g _ hm.Q.1 hm.Q.2,g _ hm.len.1 hm.len.2⟩,by omega,λc d=>?_,d1,λr u=>⟨(q r u).1,λz v=>g z ((q r u).2 z v).1 ((q r u).2 z v).2⟩⟩,y,w⟩;rcases hc c d with ⟨k,a,b,l,r1,r2,r3,r4,r5⟩|⟨k,r,s,t,j,ho,e,m⟩<;>grind
 rcases hc c d with ⟨k,a,b,l,r1,r2,r3,r4,r5⟩|⟨k,r,s,t,j,ho,e,m⟩
 exact .inl ⟨k,r4⟩;exact .inr ⟨k,j⟩;rcases hc c d with ⟨k,a,b,l,r1,r2,r3,r4,r5⟩|⟨k,r,s,t,j,ho,e,m⟩<;>omega
 obtain⟨k,a,b,l,r1,r2,r3,r4,r5⟩|⟨k,r,s,t,j,ho,e,m⟩:=hc c d;exact⟨.inl ⟨k,g _ EA EA,λp f=>Fa (o c d p f) (EZ (b p f)),r1,r2,r3,r4,r5⟩⟩;exact⟨.inr ⟨k,m,e,g _ EA EA,g _ EA EA,g _ EA EA,j,g _ EA EA⟩⟩
def Zxu(x:Inst):∀c∈(yW x).y,∀p∈c.J,p<2^64:=λc hc=>((ZvO x).aa c hc).J
def Zxv(x:Inst)(hn:(yW x).days=n):InstQ (yW x) n:=Zxt (Zw3 x) (Zxu x) hn (by have:=aI x;omega) (gG x)
def Ji(a:Int):zL (W a):=by show -9223372036854775808<=IntKind.i64.wrap a/\IntKind.i64.wrap a<=9223372036854775807;rw[AD];omega
def YY(x:Inst):Int:=wM (λk=>W ((jA x).getD k 0*je (x.y.getD k default) x.days x.Q)) x.y.length
def Zxw(x:Inst)(hn:x.y.length<=1048576)(h:∀c∈x.y,c.J.length<=1048576):PP 146 [.agg (zB x)] (I (YY x)):=by
 have e:=Zwn x hn;have i:(jA x).length=x.y.length:=by simp[jA]
 obtain⟨f,hf⟩:∃f:Nat->Int,f=λk=>W ((jA x).getD k 0*je (x.y.getD k default) x.days x.Q):=⟨_,rfl⟩;have g:YY x=wM f x.y.length:=by rw[hf];rfl
 have a:∀k,zL (f k):=λk=>by rw[hf];exact Ji _
 rw[g];refine zt func146 ntmps146 results146 λS nx j=>?_;refine EK ?_;intro v0;refine EK ?_;intro v1;refine EK ?_;refine zq e ?_;have b:=kr (S:=ext S nx [.cells v0 25 (zB x),.cells v1 208 (Yh x yB yB (L (jA x)))]) x 181 [.ptr (nx+1) v1 0] f hn a (λk l T m=>by
  have hc:x.y[k]?=some (x.y.getD k default):=by rw[List.getD_eq_getElem?_getD,Ac l];rfl
  have n:(jA x)[k]?=some ((jA x).getD k 0):=by rw[List.getD_eq_getElem?_getD,Ac EA];rfl
  have:=Zwh (S:=T) (id:=nx+1) (ver:=v1) x yB yB (jA x) k (by rw[m _ (by rw[zS];simp),zS];rfl) hn hc (h _ (Aa hc)) n;rw[hf];exact this)
 refine EK ?_;refine λd=>(b.mono ?_).v;rintro _ _ ⟨rfl,rfl⟩;refine⟨_,_,rfl,zO d ?_⟩;exact EL j
def Zd(x:Inst):Nat->Int
 |0=>0
 |k+1=>qk (Zd x k) (je (x.y.getD k default) x.days x.Q)
def jM(x:Inst):Int:=wM (λk=>uA (x.y.getD k default) x.days x.Q) x.y.length
def ZZ(x:Inst):Int:=if 0<x.Q then qk (Zd x x.y.length) (vp (jM x) x.Q) else Zd x x.y.length
def Zxx(x:Inst)(hn:x.y.length<=1048576)(l:∀c∈x.y,c.J.length<=1048576)(j:∀k,zL (uA (x.y.getD k default) x.days x.Q)):PP 141 [.agg (zB x)] (I (ZZ x)):=by
 have d:∀k,k<x.y.length->x.y[k]?=some (x.y.getD k default):=λk f=>by rw[List.getD_eq_getElem?_getD,Ac f];rfl
 refine zt func141 ntmps141 results141 λS nx m=>?_;refine EK ?_;intro v0;refine EK ?_;intro v1;refine EK ?_;repeat apply za
 refine zb ?_;refine zj (zC (λs:Nat × Nat × Nat=>s.1<=x.y.length) (λ(k,v,w)=>[(1,.ptr nx v 0),(3,.ptr (nx+1) w 0),(4,I (Zd x k)),(13,I x.y.length),(14,I k)]) (λ(k,v,w)=>[.cells v 25 (zB x),.cells w 208 (Yh x yB yB yB)]) (λs=>x.y.length-s.1) (0,v0,v1) [] EB (by simp[Zd]) EB ?_);rintro⟨k,v,w⟩ f;simp only at f ⊢;refine EK ?_;refine za (zv rfl (λhc=>?_) (λhc=>?_));simp at hc;refine zh (aA (EK ?_));refine zb ?_;refine λg=>((ks x yB yB yB k (by rw[zS];rfl) hn (d k hc) (l _ (Aa (d k hc)))).mono ?_).v;rintro _ _ ⟨rfl,rfl⟩;refine⟨_,_,rfl,zO g ?_⟩;refine zb ?_;exact zr (k+1,v,w) [] hc EF (by simp[zu k EA,Zd]) rfl EB;simp at hc;obtain rfl:k=x.y.length:=EA;refine zx ?_;repeat apply za
 refine zb ?_;have h:=λv w=>kr (S:=ext S nx [.cells v 25 (zB x),.cells w 208 (Yh x yB yB yB)]) x 175 [.ptr (nx+1) w 0] (λk=>uA (x.y.getD k default) x.days x.Q) hn j (λk f T n =>
  Zwi (S:=T) (id:=nx+1) (ver:=w) x yB yB yB k (by rw[n _ (by rw[zS];simp),zS];rfl) hn (d k f) (l _ (Aa (d k f))))
 have i:=h v w;rw[show wM (λk=>uA (x.y.getD k default) x.days x.Q) x.y.length=jM x from rfl]at i;have a:ZZ x=if 0<x.Q then qk (Zd x x.y.length) (vp (jM x) x.Q) else Zd x x.y.length:=rfl;generalize ZZ x=res at *;generalize Zd x x.y.length=mo at *;generalize jM x=ne at *
 by_cases b:0<x.Q;rw[if_pos b]at a;have e:=tB ne x.Q b;refine zm (by simp[b]) ?_;refine aG (some [nx]) (Row.pures [0,1,2,4,5] (.alt 3 (Row.pures [6,7,8,9,10,11] .done) .stop)) mixed trivial ?_;refine(i.mono ?_).v;rintro _ _ ⟨rfl,rfl⟩;refine⟨by simp[yY],xl trivial ?_⟩;refine zJ (e) trivial ?_;refine zb ?_;refine EK ?_;exact zg (zi m EC (by rw[a];rfl));rw[if_neg b]at a;refine zk EF ?_;refine zh (EK ?_);exact zg (zi m EC (by rw[a];rfl))
def Fc(l:List α)(a q i:Nat)(h:a+q<=l.length):(l.take a++(l.take q++l.drop (a+q)))[i]?=l[if i<a then i else if i<a+q then i-a else i]?:=by by_cases h1:i<a;grind;rw[if_neg h1,Am EF,Az,Bt EA];grind
def Zxy{s:Operand}{t m k0 off id ver:Nat}(ho:o.op=.call { callee:=.builtin .copy,args:=#[s,x],argTypes:=#[t,t] })(ht:P.underlying t=some (.slice e))(g:(P.info? e).map (·.size)=some 1)
  (hs:ev F s=.sl id ver 1 off m) (hx:ev F x=.sl id ver 1 0 k0) (hid:S id=.cells ver dst cs) (hm:off+m=cs.length) (c6:0<m) (hk:k0<=cs.length) (c7:0<k0)
  (hK:K (I (min k0 m:Nat)) (S.set id (.cells ver dst (cs.take off++(cs.take (min k0 m)++cs.drop (off+min k0 m)))))):PO P jI n o F S K:=by
 intro G hG C w a N st next Q' h;have e1:=st.ev s;rw[(hG s (by grind[Op.operands,Call.operands])).trans hs]at e1;have e2:=st.ev x;rw[(hG x (by grind[Op.operands,Call.operands])).trans hx]at e2;have a7:∀c,o.op≠.defer c:=by intro c hc;rw[ho]at hc;cases hc
 generalize hv:a.eval s=v at e1;generalize hu:a.eval x=u at e2;cases e1 with
 |sl i1 i2 i3 =>
 rcases (i3 ver (by rw[hid];rfl)).2 rfl with ⟨_,q,_,_⟩|⟨b,k,ad,dcap,hl,rfl,_,hq0⟩
 omega;obtain rfl:=hq0 EA;cases e2 with
 |sl j1 j2 j3 =>
 rcases (j3 ver (by rw[hid];rfl)).2 rfl with ⟨_,q,_,_⟩|⟨b2,k2,ad2,scap,hl2,rfl,_,hq2⟩
 omega;rw[hl]at hl2;cases hl2;obtain rfl:=hq2 EA;obtain⟨hn,_⟩|⟨b',k',c,g1,g2,g3,g4,g5,g6⟩:=st.sim.cells id ver dst cs hid;simp_all;rw[hl]at g1;cases g1;obtain⟨vs,r⟩:∃vs,vs=c.toList.take (min k0 m):=⟨_,rfl⟩;have c8:c.toList.length=c.size:=Array.length_toList;have a2:vs.length=min k0 m:=by rw[r,Az];omega
 have a3:∀(j:Nat) (v:Value),vs[j]?=some v->j<min k0 m/\c[j]?=some v:=λj v f=>by rw[r,BV]at f;split at f;rename_i a8;rw[Array.getElem?_toList]at f;exact⟨a8,f⟩;cases f
 have y:∀j v,vs[j]?=some v->w.cell? ((⟨b,0,none⟩:Addr).add j)=some v:=λj v f=>by obtain⟨q1,q2⟩:=a3 j v f;rw[Addr.add_plain];simp[World.cell?,g2,q2]
 have a4:∀v∈vs,v.oneCell'=true:=λv a9=>by obtain⟨j,f⟩:=Co a9;obtain⟨q1,q2⟩:=a3 j v f;exact g5 j v EA q2
 have a0:=run_copy_row P w t t o.type e b off m dcap ⟨b,0,none⟩ k0 scap c dst vs ht g g2 (by rw[a2]) y EA a4;have d:=aW (P:=P) (a:=a) (w:=w) ho (by rw[hv,hu];exact a0);rw[a2,List.append_assoc,r]at d;generalize a5:w.setRow b (c.toList.take off++(c.toList.take (min k0 m)++c.toList.drop (off+min k0 m))).toArray=w' at d;have a1:w'.heap[b]?=some (.cells (c.toList.take off++(c.toList.take (min k0 m)++c.toList.drop (off+min k0 m))).toArray dst (0,0)):=by rw[<-a5];exact setRow_heap w b c _ dst _ g2
 have b7:w.grownBy w' (some b)/\w.drawn<=w'.drawn:=by rw[<-a5];exact⟨⟨rfl,rfl,rfl,by simp,λj f b8=>setRow_other w b j _ (λe=>b8 (by rw[e]))⟩,Af _⟩
 have hV:=λi=>Fc c.toList off (min k0 m) i EA;have hP:=λi=>Fc cs off (min k0 m) i EA;have d0:(c.toList.take off++(c.toList.take (min k0 m)++c.toList.drop (off+min k0 m))).length=c.size:=EF;have d1:(cs.take off++(cs.take (min k0 m)++cs.drop (off+min k0 m))).length=cs.length:=EF;generalize c.toList.take off++(c.toList.take (min k0 m)++c.toList.drop (off+min k0 m))=V at *;generalize cs.take off++(cs.take (min k0 m)++cs.drop (off+min k0 m))=cs' at *;have a6:∀i,i<cs.length->(if i<off then i else if i<off+min k0 m then i-off else i)<cs.length:=λi hi=>by split<;>(try split)<;>omega
 obtain⟨t1,t2⟩:=st.sim.turn (l:=C.loc id) (ver':=ver) (cs':=cs') hid (Af _) (λ_=>rfl) (by rw[hl];exact b7)
  (.inr ⟨b,k,_,hl,.inr (by rw[hl];rfl),a1,by simp;omega,by omega,λi z hi g=>by
    rw[AH,hV i,Array.getElem?_toList]at g;exact g5 _ z (a6 i EA) g,
   λi p z hp g=>by rw[AH,hV i,Array.getElem?_toList]at g;rw[hP i]at hp;exact g6 _ p z hp g⟩)
 exact qx a7 d (h _ _ _ _ _ hK (.sc _) t1 t2)
def Zxz(n:Nat)(hn:n<=1048576):PP 223 [U 1,U n] (.tup [U 0,U n]):=by
 intro S;refine⟨Le,λC w us d a b=>?_⟩;obtain⟨e,f,rfl⟩:=tK a;have r0:=b 0 _ e rfl rfl;have r1:=b 1 _ f rfl rfl;cases r0;cases r1;have h1:1*n/18446744073709551616=0:=EA;have h2:1*n%18446744073709551616=n:=EA;have hm:=bits_Mul 1 n EA EA w;rw[h1,h2]at hm;refine hm.mono ?_;rintro _ _ ⟨rfl,rfl⟩;refine⟨_,_,S,C,rfl,⟨rfl,rfl⟩,.tup rfl λj c v h1 h2=>?_,d,.refl _ _ _⟩
 match j,h1,h2 with
 |0,h1,h2=>cases h1;cases h2;exact .sc _
 |1,h1,h2=>cases h1;cases h2;exact .sc _
def ZxA(p:Int)(m:Nat):(List.replicate m p).flatMap Enc.enc=List.replicate m (I p):=by
 induction m with
 |zero=>rfl
 |succ m a=>rw[Br,Ax,a];rfl
def ZxB(p:Int)(n:Nat)(h1:1<=n)(hn:n<=1000):PP 177 [L [p],I n] (L (List.replicate n p)):=by
 have c:=Zxz n EA;have c0:¬(n:Int)<0:=EA;have o:IntKind.u64.wrap (n:Int)=n:=by simp only[IntKind.wrap,IntKind.bits,IntKind.signed];simp;omega
 have w2:IntKind.i64.wrap (n:Int)=n:=by rw[AD];omega
 have c1:¬(9223372036854775807:Int)<n:=EA;refine zt func177 ntmps177 results177 λS nx r=>?_;refine EK ?_;repeat apply za
 refine ze [] c0 ?_;refine aC ?_;have s:IntKind.u64.wrap 1=1:=EH;refine aF [] (zn o s) ?_;refine zq c ?_;repeat apply za
 refine ze [(2,23)] c1 ?_;refine aC (aF [] w2 ?_);refine⟨by omega,λv0=>?_⟩;refine EK ?_;refine λd=>kC (id:=nx) (ver:=v0) (e:=3) (l:=[I p]) rfl underlying26 ED (m:=n) rfl rfl (by rw[Zg];rfl) (by simp[qw]) h1 ?_;have f:List.take n [I p]++List.drop (min [I p].length n) (qw n (.int .i64 0))=List.replicate 1 (I p)++List.replicate (n-1) (I 0):=by
  rw[Ae EF];have:min [I p].length n=1:=EF;have t:qw n (.int .i64 0)=List.replicate n (I 0):=by apply Bi;simp[qw];intro i q1 q2;simp[qw,Nat.mod_one]
  rw[this,t,List.drop_replicate];rfl
 have g:min [I p].length n=1:=EF;rw[f,g];refine⟨_,_,yi _ (Af _) EB,zO d ?_⟩;refine aA (zC (λm:Nat=>1<=m/\m<=n) (λm=>[(7,.sl nx v0 1 0 n),(8,I m)]) (λm=>[.cells v0 3 (List.replicate m (I p)++List.replicate (n-m) (I 0))]) (λm=>n-m) 1 [] ⟨Af _,h1⟩ EB EB ?_);rintro m ⟨u,h⟩;repeat apply za
 refine zb ?_;by_cases hc:m<n;repeat apply za
 refine zm EF ?_;refine zh (zj ?_);have a:(List.replicate m (I p)++List.replicate (n-m) (I 0):List PV).length=n:=EF;obtain⟨q,v⟩:∃q,q=min m (n-m):=⟨_,rfl⟩;have b:(List.replicate m (I p)++List.replicate (n-m) (I 0):List PV).take m++((List.replicate m (I p)++List.replicate (n-m) (I 0):List PV).take q++(List.replicate m (I p)++List.replicate (n-m) (I 0):List PV).drop (m+q))=List.replicate (m+q) (I p)++List.replicate (n-(m+q)) (I 0):=by
  have w:(List.replicate m (I p)++List.replicate (n-m) (I 0):List PV).take m=List.replicate m (I p):=D7 EB;have e2:(List.replicate m (I p)++List.replicate (n-m) (I 0):List PV).take q=List.replicate q (I p):=by rw[BF EF,List.take_replicate,Bt EA]
  have x:(List.replicate m (I p)++List.replicate (n-m) (I 0):List PV).drop (m+q)=List.replicate (n-(m+q)) (I 0):=by rw[CG,AT EB,AI,Cf,List.drop_replicate];congr 1;omega
  rw[w,e2,x,<-List.append_assoc,List.replicate_append_replicate]
 have y:1<=q:=EA;have j:m+q<=n:=EA;have z:IntKind.i64.wrap ((m:Int)+q)=((m+q:Nat):Int):=by rw[AD];omega
 refine zA (some []) (Row.pures [0,1,2,3,4,5,6] (.alt 7 (Row.pures [8,9] .done) .stop)) mixed h ?_;refine⟨by rfl,(Zxy (id:=nx) (ver:=v0) (off:=m) (m:=n-m) (k0:=m) (e:=3) rfl underlying26 ED rfl rfl (by rw[Zg];rfl) (by rw[a];omega) EA (by rw[a];omega) EA ?_)⟩;rw[<-v,b,yi _ (Af _) EB];refine⟨by simp[yY],xl z ?_⟩;exact zr (m+q) [] ⟨by omega,j⟩ EA EB rfl EB;obtain rfl:m=n:=EA;refine aE ?_;refine zx (zY 0 rfl ?_);rw[Bs,List.replicate_zero,AA];have k:=ZxA p m;refine EK ?_;exact zg (zi r EC (by simp[zp,k]))
def Ym(x:Inst)(n:Nat)(a b:List Int)(k:Nat):Int:=Yi n x.Q (x.y.getD k default) (List.replicate n (W (a.getD (k+1) 0+b.getD (k+1) 0)))
structure BndOk (x:Inst) (n:Nat):Prop where
 days:x.days=n
 n1:1<=n
 ac:n<=60
 ag:x.y.length<=1048576
 J:∀c∈x.y,c.J.length<=1000
 aa:∀c∈x.y,CustMade c n
 Z:∀c∈x.y,CustFits c
 vis:∀c∈x.y,∀price:List Int,price.length<=1000->(∀z∈price,zL z)->VisOk (qJ n x.Q c price).1
def ZxC{id ver:Nat}(x:Inst)(n:Nat)(a b:List Int)(o:PV)(k:Nat)(hx:BndOk x n)(j:k<x.y.length)(u:a.length=x.y.length+1)(hb:b.length=x.y.length+1)(r:S id=.cells ver 208 (Yh x (L a) (L b) o)):
  SP 144 [.ptr id ver 0,I k] S (λq S'=>q=I (Ym x n a b k)/\S'=S):=by
 have l:=Zwk x a b k j hx.ag u hb;unfold Ym;have hc:x.y[k]?=some (x.y.getD k default):=by rw[List.getD_eq_getElem?_getD,Ac j];rfl
 have hm:=Aa hc;obtain⟨t,tl,b1,b2,b3,v,w⟩:=el 8 rfl x.y k j;obtain rfl:t=x.y.getD k default:=by rw[hc]at b1;exact(Option.some.inj b1).symm
 have g:=Ji (a.getD (k+1) 0+b.getD (k+1) 0);generalize W (a.getD (k+1) 0+b.getD (k+1) 0)=p at *;generalize x.y.getD k default=c at *;have d:=ZxB p n hx.n1 (by have:=hx.ac;omega);have e:∀z∈List.replicate n p,zL z:=λz y=>by rw[(List.mem_replicate.1 y).2];exact g
 have h:(List.replicate n p).length<=1000:=by rw[Cf];have:=hx.ac;omega
 have i:PP 179 [.agg (yh c),I n,I x.Q,L (List.replicate n p)] (I (Yi n x.Q c (List.replicate n p))):=λS=>Zwj c n x.Q (.inl rfl) e h (hx.aa c hm) (hx.J c hm) hx.ac (hx.Z c hm) (hx.vis c hm _ h e);generalize Yi n x.Q c (List.replicate n p)=res at *;have f:=hx.days;generalize List.replicate n p=pl at *;rw[<-f]at d i;refine yr func144 ntmps144 results144 λnx s=>?_;have m:id<nx:=jt s r EB;have x1:∀obs,ext S nx obs id=.cells ver 208 (Yh x (L a) (L b) o):=λobs=>(zG m).trans r;refine EK ?_;refine aG (some [id]) RO mixed x1 ?_;refine zJ (l) x1 ?_;refine zJ (d) x1 ?_;refine aG (some [id]) Rj mixed (zR x1 j v w) ?_;refine zJ (i) trivial ?_;exact EL s
def YZ(x:Inst)(a b:List Int):Int:=if (ZV (W (a.getD 0 0+b.getD 0 0)) (ZZ x)).2=true then (ZV (W (a.getD 0 0+b.getD 0 0)) (ZZ x)).1 else 9223372036854775807
def Y0(x:Inst)(n:Nat)(a b:List Int):Int:=xR (wM (Ym x n a b) x.y.length) (YZ x a b)
def Ff(x:Inst)(n:Nat)(a b:List Int)(hx:BndOk x n)(m:∀k,zL (uA (x.y.getD k default) x.days x.Q))(o:∀k,zL (Ym x n a b k))(l:zL (YZ x a b))(ha:a.length=x.y.length+1)(hb:b.length=x.y.length+1):
  PP 98 [.agg (zB x),.agg [L a,L b]] (I (Y0 x n a b)):=by
 have p:=Zxx x hx.ag (λc hc=>by have:=hx.J c hc;omega) m;have h:=ZvQ (W (a.getD 0 0+b.getD 0 0)) (ZZ x);have g:=dC (wM (Ym x n a b) x.y.length) (YZ x a b) (kq _ _) l;have hv:Y0 x n a b=xR (wM (Ym x n a b) x.y.length) (YZ x a b):=rfl;rw[hv];have f:YZ x a b=if (ZV (W (a.getD 0 0+b.getD 0 0)) (ZZ x)).2=true then (ZV (W (a.getD 0 0+b.getD 0 0)) (ZZ x)).1 else 9223372036854775807:=rfl;obtain⟨t,tl,b1,b2,b3,r⟩:=zF rfl a 0 EA;obtain⟨u,a0,c1,c2,c3,s⟩:=zF rfl b 0 EA;have e1:a.getD 0 0=t:=by rw[List.getD_eq_getElem?_getD,b1];rfl
 have e2:b.getD 0 0=u:=by rw[List.getD_eq_getElem?_getD,c1];rfl
 rw[e1,e2]at h f;have i:0<a.length:=EA;have j:0<b.length:=EA;have e:∀(S:Store) (id ver:Nat),S id=.cells ver 208 (Yh x (L a) (L b) yB)->SP 143 [.agg (zB x),.fn (.func 144) [.ptr id ver 0] []] S (λq S'=>q=I (wM (Ym x n a b) x.y.length)/\S'=S):=λS id ver y =>
  kr (S:=S) x 144 [.ptr id ver 0] (Ym x n a b) hx.ag o (λk hk T hT=>ZxC (S:=T) (id:=id) (ver:=ver) x n a b yB k hx hk ha hb (by rw[hT _ (by rw[y];simp),y]))
 generalize wM (Ym x n a b) x.y.length=su at *;generalize ZZ x=le at *;generalize YZ x a b=ca at *;generalize ZV (W (t+u)) le=mz at *;obtain⟨mv,w⟩:=mz;simp only at h f;refine zt func98 ntmps98 results98 λS nx z=>?_;refine EK ?_;intro v0 v1;refine EK ?_;intro v2;refine aG (some [nx,nx+1]) RA mixed (zR r s i j) ?_;refine zJ (p) (zR r s i j) ?_;refine zJ (h) (zR r s i j) ?_;repeat apply za
 refine zb ?_;cases w with
 |true =>
 obtain rfl:ca=mv:=by rw[f];exact if_pos rfl
 refine aC (EK ?_);refine λd=>((e _ (nx+2) v2 (by rw[zS];rfl)).mono ?_).v;rintro _ _ ⟨rfl,rfl⟩;refine⟨_,_,rfl,zO d ?_⟩;refine λd=>((g _).mono ?_).v;rintro _ _ ⟨rfl,rfl⟩;refine⟨_,_,rfl,zO d ?_⟩;exact EL z
 |false =>
 obtain rfl:ca=9223372036854775807:=by rw[f];exact if_neg EB
 refine aD ?_;refine zb ?_;refine EK ?_;refine λd=>((e _ (nx+2) v2 (by rw[zS];rfl)).mono ?_).v;rintro _ _ ⟨rfl,rfl⟩;refine⟨_,_,rfl,zO d ?_⟩;refine λd=>((g _).mono ?_).v;rintro _ _ ⟨rfl,rfl⟩;refine⟨_,_,rfl,zO d ?_⟩;exact EL z
def Xc(x:Inst)(n:Nat)(a b:List Int):Int:=qk (Y0 x n a b) (YY x)
def ZxD(x:Inst)(n:Nat)(a b:List Int)(hx:BndOk x n)(e:∀k,zL (uA (x.y.getD k default) x.days x.Q))(f:∀k,zL (Ym x n a b k))(d:zL (YZ x a b))(i:a.length=x.y.length+1)(hb:b.length=x.y.length+1):
  PP 101 [.agg (zB x),.agg [L a,L b]] (I (Xc x n a b)):=by
 have g:=Ff x n a b hx e f d i hb;have h:=Zxw x hx.ag (λc hc=>by have:=hx.J c hc;omega);have j:Xc x n a b=qk (Y0 x n a b) (YY x):=rfl;generalize Xc x n a b=z at *;generalize Y0 x n a b=va at *;generalize YY x=ba at *;refine zt func101 ntmps101 results101 λS nx l=>?_;refine EK ?_;intro v0 v1;refine aG (some [nx,nx+1]) RL mixed trivial ?_;refine zJ (g) trivial ?_;refine zJ (h) trivial ?_;exact zg (zi l EC (by rw[j];rfl))
def ZxE{cap:Int}{c:Cust}(h:(qJ n cap c price).2=false):(qJ n cap c price).1=[]:=by unfold qJ at h ⊢;split at h;rename_i a;rw[if_pos a];unfold uY at h ⊢;split at h;rename_i h1;rw[if_pos h1];cases h;rename_i a;rw[if_neg a];split at h;rename_i b;rw[if_pos b];unfold uZ at h ⊢;split at h;rename_i h1;rw[if_pos h1];cases h;rename_i b;rw[if_neg b];unfold XY at h ⊢;split at h;cases h;rename_i h1;rw[if_neg h1];split at h;cases h;rename_i h2;rw[if_neg h2]
def ZxF{c:Cust}(hm:CustMade c n)(hn:n<=60)(cap:Int)(price:List Int):VisOk (qJ n cap c price).1:=by
 cases h:(qJ n cap c price).2 with
 |false=>rw[ZxE h];exact⟨by simp,by simp,by simp⟩
 |true =>
 have a:=dT hm hn cap price h;exact⟨by have:=a.len;omega,λs hs=>by have:=a.ok s hs;omega,λs hs=>by have:=a.ok s hs;unfold zL;omega⟩
def ZxG{x:Inst}(h:InstQ x n):BndOk x n :=
 ⟨h.k.a.days,h.t.n1,h.k.a.ac,by have:=h.ad;omega,h.k.a.J,h.k.a.aa,λc hc=>(h.k.a.aa c hc).Z,λc hc price _ _=>ZxF (h.k.a.aa c hc) h.k.a.ac _ _⟩
def bf:zL 0:=⟨by decide,by decide⟩
def Fg(c:Cust)(n cap:Int):zL (uA c n cap):=by unfold uA;split;exact Ji _;unfold vq qk;split;exact bf;exact Ji _
def ZxH(price:List Int)(v:List Visit):zL (YO price v):=by
 have:∀(v:List Visit) (s:Int),zL s->zL (v.foldl (λs w=>W (s+ZU price w.d)) s):=by
  intro v;induction v with
  |nil=>intro s h;exact h
  |cons w v a=>intro s _;exact a _ (Ji _)
 exact this v 0 bf
def Fh(n:Nat)(cap:Int)(c:Cust)(price:List Int):zL (Yi n cap c price):=by unfold Yi;split;unfold Zu;split;exact ZxH _ _;exact Ji _;unfold aT;split<;>exact Ji _
def Fi(x:Inst)(a b:List Int):zL (YZ x a b):=by unfold YZ;split;unfold ZV;split;exact bf;split;exact bf;exact Ji _;exact⟨by decide,by decide⟩
def ZxI{x:Inst}(h:BndOk x n)(a b:List Int)(c:a.length=x.y.length+1)(hb:b.length=x.y.length+1):
  PP 98 [.agg (zB x),.agg [L a,L b]] (I (Y0 x n a b)) :=
 Ff x n a b h (λk=>Fg _ _ _) (λk=>Fh _ _ _ _) (Fi x a b) c hb
def ZxJ{x:Inst}(h:BndOk x n)(a b:List Int)(c:a.length=x.y.length+1)(hb:b.length=x.y.length+1):
  PP 101 [.agg (zB x),.agg [L a,L b]] (I (Xc x n a b)) :=
 ZxD x n a b h (λk=>Fg _ _ _) (λk=>Fh _ _ _ _) (Fi x a b) c hb
structure Clm where
 i:List Int
 m:Int
 s:Int
def Yn(x:Inst)(c:Clm):Nat:=xF c.s (x.y.length+1)
def Vo(x:Inst)(c:Clm):Nat:=xF (yX c.s) ((c.i.getD (Yn x c) 0).toNat+1)
def Jj(x:Inst)(c:Clm):List Int:=qN x (c.i.set (Yn x c) (W (c.i.getD (Yn x c) 0-Vo x c)))
def Jk(x:Inst)(n:Nat)(i:List Int):Int:=Y0 x n (qV x i) i
def Vp(x:Inst)(n:Nat)(c:Clm):Clm:=if c.m<Jk x n (Jj x c) then ⟨Jj x c,Jk x n (Jj x c),yX (yX c.s)⟩ else ⟨c.i,c.m,yX (yX c.s)⟩
def Vq(x:Inst):List Int:=qN x (List.replicate (x.y.length+1) 2147483648)
def wA(x:Inst)(n:Nat)(s:Int):Nat->Clm
 |0=>⟨Vq x,Jk x n (Vq x),IntKind.u64.wrap s⟩
 |k+1=>Vp x n (wA x n s k)
def Xd(x:Inst)(n:Nat)(s:Int)(k:Nat):Int:=Xc x n (qV x (wA x n s k).i) (wA x n s k).i
def Vr(x:Inst)(i:List Int):Prop:=i.length=x.y.length+1/\∀z∈i,0<=z/\z<=2147483648
def kX{x:Inst}(d:qG x)(l:List Int):Vr x (qN x l):=by refine⟨eh x l,λz c=>?_⟩;unfold qN at c;obtain⟨b,-,rfl⟩:=Aj.1 c;have:=ZwH (f:=λa=>arc x a b) (p:=b) (lo:=0) (hi:=2147483648) EH EH (λk=>d k b) (x.y.length+1);omega
def ZxK{x:Inst}(a:qG x){c:Clm}(h:Vr x c.i):Vr x (Vp x n c).i:=by unfold Vp;split;exact kX a _;exact h
theorem kY{x:Inst}(a:qG x)(n:Nat)(s:Int):∀k,Vr x (wA x n s k).i
 |0=>kX a _
 |k+1=>ZxK a (kY a n s k)
def ZxL{x:Inst}(hx:BndOk x n)(ha:qG x)(s:Int)(b:Nat)(hb:b<=1000):
  ∃pa pb,PP 61 [.agg (zB x),I s,I b] (.tup [.agg [pa,pb],I (Xd x n s b)]):=by
 refine⟨L (qV x (wA x n s b).i),L (wA x n s b).i,?_⟩;have hn:=hx.ag;have e0:wA x n s 0=⟨Vq x,Jk x n (Vq x),IntKind.u64.wrap s⟩:=rfl;have j:∀i:List Int,i.length=x.y.length+1->PP 98 [.agg (zB x),.agg [L (qV x i),L i]] (I (Jk x n i)):=λi hi=>by unfold Jk;exact ZxI hx (qV x i) i (kF x i) hi
 have a3:PP 96 [.agg (zB x)] (.agg [L (qV x (wA x n s 0).i),L (wA x n s 0).i]):=by rw[e0];dsimp only;unfold Vq;exact ZwJ x hn
 have a4:PP 98 [.agg (zB x),.agg [L (qV x (wA x n s 0).i),L (wA x n s 0).i]] (I (wA x n s 0).m):=by rw[e0];dsimp only;exact j _ (by unfold Vq;exact eh x _)
 have o:PP 101 [.agg (zB x),.agg [L (qV x (wA x n s b).i),L (wA x n s b).i]] (I (Xd x n s b)):=by unfold Xd;exact ZxJ hx _ _ (kF x _) (kY ha n s b).1
 have p:PP 60 [I b,I 0,I 1000] (I b):=by have:=W7 b 0 1000;rwa[show min (max (b:Int) 0) 1000=b by omega]at this
 have a5:(wA x n s 0).s=IntKind.u64.wrap s:=by rw[e0]
 clear e0;have q:∀k,wA x n s (k+1)=Vp x n (wA x n s k):=λ_=>rfl;have a6:=kY ha n s;have y:=λ(b:List Int) (pl:Nat) (d:Int) hb hp=>ZwK x (qV x b) b pl d hn hb hp;have a7:∀l,(qN x l).length=x.y.length+1:=eh x;generalize Xd x n s b=res at *;generalize wA x n s=C at *;generalize qV x=O at *;refine zt func61 ntmps61 results61 λS nx hd=>?_;refine EK ?_;intro v0 v1;refine EK ?_;refine zq a3 ?_;refine λe=>((vm s xM).mono ?_).v;rintro _ _ ⟨v2,rfl,rfl⟩;refine⟨_,_,jE _,zO e ?_⟩;intro v3;rw[<-a5];refine EK ?_;refine zq a4 ?_;repeat apply za
 refine zb ?_;refine zq p ?_;refine zj (zC (λk:Nat=>k<=b) (λk=>[(3,.ptr nx v0 0),(6,.ptr (nx+1) v1 0),(8,.ptr (nx+3) v3 0),(9,.ptr (nx+2) v2 0),(10,I (C k).m),(23,I b),(24,I k)]) (λk=>[.cells v0 25 (zB x),.cells v1 113 [.sc (.slice none 0 0),.sc (.slice none 0 0)],.cells v2 205 (xT (C k).s),.cells v3 113 [L (O (C k).i),L (C k).i]]) (λk=>b-k) 0 [] EB EB EB ?_);rintro k hk;refine EK ?_;refine za (zv rfl (λhc=>?_) (λhc=>?_));simp at hc;have a8:=q k;obtain⟨hl,a9⟩:=a6 k;generalize d1:C k=c at *;refine zh (aA ?_);have b7:Yn x c<x.y.length+1:=X4 _ EA;have z:=λ(S:Store) hS=>aX c.s (x.y.length+1) EA EA (S:=S) (id:=nx+2) (v:=v2) hS;have b8:xF c.s (x.y.length+1)=Yn x c:=rfl;rw[b8]at z;have w1:IntKind.i64.wrap ((x.y.length:Int)+1)=((x.y.length+1:Nat):Int):=by rw[AD];omega
 obtain⟨t,tl,b1,b2,b3,f0⟩:=zF rfl c.i (Yn x c) EA;have c6:c.i.getD (Yn x c) 0=t:=by rw[List.getD_eq_getElem?_getD,b1];rfl
 have d2:=a9 t (Aa b1);obtain⟨w,d3⟩:∃w:Nat,(w:Int)=t+1:=⟨(t+1).toNat,by omega⟩;have a0:=λ(S:Store) hS=>aX (yX c.s) w EA EA (S:=S) (id:=nx+2) (v:=v2) hS;have c7:xF (yX c.s) w=Vo x c:=by unfold Vo;rw[c6,show t.toNat+1=w by omega]
 rw[c7]at a0;have w2:IntKind.i64.wrap (t+1)=(w:Int):=by rw[AD];omega
 have a1:=y c.i (Yn x c) (Vo x c) hl b7;have c8:qN x (c.i.set (Yn x c) (W (c.i.getD (Yn x c) 0-Vo x c)))=Jj x c:=rfl;rw[c8]at a1;have hv:=j (Jj x c) (a7 _);have a:C (k+1)=if c.m<Jk x n (Jj x c) then ⟨Jj x c,Jk x n (Jj x c),yX (yX c.s)⟩ else ⟨c.i,c.m,yX (yX c.s)⟩:=by rw[a8];unfold Vp;rfl
 have a2:Yn x c<c.i.length:=EA;generalize Yn x c=pl at *;generalize Vo x c=off at *;generalize Jj x c=tr at *;generalize Jk x n tr=va at *;generalize yX c.s=s1 at *;generalize yX s1=s2 at *;obtain⟨ci,cm,cs⟩:=c;simp only at *;refine aF [] w1 ?_;refine λe=>((z _ (by rw[zS];rfl)).mono ?_).v;rintro _ _ ⟨rfl,rfl⟩;refine⟨_,_,yi _ EA EB,zO e ?_⟩;obtain⟨lc,r⟩:∃lc,lc=L ci:=⟨_,rfl⟩;rw[<-r];have d0:Xm prog 26 lc (I pl)=some (.ip (I t::tl)):=by rw[r];simp -implicitDefEqProofs [Xm,a2,f0]
 clear f0 a2;refine za (xZ [] EG EG λK Gc Gh hK g u X f hX=>?_);simp -implicitDefEqProofs [f,hX,d0,w2,-Xm];try clear f hX X
 refine g _ _ _ _ _ _ _ λe=>((a0 _ (by rw[zS];rfl)).mono ?_).v;rintro _ _ ⟨rfl,rfl⟩;refine⟨_,_,yi _ EA EB,?_⟩;clear g u;clear Gc Gh;refine w8 e (D:=[]) EG λGc Gh g u X f hX=>?_;simp -implicitDefEqProofs [f,hX];clear f hX X;refine hK _ _ _ ?_;clear hK g u;clear K Gc Gh;subst r;refine EK ?_;refine zq a1 ?_;intro v4;refine EK ?_;refine zq hv ?_;refine EK ?_;by_cases h:cm<va;rw[if_pos h]at a;refine zm (by simp[h]) ?_;refine zb ?_;refine zb ?_;exact zr (k+1) [_] hc EA (by simp[zu k EA,a]) rfl (by simp[a];rfl);rw[if_neg h]at a;refine zk (by simp[h]) ?_;refine zh (zb ?_);exact zr (k+1) [_] hc EA (by simp[zu k EA,a]) rfl (by simp[a];rfl);simp at hc;obtain rfl:k=b:=EA;refine zx (aG (some [nx,nx+3]) RQ mixed trivial ?_);refine zJ (o) trivial ?_;exact zg (zi hd EC (by simp[zp]))
def ey(l:List UInt8)(k:Nat):(bs l)[k]?=l[k]?:=by by_cases h:k<l.length;rw[Ac h,getElem?_pos (bs l) k (by rw[vr];exact h)];rfl;rw[Ao EA,getElem?_neg (bs l) k (by rw[vr];omega)]
def kZ{a b:ByteArray}(h:a.toList=b.toList):a=b:=by rw[Lib.toList_data,Lib.toList_data]at h;cases a;cases b;simp at h;congr
def bg{a b:ByteArray}(h:a≠b):qD .eql a b=some (.bool false):=by have h2:¬a.toList=b.toList:=λe=>h (kZ e);simp[qD,h2]
def Fj{w:List UInt8}:bs w=bs []<->w=[]:=by constructor;intro h;have:=congrArg ByteArray.size h;rw[vr,vr]at this;exact Av (by simpa using this);rintro rfl;rfl
def ZxM(w:List UInt8)(hl:w.length<=1099511627776):PP 110 [T (bs w)] (B (Za w)):=by
 have i:=vr w;refine zt func110 ntmps110 results110 λS nx f=>?_;refine EK ?_;repeat apply za
 refine ze [] i ?_;refine zj (zC (λk:Nat=>k<=w.length/\∀c∈w.take k,33<=c.toNat/\c.toNat<=126) (λk=>[(0,T (bs w)),(5,I w.length),(6,I k)]) (λ_=>[]) (λk=>w.length-k) 0 [] EB EB EB ?_);rintro k ⟨v,j⟩;refine EK ?_;refine za (zv rfl (λhc=>?_) (λhc=>?_));simp at hc;obtain⟨c,a⟩:∃c,w[k]?=some c:=⟨_,Ac hc⟩;have l:=(ey w k).trans a;refine zh (aA (EK ?_));by_cases h3:c.toNat<33;have b:(c.toNat:Int)<33:=EA;refine aF [(4,13)] (zR l h3 b zE) ?_;refine zm (by simp[*]) ?_;refine EK ?_;exact zg (zi f EC (by rw[EP a EA];rfl));have b:¬(c.toNat:Int)<33:=EA;by_cases q:126<c.toNat;have g:126<(c.toNat:Int):=EA;refine aF [(4,13)] (yx l h3 q b g) ?_;refine zm (by simp[*]) ?_;refine EK ?_;exact zg (zi f EC (by rw[EP a EA];rfl));have g:¬126<(c.toNat:Int):=EA;refine aF [(4,13)] (yx l h3 q b g) ?_;refine zk (by simp[*]) ?_;refine zh (zb ?_);have m:w.take (k+1)=w.take k++[c]:=by rw[AE,a];rfl
 exact zr (k+1) [] ⟨hc,by rw[m];intro d f;rw[AB,A5]at f;exact f.elim (j d) (λe=>by subst e;omega)⟩ EA (by simp[zu k EA]) rfl EB;simp at hc;obtain rfl:k=w.length:=EA;rw[Ah]at j;refine zx (WD (λ_=>.inl rfl) ?_);by_cases h0:w=[];subst h0;refine za (xZ [] EG EG λK Gc Gh r n o X h s=>?_);simp -implicitDefEqProofs [h,s,qD];try clear h s X
 refine r _ _ _ ?_;clear r n o;clear K Gc Gh;exact EL f;have p:bs w≠bs []:=λe=>h0 (Fj.1 e);have t:qD .neq (bs w) ⟨#[]⟩=some (.bool true):=by
  have h2:¬(bs w).toList=(bs []).toList:=λe=>p (kZ e);have h3:((bs w).toList==(bs []).toList)=false:=by simpa using h2
  show some (Value.bool (!((bs w).toList==(bs []).toList)))=_;rw[h3];rfl
 have u:Za w=true:=(uE w).2 ⟨h0,j⟩;refine aF [] t ?_;exact zg (zi f EC (by simp[zp,u]))
def Jl(o:Option Nat):PV:=match o with
 |none=>.tup [I 0,B false]
 |some n=>.tup [I n,B true]
def ld(w:List UInt8)(hl:w.length<=1099511627776):PP 76 [T (bs w)] (Jl (yF w)):=by
 obtain _|⟨c0,wt⟩:=w;refine zt func76 ntmps76 results76 λS nx f=>?_;refine EK ?_;repeat apply za
 refine xZ [(2,8),(6,12)] EG EG λK Gc Gh hK a0 a1 X u hX=>?_;simp -implicitDefEqProofs [u,hX,qD,undef];try clear u hX X
 refine hK _ _ _ ?_;clear hK a0 a1;clear K Gc Gh;refine aD ?_;refine EK ?_;exact EL f;obtain⟨w,v⟩:∃w,w=c0::wt:=⟨_,rfl⟩;have x:w[0]?=some c0:=by rw[v];rfl
 have a2:w≠[]:=by rw[v];simp
 have o:Zb w=(decide (c0.toNat=48)&&decide (1<w.length)):=by rw[v];cases wt<;>simp[Zb]
 rw[<-v]at hl ⊢;clear v wt;obtain⟨B,hB⟩:∃B,B=bs w:=⟨_,rfl⟩;have b:B.size=w.length:=by rw[hB,vr]
 have hg:∀k,B[k]?=w[k]?:=λk=>by rw[hB];exact ey w k
 have g:=(hg 0).trans x;have he:qD .eql B ⟨#[]⟩=some (.bool false):=by
  have:B≠⟨#[]⟩:=by intro h;have:=congrArg ByteArray.size h;rw[b]at this;exact a2 (Av (by simpa[ByteArray.size] using this))
  exact bg this
 rw[<-hB];by_cases a:Zb w=true;have hr:yF w=none:=by unfold yF;rw[if_pos a]
 rw[hr];rw[o]at a;simp only[Aw,decide_eq_true_eq]at a;obtain⟨q1,q2⟩:=a;have h3:(c0.toNat:Int)=48:=EA;refine zt func76 ntmps76 results76 λS nx f=>?_;refine EK ?_;repeat apply za
 refine ze [(2,8),(6,12)] (zU b g he h3 q1 (zn q2 zE)) ?_;refine zm EF ?_;refine EK ?_;exact EL f;have p:(c0.toNat=48/\¬1<w.length)\/¬c0.toNat=48:=by rw[o]at a;simp only[Aw,decide_eq_true_eq,not_and]at a;by_cases h1:c0.toNat=48;exact .inl ⟨h1,a h1⟩;exact .inr h1
 have n:yF w=if Zy w=true then some (xG w) else none:=by unfold yF;rw[if_neg a]
 rw[n];clear n a o;refine zt func76 ntmps76 results76 λS nx f=>?_;refine EK ?_;obtain⟨h1,h2⟩|h1:=p;have h3:(c0.toNat:Int)=48:=EA;repeat apply za
 refine ze [(2,8),(6,12)] (zU b g he h3 h2 zE) ?_;refine zk EF ?_;rotate_left;have h3:¬(c0.toNat:Int)=48:=EA;repeat apply za
 refine ze [(2,8),(6,12)] (yx b g he h3 zE) ?_;refine zk (by simp[*]) ?_;all_goals
  clear h1 h3 he g x;refine zh (EK ?_);repeat apply za
  refine ze [] b ?_;refine zj (zC (λk:Nat=>k<=w.length/\∀c∈w.take k,48<=c.toNat/\c.toNat<=57) (λk=>[(0,T B),(4,I (xG (w.take k))),(19,I w.length),(20,I k)]) (λ_=>[]) (λk=>w.length-k) 0 [] EB (by simp[xG]) EB ?_);rintro k ⟨hk,ha⟩;refine EK ?_;refine za (zv rfl (λhc=>?_) (λhc=>?_));simp at hc;obtain⟨c,i⟩:∃c,w[k]?=some c:=⟨_,Ac hc⟩;have j:=(hg k).trans i;have a4:=ER (w.take k) λc hc=>(ha c hc).2;refine zh (aA (EK ?_));by_cases h3:c.toNat<48;have l:(c.toNat:Int)<48:=EA;repeat apply za
  refine ze [(4,27)] (zR j h3 l zE) ?_;refine zm (by simp[*]) ?_;refine EK ?_;exact zg (zi f EC (by rw[en i EA];rfl));have l:¬(c.toNat:Int)<48:=EA;by_cases h4:57<c.toNat;have q:57<(c.toNat:Int):=EA;repeat apply za
  refine ze [(4,27)] (yx j h3 l h4 q) ?_;refine zm (by simp[*]) ?_;refine EK ?_;exact zg (zi f EC (by rw[en i EA];rfl));have q:¬57<(c.toNat:Int):=EA;repeat apply za
  refine ze [(4,27)] (yx j h3 l h4 q) ?_;refine zk (by simp[*]) ?_;refine zh ?_;have y:w.take (k+1)=w.take k++[c]:=by rw[AE,i];rfl
  have m:xG (w.take (k+1))=if 100000000000000000<=xG (w.take k) then 1000000000000000000 else 10*xG (w.take k)+(c.toNat-48):=by rw[y];exact bb _ _
  have z:∀d∈w.take (k+1),48<=d.toNat/\d.toNat<=57:=by rw[y];intro d f;rw[AB,A5]at f;exact f.elim (ha d) (λe=>by subst e;omega)
  obtain⟨d1,r⟩:∃d1,xG (w.take (k+1))=d1:=⟨_,rfl⟩;rw[r]at m;generalize xG (w.take k)=t at *
  by_cases w5:100000000000000000<=t;rw[if_pos w5]at m;have s:100000000000000000<=(t:Int):=EA;refine aF [] (zn w5 s) ?_;refine zm (by simp[*]) ?_;refine zb ?_;refine zb ?_;exact zr (k+1) [] ⟨hc,z⟩ EA (by simp[zu k EA,r,m]) rfl EB;rw[if_neg w5]at m;have s:¬100000000000000000<=(t:Int):=EA;have w1:W ((t:Int)*10)=(t:Int)*10:=by simp only[W,AD];omega
  have w2:IntKind.u8.wrap ((c.toNat:Int)-48)=(c.toNat:Int)-48:=by
   have e:IntKind.u8.wrap ((c.toNat:Int)-48)=((c.toNat:Int)-48)%256:=by simp[IntKind.wrap,IntKind.bits,IntKind.signed]
   rw[e];omega
  have w3:W ((c.toNat:Int)-48)=(c.toNat:Int)-48:=by simp only[W,AD];omega
  have w4:W ((t:Int)*10+((c.toNat:Int)-48))=d1:=by simp only[W,AD];omega
  refine aF [] (zn w5 s) ?_;refine zk (by simp[*]) ?_;refine ze [] (yx j w1 w2 w3 w4) ?_;refine zb ?_;exact zr (k+1) [] ⟨hc,z⟩ EA (by simp[zu k EA,r]) rfl EB;simp at hc;obtain rfl:k=w.length:=EA;refine zx (WD (λ_=>.inl rfl) ?_);rw[Ah]at ha ⊢;have a3:Zy w=true:=by unfold Zy;rw[Ay];intro c hc;simpa using ha c hc
  refine EK ?_;exact zg (zi f EC (by simp[zp,a3,Jl]))
abbrev yE:PV:=.sc (.slice none 0 0)
def vE(o:Option (List Int)):PV:=match o with
 |none=>.tup [yE,B false]
 |some l=>.tup [L l,B true]
def ZxN(l:List (List UInt8))(hl:l.length<=1048576)(f:∀w∈l,w.length<=1099511627776):PP 153 [L (l.map bs),.fn (.func 76) [] []] (vE (jg l)):=by
 obtain⟨zs,g⟩:∃zs:List Int,zs=l.map zT:=⟨_,rfl⟩;have a0:zs.length=l.length:=by rw[g,List.length_map]
 have a1:(l.map bs).length=l.length:=EB;have r:∀(k:Nat) (w:List UInt8),l[k]?=some w->zs[k]?=some (zT w)/\(l.map bs)[k]?=some (bs w):=λk n e=>⟨by rw[g,Ai,e];rfl,by rw[Ai,e];rfl⟩;have i:(∀w∈l,(yF w).isSome=true)->jg l=some zs:=λh=>by rw[Vk h,g]
 generalize l.map bs=ws at *;refine zt func153 ntmps153 results153 λS nx hd=>?_;refine EK ?_;refine EK ?_;refine⟨by omega,λv0=>?_⟩;repeat apply za
 refine zb ?_;refine zj (zC (λs:Nat × Nat × List PV=>(s.1<=zs.length/\∀w∈l.take s.1,(yF w).isSome=true)/\s.2.2.take s.1=(zs.take s.1).flatMap Enc.enc/\s.1<=s.2.2.length/\(0<s.1->s.2.2.length=s.1)/\(zs.length=0->s.2.2=[])) (λ(k,w,cs)=>[(1,.fn (.func 76) [] []),(6,.sl nx w 1 0 k),(14,L ws),(15,I ws.length),(16,I k)]) (λ(k,w,cs)=>[.cells w 3 cs]) (λs=>zs.length-s.1) (0,v0,_) [] ⟨⟨by simp,by simp⟩,by simp,by simp,λh=>absurd h (C7 _),?_⟩ EB rfl ?_);intro h;have:ws.length=0:=EA;simp[this,qw];rintro⟨k,w,cs⟩ ⟨⟨hk,b⟩,c,j,m,o⟩;simp only at hk b c j m o ⊢;refine EK ?_;refine za (zv rfl (λhc=>?_) (λhc=>?_))
 .simp at hc;obtain⟨u,d⟩:∃u,l[k]?=some u:=⟨_,Ac EA⟩;obtain⟨g1,g2⟩:=r k u d;obtain⟨t,tl,b1,b2,b3,f0⟩:=zF rfl ws k hc;obtain rfl:t=bs u:=by rw[b1]at g2;exact Option.some.inj g2
  have a:=ld u (f u (Aa d));refine zh (aA (aF [] (zn f0 hc) ?_));cases p:yF u with
  |none =>
  rw[p]at a;simp only[Jl]at a;refine EK ?_;refine zq a ?_;repeat apply za
  refine zb ?_;refine aD ?_;refine EK ?_;exact zg (zi hd EC (by rw[ET d p];rfl))
  |some n =>
  rw[p]at a;simp only[Jl]at a;have v:zT u=n:=by unfold zT;rw[p];rfl
  rw[v]at g1;have x:(zs.take (k+1)).flatMap Enc.enc=cs.take k++[I n]:=by rw[c,AE,g1,Ar];rfl
  have q:∀w∈l.take (k+1),(yF w).isSome=true:=by
   rw[AE,d];intro w f;rw[AB]at f;obtain f|f:=f;exact b w f;obtain rfl:w=u:=by simpa using f
   rw[p];rfl
  refine EK ?_;refine zq a ?_;repeat apply za
  refine zb ?_;refine zk rfl (zh (ze [] j ?_));refine⟨by omega,?_⟩;refine zb ?_;exact zr (k+1,w+1,cs.take k++[I n]) [] ⟨⟨by simp;omega,q⟩,by rw[x];exact Ae EF,by simp;omega,λ_=>by simp;omega,λh=>by omega⟩ EF (by simp[zu k EA]) rfl EB
 simp at hc;obtain rfl:k=zs.length:=EA;rw[Ae EA]at b;have y:cs.length=zs.length:=by obtain h|h:=Ch zs.length;rw[o h,h];rfl;exact m h
 have z:cs=zs.flatMap Enc.enc:=by rw[Ah,Ae EA]at c;exact c
 refine zx (zY 0 rfl ?_);refine aF [] y ?_;exact zg (zi hd EC (by simp[zp,z,i b,vE]))
def ez(l:List (List UInt8))(hl:l.length<=1048576)(c:∀w∈l,w.length<=1099511627776):PP 116 [L (l.map bs)] (vE (jg l)):=by
 have h:=ZxN l hl c;cases b:jg l with
 |none =>
 rw[b]at h;simp only[vE]at h ⊢;refine zt func116 ntmps116 results116 λS nx a=>?_;refine EK ?_;refine EK ?_;refine zq h ?_;exact EL a
 |some z =>
 rw[b]at h;simp only[vE]at h ⊢;refine zt func116 ntmps116 results116 λS nx a=>?_;refine EK ?_;refine EK ?_;refine zq h ?_;exact EL a
def ZxO{f:FuncId}{v:Value}(vs:List Value)(b:qS P f)(h:∀w,Calls P f vs.toArray w λe w'=>e=.returned v/\w'=w):Pure P f (vs.map .sc) (.sc v):=by
 intro S;refine⟨b,λC w us c hl d=>?_⟩;have a:us=vs.toArray:=by
  apply Array.ext;simp_all;intro i h1 h2;have hi:i<vs.length:=by simpa using h2
  have:=d i (.sc vs[i]) us[i] EB (Ba h1);generalize us[i]=u at this;cases this;simp
 subst a;refine(h w).mono ?_;rintro e w' ⟨rfl,rfl⟩;exact⟨_,_,S,C,rfl,⟨rfl,rfl⟩,.sc _,c,.refl _ _ _⟩
def Fk(s:List UInt8)(c:UInt8):PP 194 [T (bs s),T (bs [c])] (I (Lib.indexByte s c)) :=
 ZxO [.string (bs s),.string (bs [c])] Ld λw=>stringslite_Index_one (bs s) c w
def Fl(a b:List UInt8)(c:UInt8)(h:c ∉ a):Lib.indexByte (a++c::b) c=a.length:=by induction a<;>grind[Lib.indexByte]
def bh(l:List UInt8)(i j:Nat):(bs l).extract i j=bs ((l.take j).drop i):=by apply ByteArray.ext;simp[List.drop_take]
def ZxP(a b:List UInt8)(c:UInt8)(h:c ∉ a)(hl:(a++c::b).length<=4611686018427387904):PP 150 [T (bs (a++c::b)),T (bs [c])] (.tup [T (bs a),T (bs b),B true]):=by
 have hI:=Fk (a++c::b) c;rw[Fl a b c h]at hI;have f:(bs (a++c::b)).extract 0 a.length=bs a:=by rw[bh];simp
 have d:(bs (a++c::b)).extract (a.length+1) (bs (a++c::b)).size=bs b:=by rw[bh,vr,Ah,show a++c::b=(a++[c])++b by simp,List.drop_left' EB]
 have e:(bs (a++c::b)).size=a.length+1+b.length:=by rw[vr];simp;omega
 have g:(bs [c]).size=1:=rfl;rw[e]at d;have l:W ((a.length:Int)+1)=((a.length+1:Nat):Int):=zu _ (by simp at hl;omega);generalize bs (a++c::b)=X at *;generalize bs [c]=Y at *;generalize a.length=n at *;refine zt func150 ntmps150 results150 λS nx m=>?_;refine EK ?_;repeat apply za
 refine zb ?_;refine zq hI ?_;refine EK ?_;refine aD ?_;have i:n<=n+1+b.length:=EA;have j:n+1<=n+1+b.length:=EA;have k:(0:Int)<=(n:Int)+1:=EA;refine aG none Rk mixed (zU f d e g l (zD i j k)) ?_;exact EL m
theorem Fm(a:List UInt8)(c:UInt8)(h:c ∉ a):Lib.indexByte a c=-1:=by induction a<;>grind[Lib.indexByte]
def ZxQ(a:List UInt8)(c:UInt8)(h:c ∉ a):PP 150 [T (bs a),T (bs [c])] (.tup [T (bs a),T (bs []),B false]):=by
 have hI:=Fk a c;rw[Fm a c h]at hI;generalize bs a=X at *;generalize bs [c]=Y at *;refine zt func150 ntmps150 results150 λS nx b=>?_;refine EK ?_;repeat apply za
 refine zb ?_;refine zq hI ?_;refine EK ?_;refine aC (EK ?_);exact zg (zi b rfl rfl)
def lg(c:UInt8)(s:List UInt8):PV:=match wy c s with
 |some (a,b)=>.tup [T (bs a),T (bs b),B true]
 |none=>.tup [T (bs s),T (bs []),B false]
def ZxR(s:List UInt8)(c:UInt8)(hl:s.length<=4611686018427387904):PP 108 [T (bs s),T (bs [c])] (lg c s):=by
 unfold lg;cases d:wy c s with
 |none =>
 have hc:=ZxQ s c (ei d);simp only[];refine zt func108 ntmps108 results108 λS nx e=>?_;refine EK ?_;refine EK ?_;refine zq hc ?_;exact EL e
 |some p =>
 obtain⟨a,b⟩:=p;obtain⟨rfl,f⟩:=X8 d;have hc:=ZxP a b c f hl;simp only[];clear d;refine zt func108 ntmps108 results108 λS nx e=>?_;refine EK ?_;refine EK ?_;refine zq hc ?_;exact EL e
theorem Fo(c:UInt8):∀(k:Nat) (s:List UInt8),s.count c<=k->Lib.splitB (bs [c]) 0 k (bs s)=(yZ c s).map bs
 |k,s,d=>by
  rw[Zxe];cases h:wy c s with
  |none =>
  grind[Lib.index_one,Fm,ei,Lib.splitB_miss]
  |some p =>
  obtain⟨a,b⟩:=p;obtain⟨rfl,e⟩:=X8 h;have hn:Lib.indexB (bs (a++c::b)) (bs [c])=a.length:=(Lib.index_one _ c).trans (Fl a b c e);rw[List.count_append,List.count_cons_self]at d
  match k,d with
  |k+1,d =>
  have g:=Fo c k b EA;have f:(bs [c]).size=1:=rfl;rw[Lib.splitB_hit _ _ _ _ _ hn,f,bh,bh,vr,Ah,show a++c::b=(a++[c])++b by simp,List.drop_left' EB,g];simp
def ZxS(c:UInt8)(s:List UInt8):(yZ c s).length=s.count c+1:=by induction s<;>grind[yZ]
def ZxT(s:List UInt8)(c:UInt8)(hl:s.length<=1048576):PP 151 [T (bs s),T (bs [c]),I 0,I (-1)] (L ((yZ c s).map bs)):=by
 intro S;refine⟨Lb,λC w us z n m=>?_⟩;obtain⟨u0,u1,u2,u3,rfl⟩:∃a b c d,us=#[a,b,c,d]:=by
  match us,n with
  |⟨[a,b,c,d]⟩,_=>simp
 have y:(bs [c]).size=1:=rfl;have r0:=m 0 _ u0 rfl rfl;have r1:=m 1 _ u1 rfl rfl;have r2:=m 2 _ u2 rfl rfl;have r3:=m 3 _ u3 rfl rfl;cases r0;cases r1;cases r2;cases r3;have k:Lib.countB (bs s) (bs [c])=s.count c:=Lib.count_one c s;have a0:s.count c<=s.length:=List.count_le_length;have g:=Any.strings_genSplit_core lays221 ED (bs s) (bs [c]) 0 (-1) (s.count c+1) w (by rw[vr];omega) EA (BO _)
  (λx ce _=>(strings_Index_one x c _).mono λe w' h=>⟨by grind[Lib.index_one],h.2⟩)
  ((strings_Count_one (bs s) c w).mono λe w' h=>⟨by rw[h.1,k];rfl,h.2⟩)
  EH EH (by grind[vr])
 rw[B5,Fo c _ s (Af _)]at g;refine g.mono ?_;rintro e w' ⟨rfl,rfl⟩;obtain⟨o,q,t3⟩:=z.alloc (.cells (Lib.cellsOf ((yZ c s).map bs) (s.count c+1)) (lays221_ren.t 9));have j:((yZ c s).map bs).length=s.count c+1:=by rw[List.length_map];exact ZxS c s
 refine⟨_,_,S,C,rfl,⟨rfl,rfl⟩,?_,o,q⟩;clear g k;generalize (yZ c s).map bs=l at *;generalize hN:s.count c+1=N at *;have f:Lib.cellsOf l N=(l.map Value.string).toArray:=by unfold Lib.cellsOf;rw[j,Bs];simp
 have r:l.flatMap Enc.enc=l.map T:=by
  clear f j o q;induction l with
  |nil=>rfl
  |cons x l ih=>simp_all
 rw[f]at o q ⊢;unfold L;rw[r];refine .lst1 EA (by unfold xx;omega) (QP w _) t3 (λ_=>by simp) (λi v hi hv=>?_) (λi p v u hv=>?_);rw[AH,A3,Ai]at hv;obtain⟨x,_,rfl⟩:=An.1 hv;rfl;rw[AH,A3,Ai]at hv;rw[Ai]at u;obtain⟨x,hx,rfl⟩:=An.1 hv;rw[hx]at u;cases u;exact .sc _
def ZxU(s:List UInt8)(c:UInt8)(hl:s.length<=1048576):PP 109 [T (bs s),T (bs [c])] (L ((yZ c s).map bs)):=by have h:=ZxT s c hl;refine zt func109 ntmps109 results109 λS nx a=>?_;refine EK ?_;refine EK ?_;refine zq h ?_;exact EL a
abbrev wl(ls:List (List (List UInt8))):List (List ByteArray):=ls.map (·.map bs)
def Yo(o:Option (List (List (List UInt8)))):PV:=match o with
 |none=>.tup [yE,I 2]
 |some ls=>.tup [L (wl ls),I 0]
def Xe(a:ByteArray):qD .neq a a=some (.bool false):=by simp[qD]
def Xf{a b:ByteArray}(h:a≠b):qD .neq a b=some (.bool true):=by have h2:¬a.toList=b.toList:=λe=>h (kZ e);simp[qD,h2]
def lh(t:List UInt8)(hl:t.length<=1048576):PP 68 [T (bs t)] (Yo (y9 t)):=by
 refine zt func68 ntmps68 results68 λS nx hd=>?_;refine EK ?_;refine EK ?_;refine za (qO 4 52 1 rfl λv1=>?_);refine zj (zC (λs:List UInt8 × List (List (List UInt8)) × Nat=>s.1.length<=t.length/\s.2.1.length+s.1.length<=t.length/\y9 t=(y9 s.1).map (s.2.1++·)) (λ(r,ls,v)=>[(0,T (bs r)),(4,.sl nx v 1 0 ls.length)]) (λ(r,ls,v)=>[.cells v 52 ((wl ls).flatMap Enc.enc)]) (λs=>s.1.length) (t,[],v1) [] ⟨Af _,by simp,by simp⟩ EB EB ?_);rintro⟨r,ls,v1⟩ ⟨hr,a2,l⟩;simp only at hr a2 l ⊢;have a6:r.length<=1048576:=EA;by_cases h0:r=[];subst h0;repeat apply za
 refine ze [] Xe ?_;refine aE ?_;refine zx (zY 0 rfl ?_);refine EK ?_;rw[Vi]at l;exact zg (zi hd EC (by simp[zp,l,Yo]));have a3:bs r≠bs []:=λh=>h0 (Fj.1 h);have c:=ZxR r 10 EA;unfold lg at c;repeat apply za
 refine ze [] (Xf a3) ?_;refine aD ?_;refine zh (zj ?_);cases d:wy 10 r with
 |none =>
 rw[d]at c;simp only[]at c;refine EK ?_;refine zq c ?_;repeat apply za
 refine zb ?_;refine aD ?_;refine EK ?_;exact zg (zi hd EC (by rw[l,EQ h0 d];rfl))
 |some p =>
 obtain⟨a,b⟩:=p;rw[d]at c;simp only[]at c;have g:=ej d;obtain⟨m,a7⟩:=X8 d;have a8:a.length+b.length+1=r.length:=by rw[m];simp;omega
 have e:=ZxU a 32 EA;have a4:=Zxf 32 a;have n:∀w∈yZ 32 a,w.length<=1048576:=λw f=>by have:=Zxg 32 a w f;omega
 obtain⟨ws,o⟩:∃ws,ws=yZ 32 a:=⟨_,rfl⟩;rw[<-o]at g e a4 n;refine EK ?_;refine zq c ?_;repeat apply za
 refine zb ?_;refine aC (EK ?_);refine zq e ?_;repeat apply za
 refine zb ?_;refine zj (zC (λk:Nat=>k<=ws.length/\∀w∈ws.take k,Za w=true) (λk=>[(4,.sl nx v1 1 0 ls.length),(6,T (bs b)),(8,L (ws.map bs)),(23,L (ws.map bs)),(24,I ws.length),(25,I k)]) (λ_=>[.cells v1 52 ((wl ls).flatMap Enc.enc)]) (λk=>ws.length-k) 0 [] EB EB EB ?_);rintro k ⟨hk,i⟩;refine EK ?_;refine za (zv rfl (λhc=>?_) (λhc=>?_))
 .simp at hc;obtain⟨t',tl,b1,b2,b3,f0⟩:=zF rfl (ws.map bs) k (by simpa using hc);obtain⟨u,hu,rfl⟩:∃u,ws[k]?=some u/\bs u=t':=by rw[Ai]at b1;simpa using b1
  have q:k<ws.length:=by simpa using hc
  have j:=ZxM u (by have:=n u (Aa hu);omega);refine zh (aA (aF [] (zn f0 q) ?_));refine EK ?_;refine zq j ?_;cases y:Za u with
  |false =>
  refine aD ?_;refine EK ?_;have z:y9 r=none:=Zxi d (k:=k) (w:=u) (by rw[<-o];exact hu) y;exact zg (zi hd EC (by rw[l,z];rfl))
  |true =>
  refine aC (zb ?_);exact zr (k+1) [] ⟨q,by
   rw[AE,hu];intro w f;rw[AB]at f;obtain f|f:=f;exact i w f;obtain rfl:w=u:=by simpa using f
   exact y⟩ EA (by simp[zu k EA]) rfl EB
 simp at hc;obtain rfl:k=ws.length:=EA;rw[Ah]at i;rw[if_pos (Ay.2 i)]at g;refine zx ?_;have a0:(wl ls).length=ls.length:=EB;have a5:((wl ls).flatMap Enc.enc).take ls.length=(wl ls).flatMap Enc.enc:=by rw[<-a0];exact KH _
 refine aF [] a0 ?_;refine⟨by omega,?_⟩;refine zb ?_;rw[a5];have a1:b.length<r.length:=EA;exact zr (b,ls++[ws],v1+1) [] ⟨AF (D8 a1) hr,by simp;omega,by rw[l,g,CP];congr 1;funext x;simp⟩ a1 EB rfl EB
variable {i:Nat}
def ZxV{w:Wd}{c:UInt8}(h:w[i]?=some c)(h1:¬(c.toNat=48\/c.toNat=49)):vZ w=false:=by
 unfold vZ;have:w.all (λc=>decide (c.toNat=48\/c.toNat=49))=false:=by rw[Cb];exact⟨c,Aa h,by simpa using h1⟩
 rw[this,DI]
def ZxW{w:Wd}{c:UInt8}(h:w[i]?=some c):wV w (i+1)=if c=49 then jp (wV w i) i else wV w i:=by
 have:w.getD i 0=c:=by rw[List.getD_eq_getElem?_getD,h];rfl
 show (if w.getD i 0=49 then jp (wV w i) i else wV w i)=_;rw[this]
def Ze(w:Wd):Nat × Int:=if vZ w=true then if 64<w.length then (0,3) else (wV w w.length,0) else (0,2)
def ZxX(n d:Nat)(hn:n<2^64)(w:World):Calls prog 198 #[.int .u64 n,.int .i64 d] w λe w'=>e=.returned (.int .u64 (jp n d))/\w'=w:=by
 go_enter func198,ntmps198
 by_cases h:(d:Int)<64
 .have h3:=rN d EA;have b:bits BinOp.or IntKind.u64 (n:Int) (2^d)=((n ||| 2^d:Nat):Int):=by have:=bits_or_u64_nat n (2^d) EA (by have:(2:Nat)^d<2^64:=CN EH EA;omega);simpa using this
  have a:jp n d=n ||| 2^d:=by unfold jp;rw[if_pos ⟨by omega,h⟩];rfl
  go_wp2
  go_ret
  exact⟨by show Ending.returned (.int .u64 ((n ||| 2^d:Nat):Int))=_;rw[a],rfl⟩
 have a:jp n d=n:=by unfold jp;rw[if_neg EA]
 go_wp2
 go_ret
 exact⟨rfl,rfl⟩
def ZxY(s:Wd)(hl:s.length<=1048576)(w:World):Calls prog 152 #[.string (bs s)] w λe w'=>e=.returned (.tuple #[.int .u64 (Ze s).1,.int .i64 (Ze s).2])/\∃i,w'=w.iter (bs s) i:=by
 have z:=vr s
 go_enter func152,ntmps152
 go_wp2
 go_loopg [4,5] s.length (λg s4 s5 wx=>∃i:Nat,i+g=s.length/\s4=.int .u64 (wV s i)/\s5=.int .i64 i/\wx=w.iter (bs s) i/\∀c∈s.take i,c.toNat=48\/c.toNat=49)
 case atStart=>exact⟨0,by omega,rfl,rfl,rfl,by simp⟩
 case round =>
  obtain⟨i,a1,rfl,rfl,rfl,k⟩:=hrel;have l:Aside (∀c∈s.take i,c.toNat=48\/c.toNat=49):=k;clear k;cases gk with
  |zero =>
  obtain rfl:i=s.length:=EA;have b:=λty=>run_next_end (P:=prog) w (bs s) s.length ty (by rw[z];omega);have m:s≠[]->vZ s=true:=λh0=>by unfold vZ;rw[decide_eq_true h0,CE,Ay];have h9:=l.out;rw[Ah]at h9;exact λc hc=>decide_eq_true (h9 c hc)
  by_cases h0:s=[]
  .subst h0;clear m;simp only[Ag]at b
   go_wp2
   go_ret2
   exact⟨rfl,_,rfl⟩
  have o:=m h0;clear m;have p:¬(s.length:Int)=0:=by intro h;exact h0 (Av EA)
  obtain q|q:=Bo 64 s.length
  .have t:(64:Int)<s.length:=EA;have j:Ze s=(0,3):=by unfold Ze;rw[if_pos o,if_pos q]
   go_wp2
   go_ret2
   exact⟨by rw[j];rfl,_,rfl⟩
  have t:¬(64:Int)<s.length:=EA;have j:Ze s=(wV s s.length,0):=by unfold Ze;rw[if_pos o,if_neg EA]
  go_wp2
  go_ret2
  exact⟨rfl,_,rfl⟩
  |succ g =>
  have hi:i<s.length:=EA;obtain⟨x,hx⟩:∃x:UInt8,s[i]?=some x:=⟨_,Ac hi⟩;have hb:i<(bs s).size:=EA;have d:(bs s)[i]'hb=x:=by have:=Ad.1 hx;exact this.2
  have Hx:Aside (s[i]?=some x):=hx;have a:=ZxW hx;clear hx;have u:=ex s i;by_cases q0:x.toNat=48
  .have b:=λty=>run_next_ascii (P:=prog) w (bs s) i ty hb (by rw[d,q0];decide);rw[d,q0]at b;have p:¬x=49:=by rintro rfl;exact absurd q0 EH
   rw[if_neg p]at a
   go_wp2
   go_roundg g
   case measure=>omega
   case rel =>
    refine⟨i+1,by omega,by rw[a],by simp,rfl,?_⟩;rw[AE,Hx.out];intro c hc;rw[AB]at hc;obtain hc|hc:=hc;exact l.out c hc;obtain rfl:c=x:=by simpa using hc
    exact .inl q0
  by_cases n:x.toNat=49
  .have a0:x=49:=UInt8.toNat_inj.1 n;have b:=λty=>run_next_ascii (P:=prog) w (bs s) i ty hb (by rw[d,n];decide);rw[d,n]at b;rw[if_pos a0]at a;have v:=ZxX (wV s i) i u
   go_wp2_with fail
   refine(v _).mono ?_;rintro _ _ ⟨rfl,rfl⟩;rw[<-a];clear v
   go_wp2
   go_roundg g
   case measure=>omega
   case rel =>
    refine⟨i+1,by omega,by rw[a],by simp,rfl,?_⟩;rw[AE,Hx.out];intro c hc;rw[AB]at hc;obtain hc|hc:=hc;exact l.out c hc;obtain rfl:c=x:=by simpa using hc
    exact .inr n
  have j:Ze s=(0,2):=by unfold Ze;rw[if_neg (by rw[ZxV Hx.out (λh=>h.elim q0 n)];simp)]
  have b:=λty=>run_next_any (P:=prog) w (bs s) i ty hb;have f:(Utf8.decode (bs s) i).1≠48/\(Utf8.decode (bs s) i).1≠49:=by by_cases y:x.toNat<128;rw[decode_ascii (bs s) i hb (by rw[d];exact y),d];exact⟨q0,n⟩;have:=(decode_high (bs s) i hb (by rw[d];omega)).1;omega
  obtain⟨r,hr⟩:∃r,r=Utf8.decode (bs s) i:=⟨_,rfl⟩;rw[<-hr]at b f;have q2:¬(r.1:Int)=48:=by have:=f.1;omega
  have q3:¬(r.1:Int)=49:=by have:=f.2;omega
  clear hr f a
  go_wp2
  go_ret2
  exact⟨by rw[j];rfl,_,rfl⟩
def ZxZ(s:Wd)(hl:s.length<=1048576):PP 152 [T (bs s)] (.tup [U (Ze s).1,I (Ze s).2]):=by
 intro S;refine⟨Lc,λC w us b a d=>?_⟩;obtain⟨e,rfl⟩:=dV a;have r0:=d 0 _ e rfl rfl;cases r0;refine(ZxY s hl w).mono ?_;rintro _ _ ⟨rfl,i,rfl⟩;obtain⟨f,g,_⟩:=b.alloc (.stringIter (bs s) i);refine⟨_,_,S,C,rfl,⟨rfl,rfl⟩,.tup rfl λj c v h1 h2=>?_,f,g⟩
 match j,h1,h2 with
 |0,h1,h2=>cases h1;cases h2;exact .sc _
 |1,h1,h2=>cases h1;cases h2;exact .sc _
def Vs{a b:List UInt8}:bs a=bs b<->a=b:=by constructor;intro h;have:=congrArg (λx:ByteArray=>x.data.toList) h;exact this;rintro rfl;rfl
def Wb(ws:Ln)(k:Nat)(h:k<ws.length):∃u tl,ws[k]?=some u/\List.drop k ((ws.map bs).flatMap Enc.enc)=Enc.enc (bs u)++tl:=by
 obtain⟨t,tl,b1,b2,b3,a⟩:=zF rfl (ws.map bs) k (by simpa using h);obtain⟨u,b,rfl⟩:∃u,ws[k]?=some u/\bs u=t:=by rw[Ai]at b1;simpa using b1
 exact⟨u,tl,b,a⟩
def Fq(a b:Ln)(o:a.length<=1048576)(hb:b.length<=1048576):PP 111 [L (a.map bs),L (b.map bs)] (B (decide (a=b))):=by
 refine zt func111 ntmps111 results111 λS nx f=>?_;refine EK ?_;by_cases hl:a.length=b.length;repeat apply za
 refine ze [] hl ?_;refine zk (by simp[hl]) ?_;refine zh ?_;repeat apply za
 refine zb ?_;refine zj (zC (λk:Nat=>k<=a.length/\a.take k=b.take k) (λk=>[(0,L (a.map bs)),(1,L (b.map bs)),(12,I a.length),(13,I k)]) (λ_=>[]) (λk=>a.length-k) 0 [] EB (by simp[hl]) EB ?_);rintro k ⟨p,g⟩;refine EK ?_;refine za (zv rfl (λhc=>?_) (λhc=>?_));simp at hc;obtain⟨u,tl,j,l⟩:=Wb a k hc;obtain⟨v,n,hv,m⟩:=Wb b k EA;have e:k<b.length:=EA;refine zh (aA (EK ?_));by_cases c:u=v;subst c;refine aG none Rg mixed (yx l m hc e Xe) ?_;refine aC (zb ?_);exact zr (k+1) [] ⟨hc,by rw[AE,AE,j,hv,g]⟩ EA (by simp[zu k EA]) rfl EB;have i:=Xf (λh=>c (Vs.1 h):bs u≠bs v);refine aG none Rg mixed (yx l m hc e i) ?_;refine aD ?_;refine EK ?_;have d:¬a=b:=by rintro rfl;rw[j]at hv;exact c (Option.some.inj hv)
 exact zg (zi f EC (by simp[d,zp]));simp at hc;obtain rfl:k=a.length:=EA;rw[Ah,hl,Ah]at g;subst g;refine zx (EK ?_);exact zg (zi f EC EB);repeat apply za
 refine zb ?_;refine zm EF ?_;refine EK ?_;have d:¬a=b:=by rintro rfl;exact hl rfl
 exact zg (zi f EC (by simp[d,zp]))
structure Rdr where
 pos:Nat
 d:Int
 v:Int
 c:Int
 l:Int
 m:Int
 bad:Bool
abbrev Jm(ls:List Ln)(r:Rdr)(cs ds:PV):List PV:=[L (wl ls),I r.pos,I r.d,I r.v,I r.c,I r.l,cs,ds,I r.m,B r.bad]
def qu(ls:List Ln)(r:Rdr):Rdr:=if r.pos<ls.length then { r with pos:=r.pos+1 } else r
def bi{id ver:Nat}(ls:List Ln)(r:Rdr)(cs ds:PV)(j:S id=.cells ver 129 (Jm ls r cs ds))(hl:ls.length<=1048576):
  SP 112 [.ptr id ver 0] S (λq S'=>q=L ((zZ ls r.pos).map bs)/\S'=S.set id (.cells ver 129 (Jm ls (qu ls r) cs ds))):=by
 obtain⟨pos,d,v,c,l,m,bad⟩:=r;have b:(wl ls).length=ls.length:=EB;refine yr func112 ntmps112 results112 λnx k=>?_;have e:id<nx:=jt k j EB;have g1:¬nx<=id:=EA;have x1:∀obs,ext S nx obs id=.cells ver 129 (Jm ls ⟨pos,d,v,c,l,m,bad⟩ cs ds):=λobs=>(zG e).trans j;by_cases h:pos<ls.length;have f:¬(ls.length:Int)<=pos:=EA;refine EK ?_;repeat apply za
 refine zA (some [id]) Rf mixed (zR x1 g1 b f) ?_;refine aC ?_;have o:IntKind.i64.wrap ((pos:Int)+1)=(pos:Int)+1:=by rw[AD];omega
 refine aF [] (zD x1 g1 o) ?_;obtain⟨A,n⟩:∃A,A=Ob.cells ver 129 (Jm ls ⟨pos+1,d,v,c,l,m,bad⟩ cs ds):=⟨_,rfl⟩;have g:qu ls ⟨pos,d,v,c,l,m,bad⟩=⟨pos+1,d,v,c,l,m,bad⟩:=if_pos h;have i:ext (S.set id (.cells ver 129 [L (wl ls),I ((pos:Int)+1),I d,I v,I c,I l,cs,ds,I m,B bad])) nx []=ext (S.set id A) nx []:=by rw[n];rfl
 have x2:∀obs,ext (S.set id A) nx obs id=.cells ver 129 (Jm ls ⟨pos+1,d,v,c,l,m,bad⟩ cs ds):=λobs=>by rw[zG e,q11,n]
 rw[i];obtain⟨t,tl,b1,b2,b3,p⟩:=zF rfl (wl ls) pos (by rw[b];exact h);have a:t=(zZ ls pos).map bs:=by
  have:ls[pos]?=some (zZ ls pos):=by unfold zZ;rw[List.getD_eq_getElem?_getD,Ac h];rfl
  rw[Ai,this]at b1;exact(Option.some.inj b1).symm
 have w2:IntKind.i64.wrap (pos:Int)=(pos:Int):=by rw[AD];omega
 refine aG (some [id]) Rk mixed (zU x2 g1 w2 p b h) ?_;refine zg ⟨_,_,by simp;rfl,⟨by simp[zp,a],by rw[g,n]⟩,zV ?_⟩;exact jf k e _;have f:(ls.length:Int)<=pos:=EA;have g:qu ls ⟨pos,d,v,c,l,m,bad⟩=⟨pos,d,v,c,l,m,bad⟩:=if_neg h;have a:zZ ls pos=[]:=by unfold zZ;rw[List.getD_eq_getElem?_getD,Ao EA];rfl
 refine EK ?_;repeat apply za
 refine zA (some [id]) Rf mixed (zR x1 g1 b f) ?_;refine aD ?_;refine EK ?_;refine Zh 2 rfl ?_;rw[g];simp only[a];rw[QC S id _ j];exact EL k
def LnsOk(ls:List Ln):Prop:=ls.length<=1048576/\∀l∈ls,l.length<=1048576/\∀w∈l,w.length<=1048576
theorem LnsOk.at{ls:List Ln}(h:LnsOk ls)(k:Nat):(zZ ls k).length<=1048576/\∀w∈zZ ls k,w.length<=1048576:=by
 unfold zZ;rw[List.getD_eq_getElem?_getD];cases a:ls[k]? with
 |none=>simp
 |some l=>exact h.2 l (Aa a)
def Zx0(l:Ln)(k:Nat):wP l (k+1)=wP l k++[l.getD (2*k+1) []]:=by simp[wP,AC]
def eA(l:Ln)(k:Nat):(wP l k).length=k:=by simp[wP]
def Zx1{l:Ln}(a:∀w∈l,w.length<=1048576):∀w∈wP l k,w.length<=1048576:=by
 intro w hm;obtain⟨i,_,rfl⟩:=Aj.1 hm;rw[List.getD_eq_getElem?_getD];cases b:l[2*i+1]? with
 |none=>simp
 |some u=>exact a u (Aa b)
def bj{ws:Ln}{u:Wd}(h:ws[k]?=some u):ws.getD k []=u:=by rw[List.getD_eq_getElem?_getD,h];rfl
def Fr{id ver:Nat}(ls:List Ln)(r:Rdr)(cs ds:PV)(b:Ln)(hS:S id=.cells ver 129 (Jm ls r cs ds))(hl:LnsOk ls)(hn:b.length<=1000):
  SP 113 [.ptr id ver 0,L (b.map bs)] S (λq S'=>q=vE (qK (zZ ls r.pos) b)/\S'=S.set id (.cells ver 129 (Jm ls (qu ls r) cs ds))):=by
 have d:=λS (h:S id=_)=>bi (S:=S) (id:=id) (ver:=ver) ls r cs ds h hl.1;obtain⟨b8,a4⟩:=hl.at r.pos;obtain⟨S1,g⟩:∃S1,S1=S.set id (.cells ver 129 (Jm ls (qu ls r) cs ds)):=⟨_,rfl⟩;rw[<-g];generalize zZ ls r.pos=ln at *;refine yr func113 ntmps113 results113 λnx m=>?_;have y:id<nx:=jt m hS EB;have g1:¬nx<=id:=EA;have a5:yd nx S1:=by rw[g];exact jf m y _
 refine EK ?_;refine za (xZ [] EG EG λK Gc Gh hK j a0 X e hX=>?_);simp -implicitDefEqProofs [e,hX];try clear e hX X
 refine j _ _ _ _ _ _ _ λo=>((d _ ((zG y).trans hS)).mono ?_).v;rintro _ _ ⟨rfl,rfl⟩;refine⟨S1,[],by rw[qE _ y,<-g],?_⟩;clear j a0;clear Gc Gh;refine w8 o (D:=[]) EG λGc Gh j a0 X e hX=>?_;simp -implicitDefEqProofs [e,hX];clear e hX X;refine hK _ _ _ ?_;clear hK j a0;clear K Gc Gh;clear d o m g hS;have m:=a5;have w0:IntKind.i64.wrap (2*(b.length:Int))=2*b.length:=by rw[AD];omega
 by_cases p:ln.length=2*b.length
 .have c0:(ln.length:Int)=2*b.length:=EA;repeat apply za
  refine ze [] (zn w0 c0) ?_;refine aC (EK ?_);refine za (qO 7 9 1 rfl λv1=>?_);refine EK ?_;refine zj (zC (λs:Nat × Nat=>s.1<=b.length/\∀i,i<s.1->ln.getD (2*i) []=b.getD i []) (λ(k,v)=>[(6,L (ln.map bs)),(7,.sl nx v 1 0 k),(18,L (b.map bs)),(19,I b.length),(20,I k)]) (λ(k,v)=>[.cells v 9 (((wP ln k).map bs).flatMap Enc.enc)]) (λs=>b.length-s.1) (0,v1) [] ⟨by simp,λi hi=>absurd hi (Nat.not_lt_zero _)⟩ EB (by simp[wP]) ?_);rintro⟨k,v⟩ ⟨hk,hq⟩;simp only at hk hq ⊢;refine EK ?_;refine za (zv rfl (λhc=>?_) (λhc=>?_));simp at hc;obtain⟨a,tl,ha,f0⟩:=Wb b k hc;obtain⟨u,c6,hu,f1⟩:=Wb ln (2*k) EA;obtain⟨x,c7,hx,f2⟩:=Wb ln (2*k+1) EA;have k1:2*k<ln.length:=EA;have k2:2*k+1<ln.length:=EA;have w1:IntKind.i64.wrap (2*(k:Int))=((2*k:Nat):Int):=by rw[AD];omega
  have w2:IntKind.i64.wrap (((2*k:Nat):Int)+1)=((2*k+1:Nat):Int):=zu _ EA;obtain⟨a6,l⟩:∃n,n=2*k:=⟨_,rfl⟩;obtain⟨a7,a1⟩:∃n,n=2*k+1:=⟨_,rfl⟩;rw[<-l]at f1 k1 w1 w2 hu;rw[<-a1]at f2 k2 hx;have a8:IntKind.i64.wrap ((a6:Int)+1)=(a7:Int):=by rw[w2,l,a1]
  refine zh (aA (aF [] (zn f0 hc) ?_));by_cases a2:u=a;subst a2;repeat apply za
  refine ze [] (zR f1 k1 w1 Xe) ?_;refine aC ?_;have a3:(wP ln k).length=k:=eA ln k;refine ze [] (zR f2 k2 w1 a8) ?_;refine⟨by omega,?_⟩;refine zb ?_;have a9:((wP ln (k+1)).map bs).flatMap Enc.enc=List.take k (((wP ln k).map bs).flatMap Enc.enc)++[T (bs x)]:=by rw[Ae (by rw[dU,List.length_map,a3];exact Af _),Zx0,<-a1,bj hx,List.map_append,Ar];rfl
  exact zr (k+1,v+1) [] ⟨hc,λi hi=>by obtain q|q:=Bo i k;exact hq i q;obtain rfl:i=k:=EA;rw[<-l,bj hu,bj ha]⟩ EA (by simp[zu k EA]) rfl (by simp only[a9,AA]);have b7:=Xf (λh=>a2 (Vs.1 h):bs u≠bs a);repeat apply za
  refine ze [] (zR f1 k1 w1 b7) ?_;refine aD ?_;refine EK ?_;have f:qK ln b=none:=by unfold qK X9;rw[if_neg];rw[Aw,Ay];rintro⟨_,h2⟩;have:=of_decide_eq_true (h2 k (AN.2 hc));rw[<-l,bj hu,bj ha]at this;exact a2 this
  exact zg (zi m EC (by rw[f];rfl));simp at hc;obtain rfl:k=b.length:=EA;have f:qK ln b=jg (wP ln b.length):=by unfold qK X9;rw[if_pos];rw[Aw,Ay];exact⟨decide_eq_true p,λi hi=>decide_eq_true (hq i (AN.1 hi))⟩
  have c:=ez (wP ln b.length) (by rw[eA];omega) (λw hw=>by have:=Zx1 a4 w hw;omega);have a3:(wP ln b.length).length=b.length:=eA ln _;rw[f];generalize wP ln b.length=od at *;refine zx (zY 0 rfl ?_);have t:=a3.symm;rw[show L (od.map bs)=.lst od.length ((od.map bs).flatMap Enc.enc) by unfold L;rw[List.length_map]]at c;cases hz:jg od with
  |none =>
  rw[hz]at c;simp only[vE]at c ⊢;refine aF [] t ?_;refine zq c ?_;exact EL m
  |some z =>
  rw[hz]at c;simp only[vE]at c ⊢;refine aF [] t ?_;refine zq c ?_;exact EL m
 have c0:¬(ln.length:Int)=2*b.length:=EA;repeat apply za
 refine ze [] (zn w0 c0) ?_;refine aD ?_;refine EK ?_;have f:qK ln b=none:=by unfold qK X9;rw[decide_eq_false p];rfl
 exact zg (zi m EC (by rw[f];rfl))
def Vt{l a:Ln}{z:List Int}(h:qK l a=some z):z.length=a.length:=by unfold qK at h;split at h;rw[eo h,eA];cases h
abbrev yq(ver:Nat)(ls:List Ln)(r:Rdr)(cs ds:PV):Ob:=.cells ver 129 (Jm ls r cs ds)
def Zx2{id ver:Nat}(ls:List Ln)(r:Rdr)(cs ds:PV)(f:S id=yq ver ls r cs ds)(hl:LnsOk ls):
  SP 69 [.ptr id ver 0] S (λq S'=>q=B (decide (zZ ls r.pos=[vu,[49]]))/\S'=S.set id (yq ver ls (qu ls r) cs ds)):=by
 have a:=λS (h:S id=_)=>bi (S:=S) (id:=id) (ver:=ver) ls r cs ds h hl.1;have g:=Fq (zZ ls r.pos) [vu,[49]] (hl.at r.pos).1 EB;obtain⟨S1,c⟩:∃S1,S1=S.set id (yq ver ls (qu ls r) cs ds):=⟨_,rfl⟩;rw[<-c];generalize zZ ls r.pos=ln at *;refine yr func69 ntmps69 results69 λnx e=>?_;have d:id<nx:=jt e f EB;have i:yd nx S1:=by rw[c];exact jf e d _
 refine EK ?_;refine EK ?_;refine λb=>((a _ ((zG d).trans f)).mono ?_).v;rintro _ _ ⟨rfl,rfl⟩;refine⟨S1,[],by rw[qE _ d,<-c],zO b ?_⟩;refine λb=>((g _).mono ?_).v;rintro _ _ ⟨rfl,rfl⟩;refine⟨_,_,rfl,zO b ?_⟩;clear a e c f;have e:=i;exact EL e
theorem Zx3{id ver:Nat}(ls:List Ln)(r:Rdr)(cs ds:PV)(n:S id=yq ver ls r cs ds)(hl:LnsOk ls):
  SP 70 [.ptr id ver 0] S (λq S'=>match qK (zZ ls r.pos) [vw,vx,vy,vz] with
   |some [d,v,c,l]=>q=B true/\S'=S.set id (yq ver ls { qu ls r with d:=d,v:=v,c:=c,l:=l } cs ds)
   |_=>q=B false/\S'=S.set id (yq ver ls (qu ls r) cs ds)):=by
 have a:=λS (h:S id=_)=>Fr (S:=S) (id:=id) (ver:=ver) ls r cs ds [vw,vx,vy,vz] h hl EB;cases s:qK (zZ ls r.pos) [vw,vx,vy,vz] with
 |none =>
 rw[s]at a;simp only[vE]at a ⊢;obtain⟨S1,e⟩:∃S1,S1=S.set id (yq ver ls (qu ls r) cs ds):=⟨_,rfl⟩;rw[<-e];refine yr func70 ntmps70 results70 λnx j=>?_;have b:id<nx:=jt j n EB;have t:yd nx S1:=by rw[e];exact jf j b _
 refine EK ?_;refine za (xZ [] EG EG λK Gc Gh u i k X g o=>?_);simp -implicitDefEqProofs [g,o];try clear g o X
 refine i _ _ _ _ _ _ _ λf=>((a _ ((zG b).trans n)).mono ?_).v;rintro _ _ ⟨rfl,rfl⟩;refine⟨S1,[],by rw[qE _ b,<-e],?_⟩;clear i k;clear Gc Gh;refine w8 f (D:=[]) EG λGc Gh i k X g o=>?_;simp -implicitDefEqProofs [g,o];clear g o X;refine u _ _ _ ?_;clear u i k;clear K Gc Gh;clear a f j e n;have j:=t;repeat apply za
 refine zb ?_;refine aC (EK ?_);exact EL j
 |some z =>
 obtain⟨d,v,c,l,rfl⟩:∃d v c l,z=[d,v,c,l]:=by
  have:=Vt s
  match z,this with
  |[d,v,c,l],_=>exact⟨d,v,c,l,rfl⟩
 rw[s]at a;simp only[vE]at a ⊢;generalize qu ls r=r1 at *;obtain⟨pos,w,v0,c0,x,m,bad⟩:=r1;refine yr func70 ntmps70 results70 λnx j=>?_;have b:id<nx:=jt j n EB;refine EK ?_;refine EK ?_;refine λf=>((a _ ((zG b).trans n)).mono ?_).v;rintro _ _ ⟨rfl,rfl⟩;refine⟨_,[],qE _ b,zO f ?_⟩;obtain⟨S1,e⟩:∃S1,S1=S.set id (yq ver ls ⟨pos,w,v0,c0,x,m,bad⟩ cs ds):=⟨_,rfl⟩;rw[<-e];have g1:¬nx<=id:=EA;have x1:∀obs,ext S1 nx obs id=yq ver ls ⟨pos,w,v0,c0,x,m,bad⟩ cs ds:=λobs=>by rw[zG b,e,q11]
 repeat apply za
 refine zb ?_;refine aD ?_;have x2:∀A obs,ext (S1.set id A) nx obs id=A:=λA obs=>by rw[zG b,q11]
 refine zA (some []) (Row.pures [0,1,2,3,4,5,6,7,8,9,10,11,12,13,14,15,16,17,18] (.alt 19 (Row.pures [20,21,22] (.alt 23 (Row.pures [24,25,26] (.alt 27 (Row.pures [28,29,30] (.alt 31 (.done) .stop)) .stop)) .stop)) .stop)) mixed (zR x1 g1 x2 Store.set_set) ?_;have p:S1.set id (.cells ver 129 [L (wl ls),I pos,I d,I v,I c,I l,cs,ds,I m,B bad])=S.set id (yq ver ls ⟨pos,d,v,c,l,m,bad⟩ cs ds):=by rw[e,Store.set_set]
 rw[p];refine EK ?_;refine zg ⟨_,_,by simp;rfl,⟨by simp[zp],rfl⟩,zV ?_⟩;exact jf j b _
theorem Zx4{id ver:Nat}(ls:List Ln)(r:Rdr)(cs ds:PV)(n:S id=yq ver ls r cs ds)(hl:LnsOk ls):
  SP 71 [.ptr id ver 0] S (λq S'=>match qK (zZ ls r.pos) [vA] with
   |some [m]=>q=B true/\S'=S.set id (yq ver ls { qu ls r with m:=m } cs ds)
   |_=>q=B false/\S'=S.set id (yq ver ls (qu ls r) cs ds)):=by
 have a:=λS (h:S id=_)=>Fr (S:=S) (id:=id) (ver:=ver) ls r cs ds [vA] h hl EB;cases s:qK (zZ ls r.pos) [vA] with
 |none =>
 rw[s]at a;simp only[vE]at a ⊢;obtain⟨S1,b⟩:∃S1,S1=S.set id (yq ver ls (qu ls r) cs ds):=⟨_,rfl⟩;rw[<-b];refine yr func71 ntmps71 results71 λnx j=>?_;have e:id<nx:=jt j n EB;have t:yd nx S1:=by rw[b];exact jf j e _
 refine EK ?_;refine za (xZ [] EG EG λK Gc Gh u i k X g o=>?_);simp -implicitDefEqProofs [g,o];try clear g o X
 refine i _ _ _ _ _ _ _ λf=>((a _ ((zG e).trans n)).mono ?_).v;rintro _ _ ⟨rfl,rfl⟩;refine⟨S1,[],by rw[qE _ e,<-b],?_⟩;clear i k;clear Gc Gh;refine w8 f (D:=[]) EG λGc Gh i k X g o=>?_;simp -implicitDefEqProofs [g,o];clear g o X;refine u _ _ _ ?_;clear u i k;clear K Gc Gh;clear a f j b n;have j:=t;repeat apply za
 refine zb ?_;refine aC (EK ?_);exact EL j
 |some z =>
 obtain⟨m,rfl⟩:∃m,z=[m]:=by
  have:=Vt s
  match z,this with
  |[m],_=>exact⟨m,rfl⟩
 rw[s]at a;simp only[vE]at a ⊢;generalize qu ls r=r1 at *;obtain⟨pos,d,v,c,l,w,bad⟩:=r1;refine yr func71 ntmps71 results71 λnx j=>?_;have e:id<nx:=jt j n EB;refine EK ?_;refine EK ?_;refine λf=>((a _ ((zG e).trans n)).mono ?_).v;rintro _ _ ⟨rfl,rfl⟩;refine⟨_,[],qE _ e,zO f ?_⟩;obtain⟨S1,b⟩:∃S1,S1=S.set id (yq ver ls ⟨pos,d,v,c,l,w,bad⟩ cs ds):=⟨_,rfl⟩;rw[<-b];have g1:¬nx<=id:=EA;have x1:∀obs,ext S1 nx obs id=yq ver ls ⟨pos,d,v,c,l,w,bad⟩ cs ds:=λobs=>by rw[zG e,b,q11]
 repeat apply za
 refine zb ?_;refine aD ?_;refine ze [] (zn x1 g1) ?_;have p:S1.set id (.cells ver 129 [L (wl ls),I pos,I d,I v,I c,I l,cs,ds,I m,B bad])=S.set id (yq ver ls ⟨pos,d,v,c,l,m,bad⟩ cs ds):=by rw[b,Store.set_set]
 rw[p];refine EK ?_;refine zg ⟨_,_,by simp;rfl,⟨by simp[zp],rfl⟩,zV ?_⟩;exact jf j e _
def Zx5{id ver:Nat}(ls:List Ln)(r:Rdr)(cs ds:PV)(e:S id=yq ver ls r cs ds):
  SP 74 [.ptr id ver 0] S (λq S'=>q=B (decide (r.pos=ls.length))/\S'=S):=by
 obtain⟨pos,d,v,c,l,m,bad⟩:=r;have a:(wl ls).length=ls.length:=EB;refine yr func74 ntmps74 results74 λnx f=>?_;have b:id<nx:=jt f e EB;have g1:¬nx<=id:=EA;have x1:∀obs,ext S nx obs id=yq ver ls ⟨pos,d,v,c,l,m,bad⟩ cs ds:=λobs=>(zG b).trans e;refine EK ?_;refine aG (some [id]) Rh mixed (zD x1 g1 a) ?_;exact zg (zi f EC (by simp[zp,Int.natCast_inj]))
end Go.Proofs.YtdjbbndbalhekaaGreatDoor.Pv
