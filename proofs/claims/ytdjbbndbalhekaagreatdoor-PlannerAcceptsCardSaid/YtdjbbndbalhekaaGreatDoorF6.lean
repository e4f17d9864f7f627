/- Part of a proof, packed. -/
import Derived.Test.YtdjbbndbalhekaaGreatDoorF5
open List (range replicate length_map length_append map_append cons_append)
open Option.some (inj injEq)
open Go.Proofs.YtdjbbndbalhekaaGreatDoor.Pv.Row (pures)
open Go.Proofs.YtdjbbndbalhekaaGreatDoor.Pv.Enc (enc)
open Go.IntKind (i64)
open Go.Proofs.YtdjbbndbalhekaaGreatDoor.Pv.Store (set_set set_comm)
open Go.Proofs.Tryz
set_option linter.defProp false
set_option maxRecDepth 100000
set_option maxHeartbeats 3200000
namespace Go.Proofs.YtdjbbndbalhekaaGreatDoor.Pv
open Go Go.Proofs Go.RowKit Go.Shelf
def Uv(b n:Nat)(c:Array Value)(w:World)(a:w.heap[b]?=some (.cells c 79 (0,0)))(h1:c[1]?=some (.slice none 0 0))(hn:n<=281474976710656):
  Calls prog 149 #[.pointer (some ⟨b,0,none⟩),.int .i64 n] w λe w'=>e=.returned (.tuple #[])/\∃cs:Array Value,(n<=maxLen->cs.size<=maxLen)/\w'=((w.alloc (.cells cs 5)).setCell ⟨b,1,none⟩ (.slice (some ⟨w.heap.size,0,none⟩) 0 cs.size)).drew.drew.drew:=by
 obtain⟨cs,f,k,g⟩:=Lib.run_makeNoZero (P:=prog) w.drew #[3] 77 5 underlying77 n hn;have j:i64.wrap (n:Int)=n:=by rw[AD];omega
 have h:(callFunc 193 #[.int .i64 (i64.wrap (n:Int))]).run prog w.drew=.ok (.value (.slice (some ⟨w.drew.heap.size,0,none⟩) n cs.size)) (w.drew.drew.drew.alloc (.cells cs 5)):=by rw[j,run_callFunc_extern func193 EC EC EC (e:=Extern.BytealgMakeNoZero.makeNoZero #[3] #[77]) EC,f];rfl
 have d:b<w.heap.size:=jh a;have c1:w.drew.cell? ⟨b,1,none⟩=some (.slice none 0 0):=by have:w.drew.heap[b]?=some (.cells c 79 (0,0)):=a;rw[Lib.cell_of_heap this];exact h1
 have c2:(w.alloc (.cells cs 5)).cell? ⟨b,1,none⟩=some (.slice none 0 0):=by rw[Lib.cell_of_heap ((Lib.alloc_old w _ b d).trans a)];exact h1
 have l:(w.alloc (.cells cs 5)).frozen? ⟨b,1,none⟩=false:=Lib.frozen_of_heap ((Lib.alloc_old w _ b d).trans a) 1;have i:∀W:World,(Builtin.copy_ #[77,77] 3 #[.slice (some ⟨w.heap.size,0,none⟩) 0 cs.size,.slice none 0 0]).run prog W=.ok (goInt 0) W :=
  λW=>run_copy_none W 77 77 3 5 _ _ 0 cs.size 0 0 underlying77 EC rfl
 clear j d
 go_enter func149,ntmps149
 go_wp2
 go_region
 all_goals (go_wp2;go_end0;exact⟨rfl,cs,g,rfl⟩)
def Uw{S:Store}{id v nx:Nat}{p:PV}(n:Nat)(hn:n<=140737488355328)(t:S id=.cells v 79 [p,.sc (.slice none 0 0)])(x:S nx=.dead):
  SP 149 [.ptr id v 0,I n] S (λ_ S'=>∃w0,S'=(S.set nx (.cells w0 5 [])).set id (.cells v 79 [p,.sl nx w0 1 0 0])):=by
 refine⟨qN func149 EF rfl,?_⟩;intro C w vs hC hl hr;obtain⟨u,u2,rfl⟩:=tO hl;have d:=hr 0 _ u rfl rfl;have y:=hr 1 _ u2 rfl rfl;cases y;cases d with
 |ptr h1 h2 h3 =>
 obtain⟨b,k,f,rfl⟩:=(h3 v (by rw[t];rfl)).2 rfl;obtain⟨b',k',c,c0,c1,g1,z,g3,g4,e0,e1,r0,r1,g5⟩:=dX hC t;rw[f]at g1;cases g1;cases r1;refine(Uv b n c w z e1 D9).mono ?_;rintro e w' ⟨rfl,cs,m,rfl⟩;have a0:b<w.heap.size:=jh z;have r:id≠nx:=by rintro rfl;rw[t]at x;cases x
 obtain⟨a1,a2⟩:=hC.object' (o:=nx) (ver:=C.clock) ⟨x,.inr (Ag _)⟩ 5 cs [] (Bx _) (λi u hi=>absurd hi (Nat.not_lt_zero _)) (λi q u g=>by simp at g);have a3:(S.set nx (.cells C.clock 5 [])) id=.cells v 79 [p,.sc (.slice none 0 0)]:=(q10 _ _ _ _ r).trans t;have a:(C.put nx C.clock (some (w.heap.size,cs.size))).loc id=some (b,k):=by simp[Ctx.put,r,f]
 have a4:(w.alloc (.cells cs 5)).heap[b]?=some (.cells c 79 (0,0)):=(Z7 w _ b a0).trans z;have a5:Rel (C.put nx C.clock (some (w.heap.size,cs.size))) (S.set nx (.cells C.clock 5 [])) (w.alloc (.cells cs 5)) (.sl nx C.clock 1 0 0) (.slice (some ⟨w.heap.size,0,none⟩) 0 cs.size):=by refine .sl ⟨_,_,rfl,Bx _,Bx _,m (by unfold maxLen;omega),λh=>absurd rfl h⟩ ⟨by simp only[Ctx.put];omega,by simp only[Ctx.put];omega⟩ λv0 s=>?_;rw[q11]at s;cases s;exact⟨Ag _,λ_=>.inr ⟨w.heap.size,cs.size,_,_,by simp[Ctx.put],rfl,λ_=>⟨rfl,BK _⟩,λ_=>rfl⟩⟩
 have hh:((w.alloc (.cells cs 5)).setCell ⟨b,1,none⟩ (.slice (some ⟨w.heap.size,0,none⟩) 0 cs.size)).heap[b]?=some (.cells (c.setIfInBounds 1 (.slice (some ⟨w.heap.size,0,none⟩) 0 cs.size)) 79 (0,0)):=by simp only[World.setCell,BL,if_true,a4,AU];rfl
 obtain⟨t1,t2⟩:=a1.turn (l:=(C.put nx C.clock (some (w.heap.size,cs.size))).loc id) (ver':=v) (cs':=[p,.sl nx C.clock 1 0 0]) a3 (Ag _) (λ_=>rfl) (w':=(w.alloc (.cells cs 5)).setCell ⟨b,1,none⟩ (.slice (some ⟨w.heap.size,0,none⟩) 0 cs.size))
  (by rw[a];exact⟨⟨rfl,rfl,rfl,by simp[World.setCell],λj _ hj=>by show ((w.alloc (.cells cs 5)).heap.modify b _)[j]?=_;rw[BL,if_neg (λe=>hj (by rw[<-e];rfl))]⟩,Ag _⟩)
  (.inr ⟨b,k,_,a,.inr (by rw[a];rfl),hh,by simp[g3],g4,λi u hi d=>by
    match i,hi with
    |0,_=>rw[C7 D9]at d;exact g5 0 u D9 d
    |1,_=>rw[B9 D9]at d;cases d;rfl,
   λi q u g d=>by
    match i,g with
    |0,g=>cases g;rw[C7 D9,e0]at d;cases d;exact r0.mono a2
    |1,g=>cases g;rw[B9 D9]at d;cases d;exact a5⟩)
 obtain⟨d1,d2⟩:=t1.drew;obtain⟨d3,d4⟩:=d1.drew;obtain⟨d5,d6⟩:=d3.drew;exact⟨.junk,_,_,_,rfl,⟨_,rfl⟩,.junk _,d5,(((a2.trans t2).trans d2).trans d4).trans d6⟩
variable {P:Program}{n:Nat}{F:Nat->PV}{S:Store}{o:Oper}{x:Operand}{K:PV->Store->Prop}
def Ux{r:Rd}{t e:TypeId}(ho:o.op=.call { callee:=.builtin .cap,args:=#[x],argTypes:=#[t] })(h:P.underlying t=some (.slice e))(hx:ev F x=.sc (.slice none 0 0))(i:K (I 0) S):PO P r n o F S K:=by
 intro G j C w a N st next Q' b;have f:=st.ev x;rw[(j x (by simp[ho,Op.operands,Call.operands])).trans hx]at f;have g:∀c,o.op≠.defer c:=by intro c hc;rw[ho]at hc;cases hc
 generalize hv:a.eval x=v at f;cases f;have d:(execOp a.eval o).run P w=.ok (.value (.int .i64 0)) w:=by unfold execOp;simp[ho,resolve,invoke,builtin,hv,Builtin.cap_,goInt,run_underlying h]
 exact qx g d (b _ _ _ _ _ i (.sc _) st.sim (Step.refl _ _ _))
variable {nx:Nat}
def jD{id:Nat}{o:Ob}(b:yh nx S)(h:S id=o)(a:o≠.dead):id<nx:=by obtain q|q:=Bc id nx;exact q;rw[b id q]at h;exact absurd h.symm a
def jr{id:Nat}(a:yh nx S)(b:id<nx)(o:Ob):yh nx (S.set id o):=λi hi=>by rw[q10 _ _ _ _ D9];exact a i hi
theorem Uy(l:List UInt8):((bs l).data.toList.map λb=>(.sc (.int .u8 (b.toNat:Int)):PV))=l.map U8:=rfl
abbrev Qv(id v ib w n:Nat):List PV:=[.ptr id v 0,.sl ib w 1 0 n]
def dZ{id v ib w0:Nat}{p:PV}(l m:List UInt8)(i:S id=.cells v 79 [p,.sl ib w0 1 0 l.length])(t:p=.sc (.pointer none)\/p=.ptr id v 0)(g:S ib=.cells w0 5 (l.map U8))(r:l.length+m.length<=140737488355328):
  SP 39 [.ptr id v 0,T (bs m)] S (λq S'=>q=.tup [I m.length,.sc .nilIface]/\S'=(S.set ib (.cells (w0+1) 5 ((l++m).map U8))).set id (.cells v 79 (Qv id v ib (w0+1) (l++m).length))):=by
 have c:id≠ib:=by rintro rfl;rw[i]at g;cases g
 have d:=xK m;have j:=λS (h:S id=_)=>tP (S:=S) (id:=id) (v:=v) (p:=p) (s:=.sl ib w0 1 0 l.length) h t;refine i' func39 λnx k=>?_;have a:id<nx:=jD k i EA;have b:ib<nx:=jD k g EA;refine EJ ?_;refine EJ ?_;refine λe=>((j _ ((zL a).trans i)).mono ?_).v;rintro _ _ rfl;refine⟨_,_,qI _ a,zS e ?_⟩;obtain⟨A,n⟩:∃A,A=Ob.cells v 79 [.ptr id v 0,.sl ib w0 1 0 l.length]:=⟨_,rfl⟩;have x1:∀obs,ext (S.set id A) nx obs id=.cells v 79 [.ptr id v 0,.sl ib w0 1 0 l.length]:=λobs=>by rw[zL a,q11,n]
 have x2:∀obs,ext (S.set id A) nx obs ib=.cells w0 5 (l.map U8):=λobs=>(zL b).trans ((q10 _ _ _ _ (Ne.symm c)).trans g);have x3:∀B obs,ext ((S.set id A).set ib B) nx obs id=.cells v 79 [.ptr id v 0,.sl ib w0 1 0 l.length]:=λB obs=>by rw[zL a,q10 _ _ _ _ c,q11,n]
 rw[<-n];have g1:¬nx<=id:=D9;have u:¬nx<=ib:=D9;have g3:m.length<=9223372036854775807:=D9;have o:(l.map U8).take l.length=l.map U8:=Ad EA;refine aF [] (zN x1 x2 x3 d g1 (zD u g3 Uy)) ?_;refine⟨by omega,?_⟩;refine aF [] d ?_;have f:((S.set id A).set ib (.cells (w0+1) 5 (l.map U8++m.map U8))).set id (.cells v 79 [.ptr id v 0,.sl ib (w0+1) 1 0 (l.length+m.length)])=(S.set ib (.cells (w0+1) 5 ((l++m).map U8))).set id (.cells v 79 (Qv id v ib (w0+1) (l++m).length)):=by rw[map_append,length_append,<-set_comm S ib id _ _ (c),set_set]
 refine zj ⟨_,_,by simp;rfl,⟨by simp[zr],by rw[o];exact f⟩,ye ?_⟩;exact jr (jr (jr k a _) b _) a _
def Uz{id v:Nat}(n:Nat)(h0:0<n)(hn:n<=140737488355328)(f:S id=.cells v 79 [.sc (.pointer none),.sc (.slice none 0 0)])(c:yh nx S):
  SP 105 [.ptr id v 0,I n] S (λ_ S'=>∃w0,S'=(S.set nx (.cells w0 5 [])).set id (.cells v 79 (Qv id v nx w0 0))):=by
 have a:id<nx:=jD c f EA;have d:=λS (h:S id=_)=>tP (S:=S) (id:=id) (v:=v) (p:=.sc (.pointer none)) (s:=.sc (.slice none 0 0)) h (.inl rfl);refine ZI c func105 ntmps105 results105 ?_;refine EJ ?_;refine λb=>((d _ ((zL a).trans f)).mono ?_).v;rintro _ _ rfl;refine⟨_,_,qI _ a,zS b ?_⟩;obtain⟨A,g⟩:∃A,A=Ob.cells v 79 [.ptr id v 0,.sc (.slice none 0 0)]:=⟨_,rfl⟩;have x1:∀obs,ext (S.set id A) nx obs id=.cells v 79 [.ptr id v 0,.sc (.slice none 0 0)]:=λobs=>by rw[zL a,q11,g]
 rw[<-g];have g1:¬nx<=id:=D9;refine ze (EJ ?_);refine aC ?_;have e:=λS (h:S id=_) (c:S nx=.dead)=>Uw (S:=S) (id:=id) (v:=v) (nx:=nx) (p:=.ptr id v 0) n hn h c;refine aG (some [id]) (pures [0,1,2,3,5,6,7,8,9,11] (.alt 4 (pures [10,12] .done) .stop)) (zq x1 g1) ?_;refine⟨by rfl,(Ux rfl underlying77 EA ?_)⟩;refine⟨by simp[y8],xE n' ?_⟩;refine zo ED ?_;refine zg ?_;refine λb=>((e _ (x1 []) (Z9 (nx:=nx) (obs:=[]))).mono ?_).v;rintro _ _ ⟨w0,rfl⟩;have i:id≠nx:=D9;have j:((ext (S.set id A) nx []).set nx (.cells w0 5 [])).set id (.cells v 79 [.ptr id v 0,.sl nx w0 1 0 0])=ext (S.set id (.cells v 79 [.ptr id v 0,.sl nx w0 1 0 0])) nx [.cells w0 5 []]:=by have:=jP (S:=S.set id A) (nx:=nx) (obs:=[]) (.cells w0 5 []);simp only[Aj,BJ,AK]at this;rw[this,qI _ a,set_set]
 refine⟨_,_,j,zS b ?_⟩;have e2:(S.set nx (.cells w0 5 [])).set id (.cells v 79 (Qv id v nx w0 0))=ext (S.set id (.cells v 79 [.ptr id v 0,.sl nx w0 1 0 0])) nx [.cells w0 5 []]:=by have:=jP (S:=S) (nx:=nx) (obs:=[]) (.cells w0 5 []);simp only[Aj,BJ,AK,jt c]at this;rw[this,qI _ a]
 exact⟨_,_,rfl,⟨w0,e2.symm⟩,λo=>.inl rfl⟩
theorem J1:∀ws:List (List UInt8),(zW ws).length=(ws.map List.length).sum+(ws.length-1)
 |[]=>rfl
 |[w]=>by simp[zW]
 |w::v::ws=>by have:=J1 (v::ws);rw[W7,length_append,Ae,this];simp only[Aw,BE,Ae];omega
def tQ(l:List Nat)(k:Nat):(l.take k).sum<=l.sum:=by
 conv=>rhs;rw[<-List.take_append_drop k l]
 rw[D1];omega
def YM(ws:List (List UInt8))(k:Nat):Nat:=((ws.take k).map List.length).sum
def tR(ws:List (List UInt8))(k:Nat):YM ws k<=(ws.map List.length).sum:=by unfold YM;rw[List.map_take];exact tQ _ k
variable {k:Nat}{u:List UInt8}
def UA{ws:List (List UInt8)}(h:ws[k]?=some u):YM ws (k+1)=YM ws k+u.length:=by unfold YM;rw[Ax,h];simp
def wr2{A B A2 B2:Ob}:((ext S nx [A,B]).set (nx+1) B2).set nx A2=ext S nx [A2,B2]:=by rw[yu _ D9 EA,yu _ D9 EA];simp
theorem kz:∀(w:List UInt8) (rs:List (List UInt8)),zW (w::rs)=w++(rs.map λu=>32::u).flatten
 |w,[]=>by simp[zW]
 |w,v::rs=>by rw[W7,kz v rs];simp
def u7(w0:List UInt8)(rs:List (List UInt8))(k:Nat):List UInt8:=w0++((rs.take k).map λu=>32::u).flatten
def UB(w0:List UInt8)(rs:List (List UInt8)):u7 w0 rs 0=w0:=by simp[u7]
def UC{w0:List UInt8}{rs:List (List UInt8)}(h:rs[k]?=some u):u7 w0 rs (k+1)=(u7 w0 rs k++[32])++u:=by unfold u7;rw[Ax,h];simp
def UD(w0:List UInt8)(rs:List (List UInt8)):u7 w0 rs rs.length=zW (w0::rs):=by unfold u7;rw[Ah,kz]
def UE(w0:List UInt8)(rs:List (List UInt8))(k:Nat):(u7 w0 rs k).length<=(zW (w0::rs)).length:=by rw[kz];unfold u7;simp;exact tQ _ k
def UF(ws:List (List UInt8))(hl:ws.length<=1048576)(f:(zW ws).length<=140737488355328):PP 64 [L (ws.map bs),T (bs [32])] (T (bs (zW ws))):=by
 match ws,hl,f with
 |[],_,_ =>
  refine c9 func64 λS nx q=>?_;refine ze (EJ ?_);refine zn (EJ ?_);refine aD ?_;refine EJ ?_;exact EK q
 |[w],_,_ =>
  refine c9 func64 λS nx q=>?_;refine ze (EJ ?_);refine zn (EJ ?_);refine aE ?_;refine EJ ?_;refine aD ?_;refine EJ ?_;exact EK q
 |w0::v0::r0,hl,f =>
 obtain⟨rs,r⟩:∃rs,rs=v0::r0:=⟨_,rfl⟩;obtain⟨ws,b⟩:∃ws,ws=w0::rs:=⟨_,rfl⟩;obtain⟨mm,hm⟩:∃mm,ws.length=mm+1:=⟨rs.length,by rw[b];rfl⟩;have d4:1<=mm:=by rw[b,r]at hm;simp at hm;omega
 have d5:rs.length=mm:=by rw[b]at hm;simpa using hm
 rw[<-r,<-b]at hl f ⊢;have s:=J1 ws;rw[hm]at hl s;have x:(bs [32]).size=1:=rfl;have w1:i64.wrap ((ws.length:Int)-1)=(mm:Int):=by rw[AD];omega
 have q0:¬(mm:Int)=0:=D9;have a7:¬mm=0:=D9;have q1:¬i64.wrap ((9223372036854775807:Int).tdiv mm)<=1:=by rw[BQ D9];have h1:(9223372036854775807:Int)/mm<=9223372036854775807:=Int.ediv_le_self _ D9;have h2:2<=(9223372036854775807:Int)/mm:=(Int.le_ediv_iff_mul_le D9).2 D9;rw[AD];omega
 have w2:i64.wrap (mm:Int)=mm:=wr _ D9 D9;have a0:¬ws=[]:=by intro h;rw[h]at hm;simp at hm
 clear r;refine c9 func64 λS nx q=>?_;refine ze (EJ ?_);refine zn (EJ ?_);refine zp (by simp[a0]) ?_;refine EJ ?_;refine zp ED ?_;refine zk (EJ ?_);refine ze (aF [] x ?_);refine aD ?_;refine ze (aF [] (yp x w1 q0 a7 q1) ?_);refine aC (zi [] (zD x w1 w2) ?_);refine ze (EJ ?_);refine zn (zF (λk:Nat=>k<=ws.length) (λk=>[(0,L (ws.map bs)),(1,T (bs [32])),(5,I ((mm+YM ws k:Nat):Int)),(39,L (ws.map bs)),(40,I ws.length),(41,I k)]) (λ_=>[]) (λk=>ws.length-k) 0 [] EA (by simp[YM]) EA ?_);rintro k hk;have d6:=tR ws k;refine EJ ?_;refine ze (zA rfl (λhc=>?_) (λhc=>?_));simp at hc;obtain⟨t,tl,b1,b2,b3,f0⟩:=zH rfl (ws.map bs) k (by simpa using hc);obtain⟨u,hu,rfl⟩:∃u,ws[k]?=some u/\bs u=t:=by rw[Ai]at b1;simpa using b1
 have a1:=tR ws (k+1);have g:=UA hu;have i:=xK u;rw[g]at a1;generalize YM ws k=c0 at *;have d:k<ws.length:=by simpa using hc
 have d7:mm+c0+u.length<=140737488355328:=D9;have v1:i64.wrap (9223372036854775807-((mm:Int)+c0))=9223372036854775807-((mm:Int)+c0):=by rw[AD];omega
 have v2:¬(9223372036854775807-((mm:Int)+c0))<u.length:=D9;have v3:i64.wrap ((mm:Int)+c0+u.length)=(mm:Int)+c0+u.length:=by rw[AD];omega
 refine zk (aA (aF [] (zq f0 d) ?_));refine ze (aF [] (zD i v1 v2) ?_);refine aC (zi [] (zq i v3) ?_);refine zg ?_;exact zv (k+1) [] d D9 (by simp[zy k D9,g];try omega) rfl EA;simp at hc;obtain rfl:k=ws.length:=D9;refine zB ?_;have a8:YM ws ws.length=(ws.map List.length).sum:=by unfold YM;rw[Ah]
 obtain⟨c,a9⟩:∃c,c=mm+(ws.map List.length).sum:=⟨_,rfl⟩;have b7:((mm:Int)+(YM ws ws.length:Int))=(c:Int):=by rw[a8,a9];rfl
 have b8:0<c:=D9;have c6:c<=140737488355328:=D9;have c7:=λ(v:Nat) S (h:S nx=.cells v 79 [.sc (.pointer none),.sc (.slice none 0 0)]) (q:yh (nx+1) S)=>Uz (S:=S) (id:=nx) (v:=v) (nx:=nx+1) c b8 c6 h q;refine aF [] b7 ?_;intros;rename_i v;have g1:¬nx+1<=nx:=D9;have c8:∀A,yh (nx+1) (ext S nx [A]):=λA=>xP (obs:=[A]);refine EJ ?_;refine λa=>((c7 v _ (by rw[ui];rfl) (c8 _)).mono ?_).v;rintro _ _ ⟨e,rfl⟩;have e1:∀A B A',((ext S nx [A]).set (nx+1) B).set nx A'=ext S nx [A',B]:=λA B A'=>by have:=jP (S:=S) (nx:=nx) (obs:=[A]) B;simp only[AZ,Cy]at this;rw[this,yu _ D9 EA];simp
 refine⟨_,_,e1 _ _ _,zS a ?_⟩;obtain⟨t,tl,b1,b2,b3,f0⟩:=zH rfl (ws.map bs) 0 ED;obtain rfl:bs w0=t:=by rw[b]at b1;simpa using b1
 have a2:0<ws.length:=D9;have y:∀(S:Store) (e:Nat) (l m:List UInt8),(zW ws).length<=140737488355328->l.length+m.length<=(zW ws).length->S nx=.cells v 79 (Qv nx v (nx+1) e l.length)->S (nx+1)=.cells e 5 (l.map U8)->_:=λS e l m f hl h1 h2=>dZ (S:=S) (id:=nx) (v:=v) (ib:=nx+1) (w0:=e) l m h1 (.inr rfl) h2 D9;have a3:∀k,(u7 w0 rs k).length<=(zW ws).length:=λk=>by rw[b];exact UE w0 rs k
 have j:=UB w0 rs;have n:=a3 0;rw[j]at n;refine aF [] (zq f0 a2) ?_;refine λa=>((y _ e [] w0 f (by simpa using n) (by rw[ui];rfl) (by rw[zZ];rfl)).mono ?_).v;rintro _ _ ⟨rfl,rfl⟩;refine⟨_,_,wr2,zS a ?_⟩;have a4:1<=ws.length:=a2;have d0:ws.length-1=rs.length:=by rw[b];rfl
 have d1:List.take rs.length (List.flatMap enc (ws.map bs)).tail=(rs.map bs).flatMap enc:=by
  have:(List.flatMap enc (ws.map bs)).tail=(rs.map bs).flatMap enc:=by rw[b];rfl
  rw[this];exact Ad (by rw[ju];simp[Enc.sz])
 have d2:(PV.lst rs.length ((rs.map bs).flatMap enc))=L (rs.map bs):=by unfold L;rw[length_map]
 refine ze (aF [] (zD a4 d0 d1) ?_);rw[<-j];refine zn (zF (λk:Nat=>k<=rs.length) (λk=>[(1,T (bs [32])),(8,.ptr nx v 0),(63,L (rs.map bs)),(64,I rs.length),(65,I k)]) (λk=>[.cells v 79 (Qv nx v (nx+1) (e+1+2*k) (u7 w0 rs k).length),.cells (e+1+2*k) 5 ((u7 w0 rs k).map U8)]) (λk=>rs.length-k) 0 [] EA (by simp[d2]) EA ?_);rintro k hk;refine EJ ?_;refine ze (zA rfl (λhc=>?_) (λhc=>?_));simp at hc;obtain⟨t,tl,b1,b2,b3,f0⟩:=zH rfl (rs.map bs) k (by simpa using hc);obtain⟨u,hu,rfl⟩:∃u,rs[k]?=some u/\bs u=t:=by rw[Ai]at b1;simpa using b1
 have d:k<rs.length:=by simpa using hc
 have z:=UC (w0:=w0) hu;have a5:=a3 (k+1);rw[z]at a5;simp only[length_append,AZ]at a5;refine zk (aA (aF [] (zq f0 d) ?_));refine EJ ?_;refine λa=>((y _ _ (u7 w0 rs k) [32] f ED (by rw[ui];rfl) (by rw[zZ];rfl)).mono ?_).v;rintro _ _ ⟨rfl,rfl⟩;obtain⟨mid,o⟩:∃mid,mid=u7 w0 rs k++[32]:=⟨_,rfl⟩;rw[<-o]at z ⊢;have d3:mid.length=(u7 w0 rs k).length+1:=by rw[o];simp
 refine⟨_,_,wr2,zS a ?_⟩;refine zg ?_;refine λa=>((y _ _ mid u f (by rw[d3];omega) (by rw[ui];rfl) (by rw[zZ];rfl)).mono ?_).v;rintro _ _ ⟨rfl,rfl⟩;rw[<-z];refine⟨_,_,wr2,zS a ?_⟩;refine zg ?_;exact zv (k+1) [] d D9 (by simp[zy k D9];try omega) rfl (by simp only[show e+1+2*(k+1)=e+1+2*k+1+1 by omega,Ay]);simp at hc;obtain rfl:k=rs.length:=D9;refine zB ?_;rw[UD,<-b];have a6:zW ws≠[]:=by intro h;rw[h]at s;simp only[Aj]at s;omega
 refine EJ ?_;refine λa=>((aY (id:=nx) (v:=v) (ib:=nx+1) (w0:=e+1+2*rs.length) (p:=.ptr nx v 0) (zW ws) (by rw[ui];rfl) (by rw[zZ];rfl) a6 f).mono ?_).v;rintro _ _ ⟨rfl,rfl⟩;rw[yu _ D9 EA];refine⟨_,_,rfl,zS a ?_⟩;exact EK q
def XU(ws:List (List UInt8))(hl:ws.length<=1048576)(c:(zW ws).length<=1048576):PP 37 [L (ws.map bs)] (T (bs (zW ws++[10]))):=by have a:=UF ws hl D9;have hs:=Qt (zW ws) [10] (by simp only[AZ];omega);refine c9 func37 λS nx b=>?_;refine EJ ?_;refine yK [] a hs ?_;exact EK b
def u9{z:Int}(h:zU z):(zJ z).length<=20:=by unfold zU at h;unfold zJ;have:=aI z.toNat 18 D9;omega
abbrev jE:Wd:=[111,117,116,99,111,109,101]
abbrev ea:Wd:=[109,97,108,102,111,114,109,101,100]
abbrev tS:Wd:=[114,97,110,103,101]
abbrev Q4:Wd:=[110,111,110,101]
abbrev xX:Wd:=[98,111,117,110,100]
abbrev qn:Wd:=[112,108,97,110]
abbrev Za:Wd:=[99,111,115,116]
abbrev Zb:Wd:=[104,111,108,100,105,110,103]
abbrev qG:Wd:=[100,97,121]
abbrev wV:Wd:=[116,111,117,114]
structure Rep where
 out:Int
 ac:Int
 cost:Int
 Y:Int
 days:List Int
 Z:zG
abbrev Vh(r:Rep):List PV:=[I r.out,I r.ac,I r.cost,I r.Y,L r.days,L r.Z]
def xY(t:zT):Ln:=wV::zQ t.length::t.flatMap λs=>[zJ s.c,zJ s.q]
def vW(d:zt):List Ln:=[qG,zQ d.length]::d.map xY
def qS(p:zG):List Ln:=[qn,zQ p.length]::p.flatMap vW
def xA(l:List Int):List Ln:=(range l.length).map λi=>[qG,zQ i,zJ (l.getD i 0)]
def j9(r:Rep):List Ln :=
 if r.out=1 then [[jE,ea]] else if r.out=2 then [[jE,tS]]
 else if r.out=3 then [[jE,Q4],[xX,zJ r.ac]]
 else if r.out=4 then [jE,qn]::[xX,zJ r.ac]::[Za,zJ r.cost]::[Zb,zJ r.Y]::(xA r.days++qS r.Z)
 else []
variable {r:Nat}
def UG{m:Nat}{l:List UInt8}(h:zQ m=zQ r++l):(r<10->zQ m=UInt8.ofNat (48+r%10)::l)/\(¬r<10->zQ m=zQ (r/10)++UInt8.ofNat (48+r%10)::l):=by constructor;intro a;rw[h,Qi a,Dd a];rfl;intro a;rw[h,JS a];simp
def aZ{ls:List Ln}{m:Nat}(h:∀l∈ls,(zW l).length+1<=m):(zV ls).length<=m*ls.length:=by
 induction ls with
 |nil=>simp[zV]
 |cons a ls b =>
 rw[ZX];have h1:=h a EA;have h2:=b λl hl=>h l (by simp[hl]);simp only[length_append,Ae,Nat.mul_add,BK];omega
def UH{l:List Nat}{m:Nat}(h:∀z∈l,z<=m):l.sum<=m*l.length:=by
 induction l with
 |nil=>simp
 |cons a l b =>
 have h1:=h a EA;have h2:=b λz c=>h z (by simp[c]);simp only[BE,Ae,Nat.mul_add,BK];omega
def XV{ws:Ln}{m:Nat}(h:∀w∈ws,w.length<=m):(zW ws).length<=(m+1)*ws.length:=by
 rw[J1];have:=UH (l:=ws.map List.length) (m:=m) λz a=>by obtain⟨w,b,rfl⟩:=Ak.1 a;exact h w b
 rw[length_map]at this;rw[Nat.add_mul];omega
def XW(a b:List Ln):zV (a++b)=zV a++zV b:=by simp[zV]
def wL(h:n<10000000000000000000):(zQ n).length<=20:=by have:=aI n 19 D9;omega
structure PlanTold (p:zG):Prop where
 n:p.length<=1000
 d:∀d∈p,d.length<=1000
 t:∀d∈p,∀t∈d,t.length<=1000
 s:∀d∈p,∀t∈d,∀s∈t,(0<=s.c/\s.c<=1000000000000000000)/\0<=s.q/\s.q<=1000000000000000000
def kB(t:zT):(xY t).length=2+2*t.length:=by
 unfold xY;simp only[Ae,List.length_flatMap,Aj];have:(t.map λ_=>0+1+1).sum=2*t.length:=by
  induction t with
  |nil=>rfl
  |cons a t b=>rw[Aw,BE,b,Ae];omega
 omega
variable {t:zT}
def tT(hl:t.length<=1000)(h:∀s∈t,(0<=s.c/\s.c<=1000000000000000000)/\0<=s.q/\s.q<=1000000000000000000):∀w∈xY t,w.length<=20:=by intro w a;unfold xY at a;simp only[Am,Bz,A9,or_false]at a;obtain rfl|rfl|⟨s,hs,rfl|rfl⟩:=a;decide;exact wL D9;have:=h s hs;exact u9 (by unfold zU;omega);have:=h s hs;exact u9 (by unfold zU;omega)
def tU(hl:t.length<=1000)(h:∀s∈t,(0<=s.c/\s.c<=1000000000000000000)/\0<=s.q/\s.q<=1000000000000000000):(zW (xY t)).length<=42042:=by have h1:=XV (tT hl h);rw[kB]at h1;omega
variable {p:zG}{d:zt}
def UI(h:PlanTold p)(a:d∈p):∀l∈vW d,(zW l).length+1<=42043:=by intro l hl;unfold vW at hl;obtain rfl|hl:=Am.1 hl;have:=wL (n:=d.length) (by have:=h.d d a;omega);have:=XV (ws:=[qG,zQ d.length]) (m:=20) (by intro w b;simp only[Am,A9,or_false]at b;obtain rfl|rfl:=b;decide;exact this);simp at this ⊢;omega;obtain⟨t,c,rfl⟩:=Ak.1 hl;have:=tU (h.t d a t c) (h.s d a t c);omega
def UJ(h:PlanTold p):(qS p).length<=1+1001*p.length:=by
 have:∀q:zG,(∀d∈q,d.length<=1000)->(q.flatMap vW).length<=1001*q.length:=by
  intro q;induction q with
  |nil=>intro _;simp
  |cons a q b =>
  intro h;have h1:=h a EA;have h2:=b λd c=>h d (by simp[c]);simp only[AB,length_append,Ae,vW,length_map,Nat.mul_add,BK];omega
 have:=this p h.d;unfold qS;rw[Ae];omega
def UK(h:PlanTold p):∀l∈qS p,(zW l).length+1<=42043:=by intro l hl;unfold qS at hl;obtain rfl|hl:=Am.1 hl;have:=wL (n:=p.length) (by have:=h.n;omega);have:=XV (ws:=[qn,zQ p.length]) (m:=20) (by intro w a;simp only[Am,A9,or_false]at a;obtain rfl|rfl:=a;decide;exact this);simp at this ⊢;omega;obtain⟨d,b,hl⟩:=Bz.1 hl;exact UI h b l hl
def tV(h:PlanTold p):(zV (qS p)).length<=100000000000:=by have h1:=aZ (UK h);have h2:=UJ h;have h3:=h.n;have:42043*(qS p).length<=42043*1001001:=Ch _ D9;omega
def XX(l:List UInt8)(k:Nat):(bs l)[k]?=l[k]?:=by by_cases h:k<l.length;rw[Ac h,getElem?_pos (bs l) k (by rw[xK];exact h)];rfl;rw[An D9,getElem?_neg (bs l) k (by rw[xK];omega)]
variable {a b:ByteArray}
def kC(h:a.toList=b.toList):a=b:=by rw[Lib.toList_data,Lib.toList_data]at h;cases a;cases b;simp at h;congr
def Vi(h:a≠b):yq .eql a b=some (.bool false):=by have h2:¬a.toList=b.toList:=λe=>h (kC e);simp[yq,h2]
variable {w:List UInt8}
def tW:bs w=bs []<->w=[]:=by constructor;intro h;have:=congrArg ByteArray.size h;rw[xK,xK]at this;exact As (by simpa using this);rintro rfl;rfl
def UL(w:List UInt8)(hl:w.length<=1099511627776):PP 110 [T (bs w)] (B (uW w)):=by
 have i:=xK w;refine c9 func110 λS nx f=>?_;refine ze (aF [] i ?_);refine zn (zF (λk:Nat=>k<=w.length/\∀c∈w.take k,33<=c.toNat/\c.toNat<=126) (λk=>[(0,T (bs w)),(5,I w.length),(6,I k)]) (λ_=>[]) (λk=>w.length-k) 0 [] EA EA EA ?_);rintro k ⟨v,j⟩;refine EJ ?_;refine ze (zA rfl (λhc=>?_) (λhc=>?_));simp at hc;obtain⟨c,a⟩:∃c,w[k]?=some c:=⟨_,Ac hc⟩;have l:=(XX w k).trans a;refine zk (aA (EJ ?_));by_cases h3:c.toNat<33;have b:(c.toNat:Int)<33:=D9;refine aF [(4,13)] (zM l h3 b zz) ?_;refine zo (by simp[*]) ?_;refine EJ ?_;exact zj (zm f EB (by rw[sC a D9];rfl));have b:¬(c.toNat:Int)<33:=D9;by_cases q:126<c.toNat;have g:126<(c.toNat:Int):=D9;refine aF [(4,13)] (yp l h3 q b g) ?_;refine zo (by simp[*]) ?_;refine EJ ?_;exact zj (zm f EB (by rw[sC a D9];rfl));have g:¬126<(c.toNat:Int):=D9;refine aF [(4,13)] (yp l h3 q b g) ?_;refine zp (by simp[*]) ?_;refine zk (zg ?_);have m:w.take (k+1)=w.take k++[c]:=by rw[Ax,a];rfl
 exact zv (k+1) [] ⟨hc,by rw[m];intro d f;rw[AC,AX]at f;exact f.elim (j d) (λe=>by subst e;omega)⟩ D9 (by simp[zy k D9]) rfl EA;simp at hc;obtain rfl:k=w.length:=D9;rw[Ah]at j;refine zB (Wu (λ_=>.inl rfl) ?_);by_cases h0:w=[];subst h0;refine ze (x8 [] EF EF λK Gc Gh r n o X h s=>?_);simp -implicitDefEqProofs [h,s,yq];try clear h s X
 refine r _ _ _ ?_;clear r n o;clear K Gc Gh;exact EK f;have p:bs w≠bs []:=λe=>h0 (tW.1 e);have t:yq .neq (bs w) ⟨#[]⟩=some (.bool true):=by
  have h2:¬(bs w).toList=(bs []).toList:=λe=>p (kC e);have h3:((bs w).toList==(bs []).toList)=false:=by simpa using h2
  show some (Value.bool (!((bs w).toList==(bs []).toList)))=_;rw[h3];rfl
 have u:uW w=true:=(uz w).2 ⟨h0,j⟩;refine aF [] t ?_;exact zj (zm f EB (by simp[zr,u]))
def YN(o:Option Nat):PV:=match o with
 |none=>.tup [I 0,B false]
 |some n=>.tup [I n,B true]
def kD(w:List UInt8)(hl:w.length<=1099511627776):PP 76 [T (bs w)] (YN (yt w)):=by
 obtain _|⟨c0,wt⟩:=w;refine c9 func76 λS nx f=>?_;refine ze (ze (x8 [(2,8),(6,12)] EF EF λK Gc Gh hK a0 a1 X u hX=>?_));simp -implicitDefEqProofs [u,hX,yq,undef];try clear u hX X
 refine hK _ _ _ ?_;clear hK a0 a1;clear K Gc Gh;refine aD ?_;refine EJ ?_;exact EK f;obtain⟨w,v⟩:∃w,w=c0::wt:=⟨_,rfl⟩;have x:w[0]?=some c0:=by rw[v];rfl
 have a2:w≠[]:=by rw[v];simp
 have o:wg w=(decide (c0.toNat=48)&&decide (1<w.length)):=by rw[v];cases wt<;>simp[wg]
 rw[<-v]at hl ⊢;clear v wt;obtain⟨B,hB⟩:∃B,B=bs w:=⟨_,rfl⟩;have b:B.size=w.length:=by rw[hB,xK]
 have hg:∀k,B[k]?=w[k]?:=λk=>by rw[hB];exact XX w k
 have g:=(hg 0).trans x;have he:yq .eql B ⟨#[]⟩=some (.bool false):=by
  have:B≠⟨#[]⟩:=by intro h;have:=congrArg ByteArray.size h;rw[b]at this;exact a2 (As (by simpa[ByteArray.size] using this))
  exact Vi this
 rw[<-hB];by_cases a:wg w=true;have hr:yt w=none:=by unfold yt;rw[if_pos a]
 rw[hr];rw[o]at a;simp only[Ar,decide_eq_true_eq]at a;obtain⟨q1,q2⟩:=a;have h3:(c0.toNat:Int)=48:=D9;refine c9 func76 λS nx f=>?_;refine ze (aF [(2,8),(6,12)] (zN b g he h3 q1 (zq q2 zz)) ?_);refine zo ED ?_;refine EJ ?_;exact EK f;have p:(c0.toNat=48/\¬1<w.length)\/¬c0.toNat=48:=by rw[o]at a;simp only[Ar,decide_eq_true_eq,not_and]at a;by_cases h1:c0.toNat=48;exact .inl ⟨h1,a h1⟩;exact .inr h1
 have n:yt w=if uX w=true then some (xT w) else none:=by unfold yt;rw[if_neg a]
 rw[n];clear n a o;refine c9 func76 λS nx f=>?_;obtain⟨h1,h2⟩|h1:=p;have h3:(c0.toNat:Int)=48:=D9;refine ze (aF [(2,8),(6,12)] (zN b g he h3 h2 zz) ?_);refine zp ED ?_;rotate_left;have h3:¬(c0.toNat:Int)=48:=D9;refine ze (aF [(2,8),(6,12)] (yp b g he h3 zz) ?_);refine zp (by simp[*]) ?_;all_goals
  clear h1 h3 he g x;refine zk (EJ ?_);refine ze (aF [] b ?_);refine zn (zF (λk:Nat=>k<=w.length/\∀c∈w.take k,48<=c.toNat/\c.toNat<=57) (λk=>[(0,T B),(4,I (xT (w.take k))),(19,I w.length),(20,I k)]) (λ_=>[]) (λk=>w.length-k) 0 [] EA (by simp[xT]) EA ?_);rintro k ⟨hk,ha⟩;refine EJ ?_;refine ze (zA rfl (λhc=>?_) (λhc=>?_));simp at hc;obtain⟨c,i⟩:∃c,w[k]?=some c:=⟨_,Ac hc⟩;have j:=(hg k).trans i;have a4:=sE (w.take k) λc hc=>(ha c hc).2;refine zk (aA (EJ ?_));by_cases h3:c.toNat<48;have l:(c.toNat:Int)<48:=D9;refine ze (aF [(4,27)] (zM j h3 l zz) ?_);refine zo (by simp[*]) ?_;refine EJ ?_;exact zj (zm f EB (by rw[dH i D9];rfl));have l:¬(c.toNat:Int)<48:=D9;by_cases h4:57<c.toNat;have q:57<(c.toNat:Int):=D9;refine ze (aF [(4,27)] (yp j h3 l h4 q) ?_);refine zo (by simp[*]) ?_;refine EJ ?_;exact zj (zm f EB (by rw[dH i D9];rfl));have q:¬57<(c.toNat:Int):=D9;refine ze (aF [(4,27)] (yp j h3 l h4 q) ?_);refine zp (by simp[*]) ?_;refine zk ?_;have y:w.take (k+1)=w.take k++[c]:=by rw[Ax,i];rfl
  have m:xT (w.take (k+1))=if 100000000000000000<=xT (w.take k) then 1000000000000000000 else 10*xT (w.take k)+(c.toNat-48):=by rw[y];exact aK _ _
  have z:∀d∈w.take (k+1),48<=d.toNat/\d.toNat<=57:=by rw[y];intro d f;rw[AC,AX]at f;exact f.elim (ha d) (λe=>by subst e;omega)
  obtain⟨d1,r⟩:∃d1,xT (w.take (k+1))=d1:=⟨_,rfl⟩;rw[r]at m;generalize xT (w.take k)=t at *
  by_cases w5:100000000000000000<=t;rw[if_pos w5]at m;have s:100000000000000000<=(t:Int):=D9;refine aF [] (zq w5 s) ?_;refine zo (by simp[*]) ?_;refine zg ?_;refine zg ?_;exact zv (k+1) [] ⟨hc,z⟩ D9 (by simp[zy k D9,r,m]) rfl EA;rw[if_neg w5]at m;have s:¬100000000000000000<=(t:Int):=D9;have w1:W ((t:Int)*10)=(t:Int)*10:=by simp only[W,AD];omega
  have w2:IntKind.u8.wrap ((c.toNat:Int)-48)=(c.toNat:Int)-48:=by
   have e:IntKind.u8.wrap ((c.toNat:Int)-48)=((c.toNat:Int)-48)%256:=by simp[IntKind.wrap,IntKind.bits,IntKind.signed]
   rw[e];omega
  have w3:W ((c.toNat:Int)-48)=(c.toNat:Int)-48:=by simp only[W,AD];omega
  have w4:W ((t:Int)*10+((c.toNat:Int)-48))=d1:=by simp only[W,AD];omega
  refine aF [] (zq w5 s) ?_;refine zp (by simp[*]) ?_;refine zi [] (yp j w1 w2 w3 w4) ?_;refine zg ?_;exact zv (k+1) [] ⟨hc,z⟩ D9 (by simp[zy k D9,r]) rfl EA;simp at hc;obtain rfl:k=w.length:=D9;refine zB (Wu (λ_=>.inl rfl) ?_);rw[Ah]at ha ⊢;have a3:uX w=true:=by unfold uX;rw[Av];intro c hc;simpa using ha c hc
  refine EJ ?_;exact zj (zm f EB (by simp[zr,a3,YN]))
def uC(l:List UInt8):Prop:=∀c∈l,48<=c.toNat/\c.toNat<=57
def eb{l:List UInt8}{c:UInt8}(h:uC (l++[c])):uC l/\48<=c.toNat/\c.toNat<=57:=⟨λd a=>h d (by simp[a]),h c EA⟩
def tX(l:List UInt8):uC l->jB l<10^l.length:=by refine W9 (p:=λl=>uC l->jB l<10^l.length) (λ_=>by decide) (λl c a h=>?_) l;obtain⟨h1,h2⟩:=eb h;have:=a h1;rw[XL,length_append,AZ,DY];omega
def tY(l:List UInt8):uC l->l.length<=18->xT l=jB l:=by refine W9 (p:=λl=>uC l->l.length<=18->xT l=jB l) (λ_ _=>rfl) (λl c a h hl=>?_) l;obtain⟨h1,h2⟩:=eb h;rw[length_append,AZ]at hl;have b:=tX l h1;have e2:10^l.length<=10^17:=BS EG D9;rw[aK,a h1 D9,XL,if_neg D9]
def UM{c0:UInt8}(h0:c0.toNat≠48)(l:List UInt8):uC (c0::l)->10^l.length<=jB (c0::l)/\(18<=l.length->xT (c0::l)=1000000000000000000):=by refine W9 (p:=λl=>uC (c0::l)->10^l.length<=jB (c0::l)/\(18<=l.length->xT (c0::l)=1000000000000000000)) (λh=>?_) (λl c b h=>?_) l;have:=h c0 EA;refine⟨?_,λh=>by simp at h⟩;show 1<=10*0+(c0.toNat-48);omega;rw[<-cons_append]at h ⊢;obtain⟨h1,h2⟩:=eb h;obtain⟨i1,i2⟩:=b h1;rw[XL,aK,length_append,AZ,DY];refine⟨by omega,λhl=>if_pos ?_⟩;by_cases a:18<=l.length;rw[i2 a];decide;have e:l.length=17:=D9;rw[tY _ h1 ED];rw[e]at i1;exact i1
def kE(ho:¬wg w=true)(b:uC w):xT w=if 18<w.length then 1000000000000000000 else jB w:=by
 split
 .rename_i h;cases w with
  |nil=>simp at h
  |cons c l =>
  simp only[Ae]at h;refine(UM ?_ l b).2 D9;intro a;apply ho;have:l≠[]:=by rintro rfl;simp at h
  simp[wg,a,this]
 exact tY w b D9
def tZ(w:List UInt8)(hl:w.length<=1099511627776):PP 50 [T (bs w)] (YN (yt w)):=by
 obtain _|⟨c0,wt⟩:=w;have he:bs []=ByteArray.empty:=rfl;refine c9 func50 λS nx h=>?_;refine ze (aF [(3,10),(7,14)] (zq he zz) ?_);refine aD ?_;refine EJ ?_;exact EK h;obtain⟨w,u⟩:∃w,w=c0::wt:=⟨_,rfl⟩;have v:w[0]?=some c0:=by rw[u];rfl
 have o:¬w.length=0:=by rw[u];simp
 have p:wg w=(decide (c0.toNat=48)&&decide (1<w.length)):=by rw[u];cases wt<;>simp[wg]
 rw[<-u]at hl ⊢;clear u wt;obtain⟨B,z⟩:∃B,B=bs w:=⟨_,rfl⟩;have g:B.size=w.length:=by rw[z,xK]
 have hg:∀k,B[k]?=w[k]?:=λk=>by rw[z];exact XX w k
 have j:=(hg 0).trans v;rw[<-z];by_cases a:wg w=true;have hr:yt w=none:=by unfold yt;rw[if_pos a]
 rw[hr];rw[p]at a;simp only[Ar,decide_eq_true_eq]at a;obtain⟨q1,q2⟩:=a;have h3:(c0.toNat:Int)=48:=D9;refine c9 func50 λS nx h=>?_;refine ze (aF [(3,10),(7,14)] (zN g j o h3 q1 (zq q2 zz)) ?_);refine zo ED ?_;refine EJ ?_;exact EK h;have q:(c0.toNat=48/\¬1<w.length)\/¬c0.toNat=48:=by rw[p]at a;simp only[Ar,decide_eq_true_eq,not_and]at a;by_cases h1:c0.toNat=48;exact .inl ⟨h1,a h1⟩;exact .inr h1
 have n:yt w=if uX w=true then some (xT w) else none:=by unfold yt;rw[if_neg a]
 have x:=kE a;rw[n];clear n a p;refine c9 func50 λS nx h=>?_;obtain⟨h1,h2⟩|h1:=q;have h3:(c0.toNat:Int)=48:=D9;refine ze (aF [(3,10),(7,14)] (zN g j o h3 h2 zz) ?_);refine zp ED ?_;rotate_left;have h3:¬(c0.toNat:Int)=48:=D9;refine ze (aF [(3,10),(7,14)] (yp g j o h3 zz) ?_);refine zp (by simp[*]) ?_;all_goals
  clear h1 h3 j v;refine zk ?_;refine ze (EJ ?_);refine zn (zF (λk:Nat=>k<=w.length/\uC (w.take k)) (λk=>[(0,T B),(4,I k)]) (λ_=>[]) (λk=>w.length-k) 0 [] (by simp[uC]) EA EA ?_);rintro k ⟨hk,t⟩;refine ze (aF [] g ?_);refine zA rfl (λhc=>?_) (λhc=>?_);simp at hc;obtain⟨c,f⟩:∃c,w[k]?=some c:=⟨_,Ac hc⟩;have i:=(hg k).trans f;refine zk (aA ?_);by_cases h3:c.toNat<48;have l:(c.toNat:Int)<48:=D9;refine aF [(4,30)] (zM i h3 l zz) ?_;refine zo (by simp[*]) ?_;refine EJ ?_;exact zj (zm h EB (by rw[dH f D9];rfl));have l:¬(c.toNat:Int)<48:=D9;by_cases h4:57<c.toNat;have r:57<(c.toNat:Int):=D9;refine aF [(4,30)] (yp i h3 l h4 r) ?_;refine zo (by simp[*]) ?_;refine EJ ?_;exact zj (zm h EB (by rw[dH f D9];rfl));have r:¬57<(c.toNat:Int):=D9;refine aF [(4,30)] (yp i h3 l h4 r) ?_;refine zp (by simp[*]) ?_;refine zk ?_;have s:w.take (k+1)=w.take k++[c]:=by rw[Ax,f];rfl
  have a0:uC (w.take (k+1)):=by rw[s];intro d h;rw[AC,AX]at h;exact h.elim (t d) (λe=>by subst e;omega)
  refine zg ?_;exact zv (k+1) [] ⟨hc,a0⟩ D9 (by simp[zy k D9]) rfl EA;simp at hc;obtain rfl:k=w.length:=D9;refine zB ?_;rw[Ah]at t;have a1:uX w=true:=by unfold uX;rw[Av];intro c hc;simpa using t c hc
  have b:=x t;rw[if_pos a1];by_cases m:18<w.length;rw[if_pos m]at b;refine ze (aF [] (zq g m) ?_);refine zo (by simp[*];try omega) ?_;refine EJ ?_;exact zj (zm h EB (by simp[zr,b,YN]));rw[if_neg m]at b;repeat apply ze
  refine zi [] (zq g m) ?_;refine zp (by simp[*];try omega) ?_;refine zk (EJ ?_);repeat apply ze
  refine zg ?_;refine zn (zF (λk:Nat=>k<=w.length) (λk=>[(0,T B),(5,I (jB (w.take k))),(6,I k)]) (λ_=>[]) (λk=>w.length-k) 0 [] EA (by simp[jB]) EA ?_);rintro k a2;refine ze (aF [] g ?_);refine zA rfl (λhc=>?_) (λhc=>?_);simp at hc;obtain⟨c,f⟩:∃c,w[k]?=some c:=⟨_,Ac hc⟩;have i:=(hg k).trans f;have a3:=t c (Ab f);have a4:=tX (w.take k) λd h=>t d (Bn h);have e2:10^(w.take k).length<=10^17:=BS EG (by rw[AA];omega);have s:jB (w.take (k+1))=10*jB (w.take k)+(c.toNat-48):=by rw[Ax,f];exact XL _ _
  obtain⟨d1,y⟩:∃d1,jB (w.take (k+1))=d1:=⟨_,rfl⟩;rw[y]at s;generalize jB (w.take k)=d0 at *;have w1:W (10*(d0:Int))=10*(d0:Int):=by simp only[W,AD];omega
  have w2:IntKind.u8.wrap ((c.toNat:Int)-48)=(c.toNat:Int)-48:=by
   have e:IntKind.u8.wrap ((c.toNat:Int)-48)=((c.toNat:Int)-48)%256:=by simp[IntKind.wrap,IntKind.bits,IntKind.signed]
   rw[e];omega
  have w3:W ((c.toNat:Int)-48)=(c.toNat:Int)-48:=by simp only[W,AD];omega
  have w4:W (10*(d0:Int)+((c.toNat:Int)-48))=d1:=by simp only[W,AD];omega
  refine zk (aA (zi [] (yp i w1 w2 w3 w4) ?_));refine zg ?_;exact zv (k+1) [] hc D9 (by simp[zy k D9,y]) rfl EA;simp at hc;obtain rfl:k=w.length:=D9;refine zB ?_;rw[Ah];refine EJ ?_;exact zj (zm h EB (by simp[zr,b,YN]))
def qf(w:Wd):Ln->Option Nat
 |[a,b]=>if a=w then yt b else none
 |_=>none
def wM:List Int->zT
 |c::q::l=>⟨c,q⟩::wM l
 |_=>[]
def jL:Ln->Option zT
 |[]=>none
 |w::ws=>if w=wV then (match yD ws with
   |some (n::ns)=>if (ns.length:Int)=2*n then some (wM ns) else none
   |_=>none) else none
def qb:Nat->List Ln->Option (List Ln × zt)
 |0,r=>some (r,[])
 |_+1,[]=>none
 |n+1,l::r=>match jL l with
  |none=>none
  |some t=>(qb n r).map λp=>(p.1,t::p.2)
def wu:List Ln->Option (List Ln × zt)
 |[]=>none
 |l::r=>match qf qG l with
  |none=>none
  |some n=>qb n r
def qp:Nat->List Ln->Option (List Ln × zG)
 |0,r=>some (r,[])
 |n+1,r=>match wu r with
  |none=>none
  |some p=>(qp n p.1).map λq=>(q.1,p.2::q.2)
def jZ:List Ln->Option zG
 |[]=>none
 |l::r=>match qf qn l with
  |none=>none
  |some n=>match qp n r with
   |some ([],p)=>some p
   |_=>none
def UN:∀(n:Nat) (l:List UInt8),l.length<=n->wg l≠true->uC l->zQ (jB l)=l:=by
 intro n;induction n with
 |zero=>intro l hl ho;obtain rfl:=As (Nat.le_zero.1 hl);simp[wg]at ho
 |succ n f =>
 intro l;refine W9 (p:=λl:List UInt8=>l.length<=n+1->wg l≠true->uC l->zQ (jB l)=l) (λ_ ho=>by simp[wg]at ho) (λm c _ hl ho g=>?_) l;obtain⟨d,hc⟩:=eb g;rw[XL];have b:UInt8.ofNat (48+(c.toNat-48))=c:=by rw[show 48+(c.toNat-48)=c.toNat by omega];simp
 cases m with
 |nil =>
 rw[show 10*jB []+(c.toNat-48)=c.toNat-48 from by simp[jB],Qi D9];simpa using b
 |cons a m =>
 have e:wg (a::m)≠true:=by simp[wg]at ho ⊢;intro h;exact absurd h ho
 have h1:=f (a::m) (by simp at hl ⊢;omega) e d;have h0:jB (a::m)≠0:=by
  intro h;rw[h]at h1;have:zQ 0=[48]:=by rw[Qi EG];rfl
  rw[this]at h1;have i:a=48:=by injection h1 with q;exact q.symm
  simp[wg,i]at ho
 rw[JS D9,show (10*jB (a::m)+(c.toNat-48))/10=jB (a::m) by omega,h1,show (10*jB (a::m)+(c.toNat-48))%10=c.toNat-48 by omega,b]
def Vj{w:Wd}(h:yt w=some n)(hn:n<1000000000000000000):zQ n=w:=by
 unfold yt at h;split at h;cases h;rename_i ho;split at h;rename_i d;have a:uC w:=λc hc=>by unfold uX at d;simpa using Av.1 d c hc
 cases h;rw[kE ho a]at hn ⊢;split at hn;omega;rename_i b;rw[if_neg b];exact UN _ w (Ag _) ho a;cases h
def ua(n:Nat):wg (zQ n)≠true:=by
 obtain h|h:=Bc 1 (zQ n).length;obtain⟨c,l,e,hc⟩:=sy n h;rw[e];simp[wg,hc];rcases a:zQ n with _|⟨c,_|⟨d,l⟩⟩
 exact absurd a (aH n);simp[wg];rw[a]at h;simp at h
def UO(h:n<=1000000000000000000):yt (zQ n)=some n:=by
 have a:uC (zQ n):=λc hc=>iJ n c hc;have h2:uX (zQ n)=true:=by unfold uX;rw[Av];intro c hc;simpa using a c hc
 unfold yt;rw[if_neg (ua n),if_pos h2,kE (ua n) a,sx];by_cases e:n=1000000000000000000;subst e;split<;>rfl;have:=aI n 17 D9;rw[if_neg D9]
variable {z:Int}
def ub(h0:0<=z)(h:z<=1000000000000000000):yt (zJ z)=some z.toNat:=by
 have:zJ z=zQ z.toNat:=by unfold zJ;first|rfl|(rw[if_neg D9])|simp[h0]
 rw[this];exact UO D9
def Vk{w:Wd}{l:Ln}(h:qf w l=some n):∃b,l=[w,b]/\yt b=some n:=by unfold qf at h;split at h;split at h;rename_i e;exact⟨_,by rw[e],h⟩;cases h;cases h
def Vl:∀{ls r:List Ln} {d:zt},qb n ls=some (r,d)->d.length=n/\ls.length=n+r.length:=by
 induction n with
 |zero=>intro ls r d h;simp only[qb,injEq,Prod.mk.injEq]at h;obtain⟨rfl,rfl⟩:=h;simp
 |succ n a =>
 intro ls r d h;cases ls with
 |nil=>simp[qb]at h
 |cons l ls =>
 unfold qb at h;split at h;cases h;obtain⟨p,b,e⟩:=Al.1 h;cases e;have:=a (r:=p.1) (d:=p.2) b;simp;omega
def vh:∀{ls r:List Ln} {p:zG},qp n ls=some (r,p)->p.length=n/\n+r.length<=ls.length:=by
 induction n with
 |zero=>intro ls r d h;simp only[qp,injEq,Prod.mk.injEq]at h;obtain⟨rfl,rfl⟩:=h;simp
 |succ n b =>
 intro ls r d h;unfold qp at h;split at h;cases h;rename_i q a;obtain⟨p,c,e⟩:=Al.1 h;cases e;have h1:=b (r:=p.1) (p:=p.2) c;have h2:q.1.length+1<=ls.length:=by unfold wu at a;split at a;cases a;split at a;cases a;have:=(Vl (r:=q.1) (d:=q.2) a).2;simp;omega
 simp;omega
def J2(s:Stop):Prop:=(0<=s.c/\s.c<1000000000000000000)/\0<=s.q/\s.q<1000000000000000000
def kF{w:Wd}(h:(yt w).isSome=true)(hn:zO w<1000000000000000000):zJ (zO w)=w:=by
 obtain⟨n,e⟩:=BZ.1 h;unfold zO at hn ⊢;rw[e]at hn ⊢;simp only[Option.getD_some]at hn ⊢;have:zJ (n:Int)=zQ n:=by unfold zJ;first|rfl|simp|(rw[if_neg D9];simp)
 rw[this];exact Vj e D9
def bb(w:Wd):0<=zO w:=by unfold zO;omega
def UP(m:Nat):∀{ns:Ln},ns.length=2*m->(∀w∈ns,(yt w).isSome=true)->(∀s∈wM (ns.map zO),J2 s)->(wM (ns.map zO)).flatMap (λs=>[zJ s.c,zJ s.q])=ns/\(wM (ns.map zO)).length=m:=by
 induction m with
 |zero=>intro ns hl _ _;obtain rfl:=As D9;simp[wM]
 |succ m e =>
 intro ns hl hs d
 match ns,hl with
 |a::b::ns,hl =>
 simp only[Aw,wM]at d ⊢;have h1:=d ⟨zO a,zO b⟩ EA;have h2:=e (ns:=ns) (by simp at hl;omega) (λw f=>hs w (by simp[f])) (λs q=>d s (by simp[q]));simp only[AB,Ae];rw[h2.1,h2.2,kF (hs a EA) h1.1.2,kF (hs b EA) h1.2.2];simp
def UQ{l:Ln}(h:jL l=some t)(hl:l.length<1000000000000000000)(hs:∀s∈t,J2 s):xY t=l:=by
 unfold jL at h;split at h;cases h;rename_i w ws;split at h;rename_i e;split at h;rename_i n ns hn;split at h;rename_i b;cases h;unfold yD at hn;split at hn
 .rename_i f;cases ws with
  |nil=>simp at hn
  |cons a ws =>
  simp only[Aw,injEq,List.cons.injEq]at hn;obtain⟨rfl,rfl⟩:=hn;have c:=λw d=>Av.1 f w d;have h0:=bb a;rw[length_map]at b;obtain⟨g,i⟩:=UP (zO a).toNat (ns:=ws) D9 (λw d=>c w (by simp[d])) hs;unfold xY;rw[g,i];have:zJ (zO a)=a:=kF (c a EA) (by simp at hl;omega);have e2:zQ (zO a).toNat=zJ (zO a):=by unfold zJ;first|rfl|simp|(rw[if_neg D9])
  rw[e2,this,e]
 cases hn;cases h;cases h;cases h
def UR:∀{ls r:List Ln} {d:zt},qb n ls=some (r,d)->(∀l∈ls,l.length<1000000000000000000)->(∀t∈d,∀s∈t,J2 s)->d.map xY++r=ls:=by
 induction n with
 |zero=>intro ls r d h _ _;simp only[qb,injEq,Prod.mk.injEq]at h;obtain⟨rfl,rfl⟩:=h;simp
 |succ n a =>
 intro ls r d h hl hs;cases ls with
 |nil=>simp[qb]at h
 |cons l ls =>
 unfold qb at h;split at h;cases h;rename_i t b;obtain⟨p,c,e⟩:=Al.1 h;cases e;have h1:=a (r:=p.1) (d:=p.2) c (λl q=>hl l (by simp[q])) (λt q=>hs t (by simp[q]));have h2:=UQ b (hl l EA) (hs t EA);rw[Aw,h2,cons_append,h1]
variable {ls:List Ln}
def vm{r:List Ln}(h:qb n ls=some (r,d)):∀l∈r,l∈ls:=by
 induction n generalizing ls r d with
 |zero=>simp only[qb,injEq,Prod.mk.injEq]at h;obtain⟨rfl,rfl⟩:=h;simp
 |succ n a =>
 cases ls with
 |nil=>simp[qb]at h
 |cons l ls =>
 unfold qb at h;split at h;cases h;obtain⟨p,b,e⟩:=Al.1 h;cases e;intro l hl;exact BR _ (a (r:=p.1) (d:=p.2) b l hl)
def US{r:List Ln}(h:wu ls=some (r,d))(hn:ls.length<1000000000000000000)(hl:∀l∈ls,l.length<1000000000000000000)(hs:∀t∈d,∀s∈t,J2 s):vW d++r=ls/\(∀l∈r,l∈ls)/\r.length<ls.length:=by unfold wu at h;split at h;cases h;rename_i l ls;split at h;cases h;rename_i n c;obtain⟨b,rfl,hb⟩:=Vk c;have a:=Vl h;have h1:=UR h (λl q=>hl l (by simp[q])) hs;have h2:=vm h;simp only[Ae]at hn;have h3:=Vj hb D9;refine⟨?_,λl q=>BR _ (h2 l q),by simp;omega⟩;unfold vW;rw[a.1,h3,cons_append,h1]
def UT:∀{ls r:List Ln} {p:zG},qp n ls=some (r,p)->ls.length<1000000000000000000->(∀l∈ls,l.length<1000000000000000000)->(∀d∈p,∀t∈d,∀s∈t,J2 s)->p.flatMap vW++r=ls:=by
 induction n with
 |zero=>intro ls r p h _ _ _;simp only[qp,injEq,Prod.mk.injEq]at h;obtain⟨rfl,rfl⟩:=h;simp
 |succ n b =>
 intro ls r p h hn hl hs;unfold qp at h;split at h;cases h;rename_i q f;obtain⟨a,g,e⟩:=Al.1 h;cases e;obtain⟨h1,h2,h3⟩:=US (r:=q.1) (d:=q.2) f hn hl (hs q.2 EA);have i:=b (r:=a.1) (p:=a.2) g D9 (λl c=>hl l (h2 l c)) (λd c=>hs d (by simp[c]));rw[AB,List.append_assoc,i,h1]
def UU(h:jZ ls=some p)(hn:ls.length<1000000000000000000)(hl:∀l∈ls,l.length<1000000000000000000)(hs:∀d∈p,∀t∈d,∀s∈t,J2 s):qS p=ls:=by unfold jZ at h;split at h;cases h;rename_i l ls;split at h;cases h;rename_i n f;obtain⟨b,rfl,hb⟩:=Vk f;split at h;rename_i q e;cases h;have a:=vh e;simp only[Ae]at hn;have h1:=UT e D9 (λl c=>hl l (by simp[c])) hs;have h3:=Vj hb (by simp at a;omega);unfold qS;rw[a.1,h3,<-h1,Ay];cases h
def qH:List Ln->List Int × List Ln
 |[]=>([],[])
 |l::r=>if l.length=3/\l.getD 0 []=qG then (zO (l.getD 2 [])::(qH r).1,(qH r).2) else ([],l::r)
def vg(l:Ln):Int:=zO (l.getD (l.length-1) [])
def Zc(ls:List Ln):Option Rep :=
 if ls.length<4 then none else match jZ (qH (ls.drop 4)).2 with
  |none=>none
  |some p=>some ⟨4,vg (ls.getD 1 []),vg (ls.getD 2 []),vg (ls.getD 3 []),(qH (ls.drop 4)).1,p⟩
theorem kG:∀(M r:List Ln),(∀l∈M,l.length=3/\l.getD 0 []=qG)->qH (M++r)=(M.map (λl=>zO (l.getD 2 []))++(qH r).1,(qH r).2)
 |[],r,_=>by simp
 |l::M,r,h=>by have h1:=kG M r λl q=>h l (by simp[q]);rw[cons_append,qH,if_pos (h l EA),h1];rfl
def vL{l:Ln}(r:List Ln)(h:l.length=2):qH (l::r)=([],l::r):=by rw[qH,if_neg D9]
def UV(h:jZ ls=some p):∃b r,ls=[qn,b]::r:=by unfold jZ at h;split at h;cases h;split at h;cases h;rename_i a;obtain⟨b,rfl,_⟩:=Vk a;exact⟨b,_,rfl⟩
abbrev yi:PV:=.sc (.slice none 0 0)
def jT(o:Option (List Int)):PV:=match o with
 |none=>.tup [yi,B false]
 |some l=>.tup [L l,B true]
def UW(l:List (List UInt8))(hl:l.length<=1048576)(f:∀w∈l,w.length<=1099511627776):PP 153 [L (l.map bs),.fn (.func 76) [] []] (jT (yD l)):=by
 obtain⟨zs,g⟩:∃zs:List Int,zs=l.map zO:=⟨_,rfl⟩;have a0:zs.length=l.length:=by rw[g,length_map]
 have a1:(l.map bs).length=l.length:=EA;have r:∀(k:Nat) (w:List UInt8),l[k]?=some w->zs[k]?=some (zO w)/\(l.map bs)[k]?=some (bs w):=λk n e=>⟨by rw[g,Ai,e];rfl,by rw[Ai,e];rfl⟩;have i:(∀w∈l,(yt w).isSome=true)->yD l=some zs:=λh=>by rw[Vf h,g]
 generalize l.map bs=ws at *;refine c9 func153 λS nx hd=>?_;refine EJ ?_;refine⟨by omega,λv0=>?_⟩;refine ze (EJ ?_);refine zn (zF (λs:Nat × Nat × List PV=>(s.1<=zs.length/\∀w∈l.take s.1,(yt w).isSome=true)/\s.2.2.take s.1=(zs.take s.1).flatMap enc/\s.1<=s.2.2.length/\(0<s.1->s.2.2.length=s.1)/\(zs.length=0->s.2.2=[])) (λ(k,w,cs)=>[(1,.fn (.func 76) [] []),(6,.sl nx w 1 0 k),(14,L ws),(15,I ws.length),(16,I k)]) (λ(k,w,cs)=>[.cells w 3 cs]) (λs=>zs.length-s.1) (0,v0,_) [] ⟨⟨by simp,by simp⟩,by simp,by simp,λh=>absurd h (CW _),?_⟩ EA rfl ?_);intro h;have:ws.length=0:=D9;simp[this,qr];rintro⟨k,w,cs⟩ ⟨⟨hk,b⟩,c,j,m,o⟩;simp only at hk b c j m o ⊢;refine EJ ?_;refine ze (zA rfl (λhc=>?_) (λhc=>?_))
 .simp at hc;obtain⟨u,d⟩:∃u,l[k]?=some u:=⟨_,Ac D9⟩;obtain⟨g1,g2⟩:=r k u d;obtain⟨t,tl,b1,b2,b3,f0⟩:=zH rfl ws k hc;obtain rfl:t=bs u:=by rw[b1]at g2;exact inj g2
  have a:=kD u (f u (Ab d));refine zk (aA (aF [] (zq f0 hc) ?_));cases p:yt u with
  |none =>
  rw[p]at a;simp only[YN]at a;refine EJ ?_;refine zu a ?_;refine ze (EJ ?_);refine aD ?_;refine EJ ?_;exact zj (zm hd EB (by rw[ku d p];rfl))
  |some n =>
  rw[p]at a;simp only[YN]at a;have v:zO u=n:=by unfold zO;rw[p];rfl
  rw[v]at g1;have x:(zs.take (k+1)).flatMap enc=cs.take k++[I n]:=by rw[c,Ax,g1,Ap];rfl
  have q:∀w∈l.take (k+1),(yt w).isSome=true:=by
   rw[Ax,d];intro w f;rw[AC]at f;obtain f|f:=f;exact b w f;obtain rfl:w=u:=by simpa using f
   rw[p];rfl
  refine EJ ?_;refine zu a ?_;refine ze (EJ ?_);refine zp rfl (zk (zi [] j ?_));refine⟨by omega,?_⟩;refine zg ?_;exact zv (k+1,w+1,cs.take k++[I n]) [] ⟨⟨by simp;omega,q⟩,by rw[x];exact Ad ED,by simp;omega,λ_=>by simp;omega,λh=>by omega⟩ ED (by simp[zy k D9]) rfl EA
 simp at hc;obtain rfl:k=zs.length:=D9;rw[Ad D9]at b;have y:cs.length=zs.length:=by obtain h|h:=Ca zs.length;rw[o h,h];rfl;exact m h
 have z:cs=zs.flatMap enc:=by rw[Ah,Ad D9]at c;exact c
 refine zB (yc 0 rfl ?_);refine aF [] y ?_;exact zj (zm hd EB (by simp[zr,z,i b,jT]))
def ec(l:List (List UInt8))(hl:l.length<=1048576)(c:∀w∈l,w.length<=1099511627776):PP 116 [L (l.map bs)] (jT (yD l)):=by
 have h:=UW l hl c;cases b:yD l with
 |none =>
 rw[b]at h;simp only[jT]at h ⊢;refine c9 func116 λS nx a=>?_;refine EJ ?_;refine zu h ?_;exact EK a
 |some z =>
 rw[b]at h;simp only[jT]at h ⊢;refine c9 func116 λS nx a=>?_;refine EJ ?_;refine zu h ?_;exact EK a
def UX{f:FuncId}{v:Value}(vs:List Value)(b:qU P f)(h:∀w,Calls P f vs.toArray w λe w'=>e=.returned v/\w'=w):Pure P f (vs.map .sc) (.sc v):=by
 intro S;refine⟨b,λC w us c hl d=>?_⟩;have a:us=vs.toArray:=by
  apply Array.ext;simp_all;intro i h1 h2;have hi:i<vs.length:=by simpa using h2
  have:=d i (.sc vs[i]) us[i] EA (A5 h1);generalize us[i]=u at this;cases this;simp
 subst a;refine(h w).mono ?_;rintro e w' ⟨rfl,rfl⟩;exact⟨_,_,S,C,rfl,⟨rfl,rfl⟩,.sc _,c,.refl _ _ _⟩
def wq(s:List UInt8)(c:UInt8):PP 194 [T (bs s),T (bs [c])] (I (Lib.indexByte s c)) :=
 UX [.string (bs s),.string (bs [c])] Ir λw=>stringslite_Index_one (bs s) c w
def xo(a b:List UInt8)(c:UInt8)(h:c ∉ a):Lib.indexByte (a++c::b) c=a.length:=by induction a<;>grind[Lib.indexByte]
def XY(l:List UInt8)(i j:Nat):(bs l).extract i j=bs ((l.take j).drop i):=by apply ByteArray.ext;simp[List.drop_take]
def UY(a b:List UInt8)(c:UInt8)(h:c ∉ a)(hl:(a++c::b).length<=4611686018427387904):PP 150 [T (bs (a++c::b)),T (bs [c])] (.tup [T (bs a),T (bs b),B true]):=by
 have hI:=wq (a++c::b) c;rw[xo a b c h]at hI;have f:(bs (a++c::b)).extract 0 a.length=bs a:=by rw[XY];simp
 have d:(bs (a++c::b)).extract (a.length+1) (bs (a++c::b)).size=bs b:=by rw[XY,xK,Ah,show a++c::b=(a++[c])++b by simp,List.drop_left' EA]
 have e:(bs (a++c::b)).size=a.length+1+b.length:=by rw[xK];simp;omega
 have g:(bs [c]).size=1:=rfl;rw[e]at d;have l:W ((a.length:Int)+1)=((a.length+1:Nat):Int):=zy _ (by simp at hl;omega);generalize bs (a++c::b)=X at *;generalize bs [c]=Y at *;generalize a.length=n at *;refine c9 func150 λS nx m=>?_;refine ze (EJ ?_);refine zu hI ?_;refine EJ ?_;refine aD ?_;have i:n<=n+1+b.length:=D9;have j:n+1<=n+1+b.length:=D9;have k:(0:Int)<=(n:Int)+1:=D9;refine aG none Rp (zN f d e g l (zD i j k)) ?_;exact EK m
theorem ys(a:List UInt8)(c:UInt8)(h:c ∉ a):Lib.indexByte a c=-1:=by induction a<;>grind[Lib.indexByte]
def UZ(a:List UInt8)(c:UInt8)(h:c ∉ a):PP 150 [T (bs a),T (bs [c])] (.tup [T (bs a),T (bs []),B false]):=by have hI:=wq a c;rw[ys a c h]at hI;generalize bs a=X at *;generalize bs [c]=Y at *;refine c9 func150 λS nx b=>?_;refine ze (EJ ?_);refine zu hI ?_;refine EJ ?_;refine aC (EJ ?_);exact zj (zm b rfl rfl)
def kH(c:UInt8)(s:List UInt8):PV:=match wJ c s with
 |some (a,b)=>.tup [T (bs a),T (bs b),B true]
 |none=>.tup [T (bs s),T (bs []),B false]
def ZvU(s:List UInt8)(c:UInt8)(hl:s.length<=4611686018427387904):PP 108 [T (bs s),T (bs [c])] (kH c s):=by
 unfold kH;cases d:wJ c s with
 |none =>
 have hc:=UZ s c (dF d);simp only[];refine c9 func108 λS nx e=>?_;refine EJ ?_;refine zu hc ?_;exact EK e
 |some p =>
 obtain⟨a,b⟩:=p;obtain⟨rfl,f⟩:=XM d;have hc:=UY a b c f hl;simp only[];clear d;refine c9 func108 λS nx e=>?_;refine EJ ?_;refine zu hc ?_;exact EK e
theorem yz(c:UInt8):∀(k:Nat) (s:List UInt8),s.count c<=k->Lib.splitB (bs [c]) 0 k (bs s)=(y9 c s).map bs
 |k,s,d=>by
  rw[Sw];cases h:wJ c s with
  |none =>
  grind[Lib.index_one,ys,dF,Lib.splitB_miss]
  |some p =>
  obtain⟨a,b⟩:=p;obtain⟨rfl,e⟩:=XM h;have hn:Lib.indexB (bs (a++c::b)) (bs [c])=a.length:=(Lib.index_one _ c).trans (xo a b c e);rw[List.count_append,List.count_cons_self]at d
  match k,d with
  |k+1,d =>
  have g:=yz c k b D9;have f:(bs [c]).size=1:=rfl;rw[Lib.splitB_hit _ _ _ _ _ hn,f,XY,XY,xK,Ah,show a++c::b=(a++[c])++b by simp,List.drop_left' EA,g];simp
def ZvV(c:UInt8)(s:List UInt8):(y9 c s).length=s.count c+1:=by induction s<;>grind[y9]
def ZvW(s:List UInt8)(c:UInt8)(hl:s.length<=1048576):PP 151 [T (bs s),T (bs [c]),I 0,I (-1)] (L ((y9 c s).map bs)):=by
 intro S;refine⟨Ip,λC w us z n m=>?_⟩;obtain⟨u0,u1,u2,u3,rfl⟩:∃a b c d,us=#[a,b,c,d]:=by
  match us,n with
  |⟨[a,b,c,d]⟩,_=>simp
 have y:(bs [c]).size=1:=rfl;have r0:=m 0 _ u0 rfl rfl;have r1:=m 1 _ u1 rfl rfl;have r2:=m 2 _ u2 rfl rfl;have r3:=m 3 _ u3 rfl rfl;cases r0;cases r1;cases r2;cases r3;have k:Lib.countB (bs s) (bs [c])=s.count c:=Lib.count_one c s;have a0:s.count c<=s.length:=List.count_le_length;have g:=Any.strings_genSplit_core lays221 EC (bs s) (bs [c]) 0 (-1) (s.count c+1) w (by rw[xK];omega) D9 (Bx _)
  (λx ce _=>(strings_Index_one x c _).mono λe w' h=>⟨by grind[Lib.index_one],h.2⟩)
  ((strings_Count_one (bs s) c w).mono λe w' h=>⟨by rw[h.1,k];rfl,h.2⟩)
  EG EG (by grind[xK])
 rw[Cc,yz c _ s (Ag _)]at g;refine g.mono ?_;rintro e w' ⟨rfl,rfl⟩;obtain⟨o,q,t3⟩:=z.alloc (.cells (Lib.cellsOf ((y9 c s).map bs) (s.count c+1)) (lays221_ren.t 9));have j:((y9 c s).map bs).length=s.count c+1:=by rw[length_map];exact ZvV c s
 refine⟨_,_,S,C,rfl,⟨rfl,rfl⟩,?_,o,q⟩;clear g k;generalize (y9 c s).map bs=l at *;generalize hN:s.count c+1=N at *;have f:Lib.cellsOf l N=(l.map Value.string).toArray:=by unfold Lib.cellsOf;rw[j,Bk];simp
 have r:l.flatMap enc=l.map T:=by
  clear f j o q;induction l with
  |nil=>rfl
  |cons x l ih=>simp_all
 rw[f]at o q ⊢;unfold L;rw[r];refine .lst1 D9 (by unfold xO;omega) (QH w _) t3 (λ_=>by simp) (λi v hi hv=>?_) (λi p v u hv=>?_);rw[AH,AV,Ai]at hv;obtain⟨x,_,rfl⟩:=Al.1 hv;rfl;rw[AH,AV,Ai]at hv;rw[Ai]at u;obtain⟨x,hx,rfl⟩:=Al.1 hv;rw[hx]at u;cases u;exact .sc _
def ZvX(s:List UInt8)(c:UInt8)(hl:s.length<=1048576):PP 109 [T (bs s),T (bs [c])] (L ((y9 c s).map bs)):=by have h:=ZvW s c hl;refine c9 func109 λS nx a=>?_;refine EJ ?_;refine zu h ?_;exact EK a
abbrev wl(ls:List (List (List UInt8))):List (List ByteArray):=ls.map (·.map bs)
def vX(o:Option (List (List (List UInt8)))):PV:=match o with
 |none=>.tup [yi,I 2]
 |some ls=>.tup [L (wl ls),I 0]
def xe(a:ByteArray):yq .neq a a=some (.bool false):=by simp[yq]
def Zd(h:a≠b):yq .neq a b=some (.bool true):=by have h2:¬a.toList=b.toList:=λe=>h (kC e);simp[yq,h2]
def kI(t:List UInt8)(hl:t.length<=1048576):PP 68 [T (bs t)] (vX (yO t)):=by
 refine c9 func68 λS nx hd=>?_;refine EJ ?_;refine ze (qa 4 52 1 rfl λv1=>?_);refine zn (zF (λs:List UInt8 × List (List (List UInt8)) × Nat=>s.1.length<=t.length/\s.2.1.length+s.1.length<=t.length/\yO t=(yO s.1).map (s.2.1++·)) (λ(r,ls,v)=>[(0,T (bs r)),(4,.sl nx v 1 0 ls.length)]) (λ(r,ls,v)=>[.cells v 52 ((wl ls).flatMap enc)]) (λs=>s.1.length) (t,[],v1) [] ⟨Ag _,by simp,by simp⟩ EA EA ?_);rintro⟨r,ls,v1⟩ ⟨hr,a2,l⟩;simp only at hr a2 l ⊢;have a6:r.length<=1048576:=D9;by_cases h0:r=[];subst h0;refine ze (aF [] xe ?_);refine aE ?_;refine zB (yc 0 rfl ?_);refine EJ ?_;rw[W8]at l;exact zj (zm hd EB (by simp[zr,l,vX]));have a3:bs r≠bs []:=λh=>h0 (tW.1 h);have c:=ZvU r 10 D9;unfold kH at c;refine ze (aF [] (Zd a3) ?_);refine aD ?_;refine zk (zn ?_);cases d:wJ 10 r with
 |none =>
 rw[d]at c;simp only[]at c;refine EJ ?_;refine zu c ?_;refine ze (EJ ?_);refine aD ?_;refine EJ ?_;exact zj (zm hd EB (by rw[l,sD h0 d];rfl))
 |some p =>
 obtain⟨a,b⟩:=p;rw[d]at c;simp only[]at c;have g:=dG d;obtain⟨m,a7⟩:=XM d;have a8:a.length+b.length+1=r.length:=by rw[m];simp;omega
 have e:=ZvX a 32 D9;have a4:=Sx 32 a;have n:∀w∈y9 32 a,w.length<=1048576:=λw f=>by have:=Sy 32 a w f;omega
 obtain⟨ws,o⟩:∃ws,ws=y9 32 a:=⟨_,rfl⟩;rw[<-o]at g e a4 n;refine EJ ?_;refine zu c ?_;refine ze (EJ ?_);refine aC (EJ ?_);refine zu e ?_;refine ze (EJ ?_);refine zn (zF (λk:Nat=>k<=ws.length/\∀w∈ws.take k,uW w=true) (λk=>[(4,.sl nx v1 1 0 ls.length),(6,T (bs b)),(8,L (ws.map bs)),(23,L (ws.map bs)),(24,I ws.length),(25,I k)]) (λ_=>[.cells v1 52 ((wl ls).flatMap enc)]) (λk=>ws.length-k) 0 [] EA EA EA ?_);rintro k ⟨hk,i⟩;refine EJ ?_;refine ze (zA rfl (λhc=>?_) (λhc=>?_))
 .simp at hc;obtain⟨t',tl,b1,b2,b3,f0⟩:=zH rfl (ws.map bs) k (by simpa using hc);obtain⟨u,hu,rfl⟩:∃u,ws[k]?=some u/\bs u=t':=by rw[Ai]at b1;simpa using b1
  have q:k<ws.length:=by simpa using hc
  have j:=UL u (by have:=n u (Ab hu);omega);refine zk (aA (aF [] (zq f0 q) ?_));refine EJ ?_;refine zu j ?_;cases y:uW u with
  |false =>
  refine aD ?_;refine EJ ?_;have z:yO r=none:=SA d (k:=k) (w:=u) (by rw[<-o];exact hu) y;exact zj (zm hd EB (by rw[l,z];rfl))
  |true =>
  refine aC (zg ?_);exact zv (k+1) [] ⟨q,by
   rw[Ax,hu];intro w f;rw[AC]at f;obtain f|f:=f;exact i w f;obtain rfl:w=u:=by simpa using f
   exact y⟩ D9 (by simp[zy k D9]) rfl EA
 simp at hc;obtain rfl:k=ws.length:=D9;rw[Ah]at i;rw[if_pos (Av.2 i)]at g;refine zB ?_;have a0:(wl ls).length=ls.length:=EA;have a5:((wl ls).flatMap enc).take ls.length=(wl ls).flatMap enc:=by rw[<-a0];exact HU _
 refine aF [] a0 ?_;refine⟨by omega,?_⟩;refine zg ?_;rw[a5];have a1:b.length<r.length:=D9;exact zv (b,ls++[ws],v1+1) [] ⟨AF (D0 a1) hr,by simp;omega,by rw[l,g,CE];congr 1;funext x;simp⟩ a1 EA rfl EA
variable {i:Nat}
def ZvY{w:Wd}{c:UInt8}(h:w[i]?=some c)(h1:¬(c.toNat=48\/c.toNat=49)):jS w=false:=by
 unfold jS;have:w.all (λc=>decide (c.toNat=48\/c.toNat=49))=false:=by rw[Bl];exact⟨c,Ab h,by simpa using h1⟩
 rw[this,CH]
def ZvZ{w:Wd}{c:UInt8}(h:w[i]?=some c):xy w (i+1)=if c=49 then jz (xy w i) i else xy w i:=by
 have:w.getD i 0=c:=by rw[Aa,h];rfl
 show (if w.getD i 0=49 then jz (xy w i) i else xy w i)=_;rw[this]
def jg(w:Wd):Nat × Int:=if jS w=true then if 64<w.length then (0,3) else (xy w w.length,0) else (0,2)
def Zv0(n d:Nat)(hn:n<2^64)(w:World):Calls prog 198 #[.int .u64 n,.int .i64 d] w λe w'=>e=.returned (.int .u64 (jz n d))/\w'=w:=by
 go_enter func198,ntmps198
 by_cases h:(d:Int)<64
 .have h3:=rF d D9;have b:bits BinOp.or IntKind.u64 (n:Int) (2^d)=((n ||| 2^d:Nat):Int):=by have:=bits_or_u64_nat n (2^d) D9 (by have:(2:Nat)^d<2^64:=CC EG D9;omega);simpa using this
  have a:jz n d=n ||| 2^d:=by unfold jz;rw[if_pos ⟨by omega,h⟩];rfl
  go_wp2
  go_ret
  exact⟨by show Ending.returned (.int .u64 ((n ||| 2^d:Nat):Int))=_;rw[a],rfl⟩
 have a:jz n d=n:=by unfold jz;rw[if_neg D9]
 go_wp2
 go_ret
 exact⟨rfl,rfl⟩
def Zv1(s:Wd)(hl:s.length<=1048576)(w:World):Calls prog 152 #[.string (bs s)] w λe w'=>e=.returned (.tuple #[.int .u64 (jg s).1,.int .i64 (jg s).2])/\∃i,w'=w.iter (bs s) i:=by
 have z:=xK s
 go_enter func152,ntmps152
 go_wp2
 go_loopg [4,5] s.length (λg s4 s5 wx=>∃i:Nat,i+g=s.length/\s4=.int .u64 (xy s i)/\s5=.int .i64 i/\wx=w.iter (bs s) i/\∀c∈s.take i,c.toNat=48\/c.toNat=49)
 case atStart=>exact⟨0,by omega,rfl,rfl,rfl,by simp⟩
 case round =>
  obtain⟨i,a1,rfl,rfl,rfl,k⟩:=hrel;have l:Aside (∀c∈s.take i,c.toNat=48\/c.toNat=49):=k;clear k;cases gk with
  |zero =>
  obtain rfl:i=s.length:=D9;have b:=λty=>run_next_end (P:=prog) w (bs s) s.length ty (by rw[z];omega);have m:s≠[]->jS s=true:=λh0=>by unfold jS;rw[decide_eq_true h0,BP,Av];have h9:=l.out;rw[Ah]at h9;exact λc hc=>decide_eq_true (h9 c hc)
  by_cases h0:s=[]
  .subst h0;clear m;simp only[Aj]at b
   go_wp2
   go_ret2
   exact⟨rfl,_,rfl⟩
  have o:=m h0;clear m;have p:¬(s.length:Int)=0:=by intro h;exact h0 (As D9)
  obtain q|q:=Bc 64 s.length
  .have t:(64:Int)<s.length:=D9;have j:jg s=(0,3):=by unfold jg;rw[if_pos o,if_pos q]
   go_wp2
   go_ret2
   exact⟨by rw[j];rfl,_,rfl⟩
  have t:¬(64:Int)<s.length:=D9;have j:jg s=(xy s s.length,0):=by unfold jg;rw[if_pos o,if_neg D9]
  go_wp2
  go_ret2
  exact⟨rfl,_,rfl⟩
  |succ g =>
  have hi:i<s.length:=D9;obtain⟨x,hx⟩:∃x:UInt8,s[i]?=some x:=⟨_,Ac hi⟩;have hb:i<(bs s).size:=D9;have d:(bs s)[i]'hb=x:=by have:=Af.1 hx;exact this.2
  have Hx:Aside (s[i]?=some x):=hx;have a:=ZvZ hx;clear hx;have u:=aW s i;by_cases q0:x.toNat=48
  .have b:=λty=>run_next_ascii (P:=prog) w (bs s) i ty hb (by rw[d,q0];decide);rw[d,q0]at b;have p:¬x=49:=by rintro rfl;exact absurd q0 EG
   rw[if_neg p]at a
   go_wp2
   go_roundg g
   case measure=>omega
   case rel =>
    refine⟨i+1,by omega,by rw[a],by simp,rfl,?_⟩;rw[Ax,Hx.out];intro c hc;rw[AC]at hc;obtain hc|hc:=hc;exact l.out c hc;obtain rfl:c=x:=by simpa using hc
    exact .inl q0
  by_cases n:x.toNat=49
  .have a0:x=49:=UInt8.toNat_inj.1 n;have b:=λty=>run_next_ascii (P:=prog) w (bs s) i ty hb (by rw[d,n];decide);rw[d,n]at b;rw[if_pos a0]at a;have v:=Zv0 (xy s i) i u
   go_wp2_with fail
   refine(v _).mono ?_;rintro _ _ ⟨rfl,rfl⟩;rw[<-a];clear v
   go_wp2
   go_roundg g
   case measure=>omega
   case rel =>
    refine⟨i+1,by omega,by rw[a],by simp,rfl,?_⟩;rw[Ax,Hx.out];intro c hc;rw[AC]at hc;obtain hc|hc:=hc;exact l.out c hc;obtain rfl:c=x:=by simpa using hc
    exact .inr n
  have j:jg s=(0,2):=by unfold jg;rw[if_neg (by rw[ZvY Hx.out (λh=>h.elim q0 n)];simp)]
  have b:=λty=>run_next_any (P:=prog) w (bs s) i ty hb;have f:(Utf8.decode (bs s) i).1≠48/\(Utf8.decode (bs s) i).1≠49:=by by_cases y:x.toNat<128;rw[decode_ascii (bs s) i hb (by rw[d];exact y),d];exact⟨q0,n⟩;have:=(decode_high (bs s) i hb (by rw[d];omega)).1;omega
  obtain⟨r,hr⟩:∃r,r=Utf8.decode (bs s) i:=⟨_,rfl⟩;rw[<-hr]at b f;have q2:¬(r.1:Int)=48:=by have:=f.1;omega
  have q3:¬(r.1:Int)=49:=by have:=f.2;omega
  clear hr f a
  go_wp2
  go_ret2
  exact⟨by rw[j];rfl,_,rfl⟩
def Zv2(s:Wd)(hl:s.length<=1048576):PP 152 [T (bs s)] (.tup [U (jg s).1,I (jg s).2]):=by
 intro S;refine⟨Iq,λC w us b a d=>?_⟩;obtain⟨e,rfl⟩:=dW a;have r0:=d 0 _ e rfl rfl;cases r0;refine(Zv1 s hl w).mono ?_;rintro _ _ ⟨rfl,i,rfl⟩;obtain⟨f,g,_⟩:=b.alloc (.stringIter (bs s) i);refine⟨_,_,S,C,rfl,⟨rfl,rfl⟩,.tup rfl λj c v h1 h2=>?_,f,g⟩
 match j,h1,h2 with
 |0,h1,h2=>cases h1;cases h2;exact .sc _
 |1,h1,h2=>cases h1;cases h2;exact .sc _
def J3{a b:List UInt8}:bs a=bs b<->a=b:=by constructor;intro h;have:=congrArg (λx:ByteArray=>x.data.toList) h;exact this;rintro rfl;rfl
def XZ(ws:Ln)(k:Nat)(h:k<ws.length):∃u tl,ws[k]?=some u/\List.drop k ((ws.map bs).flatMap enc)=enc (bs u)++tl:=by
 obtain⟨t,tl,b1,b2,b3,a⟩:=zH rfl (ws.map bs) k (by simpa using h);obtain⟨u,b,rfl⟩:∃u,ws[k]?=some u/\bs u=t:=by rw[Ai]at b1;simpa using b1
 exact⟨u,tl,b,a⟩
def Ea(a b:Ln)(o:a.length<=1048576)(hb:b.length<=1048576):PP 111 [L (a.map bs),L (b.map bs)] (B (decide (a=b))):=by
 refine c9 func111 λS nx f=>?_;by_cases hl:a.length=b.length;refine ze (aF [] hl ?_);refine zp (by simp[hl]) ?_;refine zk ?_;refine ze (EJ ?_);refine zn (zF (λk:Nat=>k<=a.length/\a.take k=b.take k) (λk=>[(0,L (a.map bs)),(1,L (b.map bs)),(12,I a.length),(13,I k)]) (λ_=>[]) (λk=>a.length-k) 0 [] EA (by simp[hl]) EA ?_);rintro k ⟨p,g⟩;refine EJ ?_;refine ze (zA rfl (λhc=>?_) (λhc=>?_));simp at hc;obtain⟨u,tl,j,l⟩:=XZ a k hc;obtain⟨v,n,hv,m⟩:=XZ b k D9;have e:k<b.length:=D9;refine zk (aA (EJ ?_));by_cases c:u=v;subst c;refine aG none Re (yp l m hc e xe) ?_;refine aC (zg ?_);exact zv (k+1) [] ⟨hc,by rw[Ax,Ax,j,hv,g]⟩ D9 (by simp[zy k D9]) rfl EA;have i:=Zd (λh=>c (J3.1 h):bs u≠bs v);refine aG none Re (yp l m hc e i) ?_;refine aD ?_;refine EJ ?_;have d:¬a=b:=by rintro rfl;rw[j]at hv;exact c (inj hv)
 exact zj (zm f EB (by simp[d,zr]));simp at hc;obtain rfl:k=a.length:=D9;rw[Ah,hl,Ah]at g;subst g;refine zB (EJ ?_);exact zj (zm f EB EA);refine ze (EJ ?_);refine zo ED ?_;refine EJ ?_;have d:¬a=b:=by rintro rfl;exact hl rfl
 exact zj (zm f EB (by simp[d,zr]))
structure Rdr where
 pos:Nat
 d:Int
 v:Int
 c:Int
 l:Int
 m:Int
 bad:Bool
abbrev Q5(ls:List Ln)(r:Rdr)(cs ds:PV):List PV:=[L (wl ls),I r.pos,I r.d,I r.v,I r.c,I r.l,cs,ds,I r.m,B r.bad]
def qw(ls:List Ln)(r:Rdr):Rdr:=if r.pos<ls.length then { r with pos:=r.pos+1 } else r
def be{id ver:Nat}(ls:List Ln)(r:Rdr)(cs ds:PV)(j:S id=.cells ver 129 (Q5 ls r cs ds))(hl:ls.length<=1048576):
  SP 112 [.ptr id ver 0] S (λq S'=>q=L ((zR ls r.pos).map bs)/\S'=S.set id (.cells ver 129 (Q5 ls (qw ls r) cs ds))):=by
 obtain⟨pos,d,v,c,l,m,bad⟩:=r;have b:(wl ls).length=ls.length:=EA;refine i' func112 λnx k=>?_;have e:id<nx:=jD k j EA;have g1:¬nx<=id:=D9;have x1:∀obs,ext S nx obs id=.cells ver 129 (Q5 ls ⟨pos,d,v,c,l,m,bad⟩ cs ds):=λobs=>(zL e).trans j;by_cases h:pos<ls.length;have f:¬(ls.length:Int)<=pos:=D9;refine EJ ?_;refine ze (aG (some [id]) Ri (zM x1 g1 b f) ?_);refine aC ?_;have o:i64.wrap ((pos:Int)+1)=(pos:Int)+1:=by rw[AD];omega
 refine aF [] (zD x1 g1 o) ?_;obtain⟨A,n⟩:∃A,A=Ob.cells ver 129 (Q5 ls ⟨pos+1,d,v,c,l,m,bad⟩ cs ds):=⟨_,rfl⟩;have g:qw ls ⟨pos,d,v,c,l,m,bad⟩=⟨pos+1,d,v,c,l,m,bad⟩:=if_pos h;have i:ext (S.set id (.cells ver 129 [L (wl ls),I ((pos:Int)+1),I d,I v,I c,I l,cs,ds,I m,B bad])) nx []=ext (S.set id A) nx []:=by rw[n];rfl
 have x2:∀obs,ext (S.set id A) nx obs id=.cells ver 129 (Q5 ls ⟨pos+1,d,v,c,l,m,bad⟩ cs ds):=λobs=>by rw[zL e,q11,n]
 rw[i];obtain⟨t,tl,b1,b2,b3,p⟩:=zH rfl (wl ls) pos (by rw[b];exact h);have a:t=(zR ls pos).map bs:=by
  have:ls[pos]?=some (zR ls pos):=by unfold zR;rw[Aa,Ac h];rfl
  rw[Ai,this]at b1;exact(inj b1).symm
 have w2:i64.wrap (pos:Int)=(pos:Int):=by rw[AD];omega
 refine aG (some [id]) Rp (zN x2 g1 w2 p b h) ?_;refine zj ⟨_,_,by simp;rfl,⟨by simp[zr,a],by rw[g,n]⟩,ye ?_⟩;exact jr k e _;have f:(ls.length:Int)<=pos:=D9;have g:qw ls ⟨pos,d,v,c,l,m,bad⟩=⟨pos,d,v,c,l,m,bad⟩:=if_neg h;have a:zR ls pos=[]:=by unfold zR;rw[Aa,An D9];rfl
 refine EJ ?_;refine ze (aG (some [id]) Ri (zM x1 g1 b f) ?_);refine aD ?_;refine EJ ?_;refine Zh 2 rfl ?_;rw[g];simp only[a];rw[Qu S id _ j];exact EK k
def LnsOk(ls:List Ln):Prop:=ls.length<=1048576/\∀l∈ls,l.length<=1048576/\∀w∈l,w.length<=1048576
theorem LnsOk.at(h:LnsOk ls)(k:Nat):(zR ls k).length<=1048576/\∀w∈zR ls k,w.length<=1048576:=by
 unfold zR;rw[Aa];cases a:ls[k]? with
 |none=>simp
 |some l=>exact h.2 l (Ab a)
def Zv3(l:Ln)(k:Nat):wh l (k+1)=wh l k++[l.getD (2*k+1) []]:=by simp[wh,AO]
def eg(l:Ln)(k:Nat):(wh l k).length=k:=by simp[wh]
def Zv4{l:Ln}(a:∀w∈l,w.length<=1048576):∀w∈wh l k,w.length<=1048576:=by
 intro w hm;obtain⟨i,_,rfl⟩:=Ak.1 hm;rw[Aa];cases b:l[2*i+1]? with
 |none=>simp
 |some u=>exact a u (Ab b)
variable {ws:Ln}
def bf{u:Wd}(h:ws[k]?=some u):ws.getD k []=u:=by rw[Aa,h];rfl
def Eb{id ver:Nat}(ls:List Ln)(r:Rdr)(cs ds:PV)(b:Ln)(hS:S id=.cells ver 129 (Q5 ls r cs ds))(hl:LnsOk ls)(hn:b.length<=1000):
  SP 113 [.ptr id ver 0,L (b.map bs)] S (λq S'=>q=jT (qD (zR ls r.pos) b)/\S'=S.set id (.cells ver 129 (Q5 ls (qw ls r) cs ds))):=by
 have d:=λS (h:S id=_)=>be (S:=S) (id:=id) (ver:=ver) ls r cs ds h hl.1;obtain⟨b8,a4⟩:=hl.at r.pos;obtain⟨S1,g⟩:∃S1,S1=S.set id (.cells ver 129 (Q5 ls (qw ls r) cs ds)):=⟨_,rfl⟩;rw[<-g];generalize zR ls r.pos=ln at *;refine i' func113 λnx m=>?_;have y:id<nx:=jD m hS EA;have g1:¬nx<=id:=D9;have a5:yh nx S1:=by rw[g];exact jr m y _
 refine EJ ?_;refine ze (x8 [] EF EF λK Gc Gh hK j a0 X e hX=>?_);simp -implicitDefEqProofs [e,hX];try clear e hX X
 refine j _ _ _ _ _ _ _ λo=>((d _ ((zL y).trans hS)).mono ?_).v;rintro _ _ ⟨rfl,rfl⟩;refine⟨S1,[],by rw[qI _ y,<-g],?_⟩;clear j a0;clear Gc Gh;refine vr o (D:=[]) EF λGc Gh j a0 X e hX=>?_;simp -implicitDefEqProofs [e,hX];clear e hX X;refine hK _ _ _ ?_;clear hK j a0;clear K Gc Gh;clear d o m g hS;have m:=a5;have w0:i64.wrap (2*(b.length:Int))=2*b.length:=by rw[AD];omega
 by_cases p:ln.length=2*b.length
 .have c0:(ln.length:Int)=2*b.length:=D9;refine ze (aF [] (zq w0 c0) ?_);refine aC (EJ ?_);refine ze (qa 7 9 1 rfl λv1=>?_);refine EJ ?_;refine zn (zF (λs:Nat × Nat=>s.1<=b.length/\∀i,i<s.1->ln.getD (2*i) []=b.getD i []) (λ(k,v)=>[(6,L (ln.map bs)),(7,.sl nx v 1 0 k),(18,L (b.map bs)),(19,I b.length),(20,I k)]) (λ(k,v)=>[.cells v 9 (((wh ln k).map bs).flatMap enc)]) (λs=>b.length-s.1) (0,v1) [] ⟨by simp,λi hi=>absurd hi (Nat.not_lt_zero _)⟩ EA (by simp[wh]) ?_);rintro⟨k,v⟩ ⟨hk,hq⟩;simp only at hk hq ⊢;refine EJ ?_;refine ze (zA rfl (λhc=>?_) (λhc=>?_));simp at hc;obtain⟨a,tl,ha,f0⟩:=XZ b k hc;obtain⟨u,c6,hu,f1⟩:=XZ ln (2*k) D9;obtain⟨x,c7,hx,f2⟩:=XZ ln (2*k+1) D9;have k1:2*k<ln.length:=D9;have k2:2*k+1<ln.length:=D9;have w1:i64.wrap (2*(k:Int))=((2*k:Nat):Int):=by rw[AD];omega
  have w2:i64.wrap (((2*k:Nat):Int)+1)=((2*k+1:Nat):Int):=zy _ D9;obtain⟨a6,l⟩:∃n,n=2*k:=⟨_,rfl⟩;obtain⟨a7,a1⟩:∃n,n=2*k+1:=⟨_,rfl⟩;rw[<-l]at f1 k1 w1 w2 hu;rw[<-a1]at f2 k2 hx;have a8:i64.wrap ((a6:Int)+1)=(a7:Int):=by rw[w2,l,a1]
  refine zk (aA (aF [] (zq f0 hc) ?_));by_cases a2:u=a;subst a2;refine ze (aF [] (zM f1 k1 w1 xe) ?_);refine aC ?_;have a3:(wh ln k).length=k:=eg ln k;refine zi [] (zM f2 k2 w1 a8) ?_;refine⟨by omega,?_⟩;refine zg ?_;have a9:((wh ln (k+1)).map bs).flatMap enc=List.take k (((wh ln k).map bs).flatMap enc)++[T (bs x)]:=by rw[Ad (by rw[W6,length_map,a3];exact Ag _),Zv3,<-a1,bf hx,map_append,Ap];rfl
  exact zv (k+1,v+1) [] ⟨hc,λi hi=>by obtain q|q:=Bc i k;exact hq i q;obtain rfl:i=k:=D9;rw[<-l,bf hu,bf ha]⟩ D9 (by simp[zy k D9]) rfl (by simp only[a9,Ay]);have b7:=Zd (λh=>a2 (J3.1 h):bs u≠bs a);refine ze (aF [] (zM f1 k1 w1 b7) ?_);refine aD ?_;refine EJ ?_;have f:qD ln b=none:=by unfold qD vU;rw[if_neg];rw[Ar,Av];rintro⟨_,h2⟩;have:=of_decide_eq_true (h2 k (AI.2 hc));rw[<-l,bf hu,bf ha]at this;exact a2 this
  exact zj (zm m EB (by rw[f];rfl));simp at hc;obtain rfl:k=b.length:=D9;have f:qD ln b=yD (wh ln b.length):=by unfold qD vU;rw[if_pos];rw[Ar,Av];exact⟨decide_eq_true p,λi hi=>decide_eq_true (hq i (AI.1 hi))⟩
  have c:=ec (wh ln b.length) (by rw[eg];omega) (λw hw=>by have:=Zv4 a4 w hw;omega);have a3:(wh ln b.length).length=b.length:=eg ln _;rw[f];generalize wh ln b.length=od at *;refine zB (yc 0 rfl ?_);have t:=a3.symm;rw[show L (od.map bs)=.lst od.length ((od.map bs).flatMap enc) by unfold L;rw[length_map]]at c;cases hz:yD od with
  |none =>
  rw[hz]at c;simp only[jT]at c ⊢;refine aF [] t ?_;refine zu c ?_;exact EK m
  |some z =>
  rw[hz]at c;simp only[jT]at c ⊢;refine aF [] t ?_;refine zu c ?_;exact EK m
 have c0:¬(ln.length:Int)=2*b.length:=D9;refine ze (aF [] (zq w0 c0) ?_);refine aD ?_;refine EJ ?_;have f:qD ln b=none:=by unfold qD vU;rw[decide_eq_false p];rfl
 exact zj (zm m EB (by rw[f];rfl))
def Vm{l a:Ln}{z:List Int}(h:qD l a=some z):z.length=a.length:=by unfold qD at h;split at h;rw[aT h,eg];cases h
abbrev yy(ver:Nat)(ls:List Ln)(r:Rdr)(cs ds:PV):Ob:=.cells ver 129 (Q5 ls r cs ds)
def Zv5{id ver:Nat}(ls:List Ln)(r:Rdr)(cs ds:PV)(f:S id=yy ver ls r cs ds)(hl:LnsOk ls):
  SP 69 [.ptr id ver 0] S (λq S'=>q=B (decide (zR ls r.pos=[j7,[49]]))/\S'=S.set id (yy ver ls (qw ls r) cs ds)):=by
 have a:=λS (h:S id=_)=>be (S:=S) (id:=id) (ver:=ver) ls r cs ds h hl.1;have g:=Ea (zR ls r.pos) [j7,[49]] (hl.at r.pos).1 EA;obtain⟨S1,c⟩:∃S1,S1=S.set id (yy ver ls (qw ls r) cs ds):=⟨_,rfl⟩;rw[<-c];generalize zR ls r.pos=ln at *;refine i' func69 λnx e=>?_;have d:id<nx:=jD e f EA;have i:yh nx S1:=by rw[c];exact jr e d _
 refine EJ ?_;refine EJ ?_;refine λb=>((a _ ((zL d).trans f)).mono ?_).v;rintro _ _ ⟨rfl,rfl⟩;refine⟨S1,[],by rw[qI _ d,<-c],zS b ?_⟩;refine λb=>((g _).mono ?_).v;rintro _ _ ⟨rfl,rfl⟩;refine⟨_,_,rfl,zS b ?_⟩;clear a e c f;have e:=i;exact EK e
theorem Zv6{id ver:Nat}(ls:List Ln)(r:Rdr)(cs ds:PV)(n:S id=yy ver ls r cs ds)(hl:LnsOk ls):
  SP 70 [.ptr id ver 0] S (λq S'=>match qD (zR ls r.pos) [qY,qZ,q8,q9] with
   |some [d,v,c,l]=>q=B true/\S'=S.set id (yy ver ls { qw ls r with d:=d,v:=v,c:=c,l:=l } cs ds)
   |_=>q=B false/\S'=S.set id (yy ver ls (qw ls r) cs ds)):=by
 have a:=λS (h:S id=_)=>Eb (S:=S) (id:=id) (ver:=ver) ls r cs ds [qY,qZ,q8,q9] h hl EA;cases s:qD (zR ls r.pos) [qY,qZ,q8,q9] with
 |none =>
 rw[s]at a;simp only[jT]at a ⊢;obtain⟨S1,e⟩:∃S1,S1=S.set id (yy ver ls (qw ls r) cs ds):=⟨_,rfl⟩;rw[<-e];refine i' func70 λnx j=>?_;have b:id<nx:=jD j n EA;have t:yh nx S1:=by rw[e];exact jr j b _
 refine EJ ?_;refine ze (x8 [] EF EF λK Gc Gh u i k X g o=>?_);simp -implicitDefEqProofs [g,o];try clear g o X
 refine i _ _ _ _ _ _ _ λf=>((a _ ((zL b).trans n)).mono ?_).v;rintro _ _ ⟨rfl,rfl⟩;refine⟨S1,[],by rw[qI _ b,<-e],?_⟩;clear i k;clear Gc Gh;refine vr f (D:=[]) EF λGc Gh i k X g o=>?_;simp -implicitDefEqProofs [g,o];clear g o X;refine u _ _ _ ?_;clear u i k;clear K Gc Gh;clear a f j e n;have j:=t;refine ze (EJ ?_);refine aC (EJ ?_);exact EK j
 |some z =>
 obtain⟨d,v,c,l,rfl⟩:∃d v c l,z=[d,v,c,l]:=by
  have:=Vm s
  match z,this with
  |[d,v,c,l],_=>exact⟨d,v,c,l,rfl⟩
 rw[s]at a;simp only[jT]at a ⊢;generalize qw ls r=r1 at *;obtain⟨pos,w,v0,c0,x,m,bad⟩:=r1;refine i' func70 λnx j=>?_;have b:id<nx:=jD j n EA;refine EJ ?_;refine EJ ?_;refine λf=>((a _ ((zL b).trans n)).mono ?_).v;rintro _ _ ⟨rfl,rfl⟩;refine⟨_,[],qI _ b,zS f ?_⟩;obtain⟨S1,e⟩:∃S1,S1=S.set id (yy ver ls ⟨pos,w,v0,c0,x,m,bad⟩ cs ds):=⟨_,rfl⟩;rw[<-e];have g1:¬nx<=id:=D9;have x1:∀obs,ext S1 nx obs id=yy ver ls ⟨pos,w,v0,c0,x,m,bad⟩ cs ds:=λobs=>by rw[zL b,e,q11]
 refine ze (EJ ?_);refine aD ?_;have x2:∀A obs,ext (S1.set id A) nx obs id=A:=λA obs=>by rw[zL b,q11]
 refine zC (some []) (pures [0,1,2,3,4,5,6,7,8,9,10,11,12,13,14,15,16,17,18] (.alt 19 (pures [20,21,22] (.alt 23 (pures [24,25,26] (.alt 27 (pures [28,29,30] (.alt 31 (.done) .stop)) .stop)) .stop)) .stop)) (zM x1 g1 x2 set_set) ?_;have p:S1.set id (.cells ver 129 [L (wl ls),I pos,I d,I v,I c,I l,cs,ds,I m,B bad])=S.set id (yy ver ls ⟨pos,d,v,c,l,m,bad⟩ cs ds):=by rw[e,set_set]
 rw[p];refine EJ ?_;refine zj ⟨_,_,by simp;rfl,⟨by simp[zr],rfl⟩,ye ?_⟩;exact jr j b _
theorem Zv7{id ver:Nat}(ls:List Ln)(r:Rdr)(cs ds:PV)(n:S id=yy ver ls r cs ds)(hl:LnsOk ls):
  SP 71 [.ptr id ver 0] S (λq S'=>match qD (zR ls r.pos) [jd] with
   |some [m]=>q=B true/\S'=S.set id (yy ver ls { qw ls r with m:=m } cs ds)
   |_=>q=B false/\S'=S.set id (yy ver ls (qw ls r) cs ds)):=by
 have a:=λS (h:S id=_)=>Eb (S:=S) (id:=id) (ver:=ver) ls r cs ds [jd] h hl EA;cases s:qD (zR ls r.pos) [jd] with
 |none =>
 rw[s]at a;simp only[jT]at a ⊢;obtain⟨S1,b⟩:∃S1,S1=S.set id (yy ver ls (qw ls r) cs ds):=⟨_,rfl⟩;rw[<-b];refine i' func71 λnx j=>?_;have e:id<nx:=jD j n EA;have t:yh nx S1:=by rw[b];exact jr j e _
 refine EJ ?_;refine ze (x8 [] EF EF λK Gc Gh u i k X g o=>?_);simp -implicitDefEqProofs [g,o];try clear g o X
 refine i _ _ _ _ _ _ _ λf=>((a _ ((zL e).trans n)).mono ?_).v;rintro _ _ ⟨rfl,rfl⟩;refine⟨S1,[],by rw[qI _ e,<-b],?_⟩;clear i k;clear Gc Gh;refine vr f (D:=[]) EF λGc Gh i k X g o=>?_;simp -implicitDefEqProofs [g,o];clear g o X;refine u _ _ _ ?_;clear u i k;clear K Gc Gh;clear a f j b n;have j:=t;refine ze (EJ ?_);refine aC (EJ ?_);exact EK j
 |some z =>
 obtain⟨m,rfl⟩:∃m,z=[m]:=by
  have:=Vm s
  match z,this with
  |[m],_=>exact⟨m,rfl⟩
 rw[s]at a;simp only[jT]at a ⊢;generalize qw ls r=r1 at *;obtain⟨pos,d,v,c,l,w,bad⟩:=r1;refine i' func71 λnx j=>?_;have e:id<nx:=jD j n EA;refine EJ ?_;refine EJ ?_;refine λf=>((a _ ((zL e).trans n)).mono ?_).v;rintro _ _ ⟨rfl,rfl⟩;refine⟨_,[],qI _ e,zS f ?_⟩;obtain⟨S1,b⟩:∃S1,S1=S.set id (yy ver ls ⟨pos,d,v,c,l,w,bad⟩ cs ds):=⟨_,rfl⟩;rw[<-b];have g1:¬nx<=id:=D9;have x1:∀obs,ext S1 nx obs id=yy ver ls ⟨pos,d,v,c,l,w,bad⟩ cs ds:=λobs=>by rw[zL e,b,q11]
 refine ze (EJ ?_);refine aD ?_;refine zi [] (zq x1 g1) ?_;have p:S1.set id (.cells ver 129 [L (wl ls),I pos,I d,I v,I c,I l,cs,ds,I m,B bad])=S.set id (yy ver ls ⟨pos,d,v,c,l,m,bad⟩ cs ds):=by rw[b,set_set]
 rw[p];refine EJ ?_;refine zj ⟨_,_,by simp;rfl,⟨by simp[zr],rfl⟩,ye ?_⟩;exact jr j e _
def Zv8{id ver:Nat}(ls:List Ln)(r:Rdr)(cs ds:PV)(e:S id=yy ver ls r cs ds):
  SP 74 [.ptr id ver 0] S (λq S'=>q=B (decide (r.pos=ls.length))/\S'=S):=by
 obtain⟨pos,d,v,c,l,m,bad⟩:=r;have a:(wl ls).length=ls.length:=EA;refine i' func74 λnx f=>?_;have b:id<nx:=jD f e EA;have g1:¬nx<=id:=D9;have x1:∀obs,ext S nx obs id=yy ver ls ⟨pos,d,v,c,l,m,bad⟩ cs ds:=λobs=>(zL b).trans e;refine EJ ?_;refine aG (some [id]) Rl (zD x1 g1 a) ?_;exact zj (zm f EB (by simp[zr,Int.natCast_inj]))
def YO(n:Int)(ps:Ln)(k:Nat):Bool:=!((ps.take k).all λw=>decide ((w.length:Int)=n))
def Zv9(n:Int)(ps:Ln):YO n ps 0=false:=by simp[YO]
def Zwa{n:Int}{w:Wd}(h:ws[k]?=some w):YO n ws (k+1)=(YO n ws k||!decide ((w.length:Int)=n)):=by unfold YO;rw[Ax,h];simp
def Zwb{w:Wd}(h:jS w=true):(jg w).1=qM w/\(jg w).2≠2:=by unfold jg qM;rw[if_pos h];split<;>simp
def Zwc{w:Wd}(h:jS w=false):(jg w).2=2:=by unfold jg;rw[if_neg (by rw[h];simp)]
theorem Zwd{id ver idC vC:Nat}(ls:List Ln)(r:Rdr)(cu:List Cust)(ds:PV)(l:Ln)(hS:S id=yy ver ls r (.sl idC vC 8 0 cu.length) ds)(hC:S idC=.cells vC 59 (cu.flatMap enc))(d6:cu.length<=1048576)(hl:l.length<=1048576/\∀w∈l,w.length<=1048576):
  SP 114 [.ptr id ver 0,L (l.map bs)] S (λq S'=>match YJ r.d l with
   |none=>q=B false/\∃b,S'=S.set id (yy ver ls { r with bad:=b } (.sl idC vC 8 0 cu.length) ds)
   |some (c,ok)=>q=B true/\S'=(S.set id (yy ver ls { r with bad:=r.bad||!ok } (.sl idC (vC+1) 8 0 (cu.length+1)) ds)).set idC (.cells (vC+1) 59 ((cu++[c]).flatMap enc))):=by
 have z:id≠idC:=by rintro rfl;rw[hS]at hC;simp at hC
 obtain⟨pos,d,v,c,ln,m,bad⟩:=r;obtain _|⟨dw,ps⟩:=l;simp only[YJ];refine i' func114 λnx j=>?_;refine EJ ?_;refine ze (EJ ?_);refine aD ?_;refine EJ ?_;refine zj ⟨_,_,by simp;rfl,⟨by simp[zr],bad,(Qu S id _ hS).symm⟩,ye ?_⟩;exact j;rw[aU];have f:=kD dw (by have:=hl.2 dw EA;omega);cases hz:yt dw with
 |none =>
 rw[hz]at f;simp only[YN,CV,AW,false_and,if_false]at f ⊢;refine i' func114 λnx j=>?_;refine EJ ?_;refine ze (EJ ?_);refine zp ED ?_;refine zk (EJ ?_);refine zu f ?_;refine ze (EJ ?_);refine aD ?_;refine EJ ?_;refine zj ⟨_,_,by simp;rfl,⟨by simp[zr],bad,(Qu S id _ hS).symm⟩,ye ?_⟩;exact j
 |some dn =>
 have a8:zO dw=dn:=by unfold zO;rw[hz];rfl
 rw[hz]at f;simp only[YN]at f;refine i' func114 λnx j=>?_;have g:id<nx:=jD j hS EA;have p:idC<nx:=jD j hC EA;have g1:¬nx<=id:=D9;refine EJ ?_;refine ze (EJ ?_);refine zp ED ?_;refine zk (EJ ?_);refine zu f ?_;refine ze (EJ ?_);refine aC (EJ ?_);intro v0;refine qj 0 2 65 1 rfl rfl λv1=>?_;obtain⟨o,ho⟩:∃o,o=(if (some dn).isSome=true/\(ps.all jS)=true then some (Z1 dw ps,ps.all λw=>decide ((w.length:Int)=d)) else none):=⟨_,rfl⟩;rw[<-ho];have a9:List.take ps.length ((ps.map bs).flatMap enc)=(ps.map bs).flatMap enc:=Ad (by rw[W6,length_map];exact Ag _);obtain⟨a,e⟩:∃a:Nat->Store,∀k,a k=S.set id (yy ver ls ⟨pos,d,v,c,ln,m,bad||YO d ps k⟩ (.sl idC vC 8 0 cu.length) ds):=⟨_,λ_=>rfl⟩;have b7:a 0=S:=by rw[e,Zv9,Bool.or_false];exact Qu S id _ hS
 have x1:∀k obs,ext (a k) nx obs id=yy ver ls ⟨pos,d,v,c,ln,m,bad||YO d ps k⟩ (.sl idC vC 8 0 cu.length) ds:=λk obs=>by rw[zL g,e,q11]
 have b8:∀k,yh nx (a k):=λk=>by rw[e];exact jr j g _
 have d7:ps.length<=1048576:=by have:=hl.1;simp at this;omega
 refine ze (aF [] a9 ?_);refine zn (xC (λs:Nat × Nat × Nat=>s.1<=ps.length/\∀w∈ps.take s.1,jS w=true) (λ(k,w0,w1)=>[(0,.ptr id ver 0),(7,.ptr nx w0 0),(27,L (ps.map bs)),(28,I ps.length),(29,I k)]) (λs=>a s.1) (λ(k,w0,w1)=>[.cells w0 59 [I 1,I dn,.sl (nx+1) w1 1 0 k,I 0,I 0,I 0,I 0,I 0],.cells w1 65 (((ps.map qM).take k).flatMap enc)]) (λs=>ps.length-s.1) (zY (0,v0,v1) [] EA EA b7 EA) ?_);rintro⟨k,w0,w1⟩ ⟨hk,h⟩;simp only at hk h ⊢;refine EJ ?_;refine ze (zA rfl (λhc=>?_) (λhc=>?_))
 .simp at hc;obtain⟨w,tl,hw,f0⟩:=XZ ps k hc;have c6:w.length<=1048576:=hl.2 w (by simp[Ab hw]);have c7:=Zv2 w c6;have a2:=xK w;refine zk (aA (aF [] (zq f0 hc) ?_));refine EJ ?_;refine zu c7 ?_;cases i:jS w with
  |false =>
  have hf:=Zwc i;have a0:o=none:=by rw[ho,if_neg];rintro⟨_,h2⟩;have:=Av.1 h2 w (Ab hw);rw[i]at this;cases this
  refine ze (aF [] hf ?_);refine aD ?_;refine EJ ?_;refine zj ⟨_,_,by simp;rfl,by rw[a0];exact⟨by simp[zr],_,e k⟩,ye (b8 k)⟩
  |true =>
  obtain⟨a3,c8⟩:=Zwb i;have t:∀u∈ps.take (k+1),jS u=true:=by
   rw[Ax,hw];intro u hu;rw[AC]at hu;obtain hu|hu:=hu;exact h u hu;obtain rfl:u=w:=by simpa using hu
   exact i
  have a4:((ps.map qM).take (k+1)).flatMap enc=((ps.map qM).take k).flatMap enc++[U (qM w)]:=by rw[Ax,Ai,hw,Ap];rfl
  have d0:(((ps.map qM).take k).flatMap enc).length=k:=by rw[mR,AA,length_map];omega
  have x:List.take k (((ps.map qM).take k).flatMap enc)=((ps.map qM).take k).flatMap enc:=Ad (by rw[d0];exact Ag _);have a5:=Zwa (n:=d) hw;refine ze (aF [] c8 ?_);refine aC ?_;by_cases hq:(w.length:Int)=d;have a1:a (k+1)=a k:=by rw[e,e,a5,decide_eq_true hq,Bool.not_true,Bool.or_false]
  refine ze (aF [] (zD x1 a2 hq) ?_);refine aC (zi [] (zq a3 x) ?_);refine⟨by omega,?_⟩;refine zg ?_;exact zv (k+1,w0,w1+1) [] ⟨hc,t⟩ D9 (by simp[zy k D9]) a1 (by simp only[a4,Ay]);have a1:(a k).set id (yy ver ls ⟨pos,d,v,c,ln,m,true⟩ (.sl idC vC 8 0 cu.length) ds)=a (k+1):=by rw[e,e,a5,decide_eq_false hq,Dw,Bool.or_true,Bool.or_true,set_set]
  refine ze (aF [] (zD x1 a2 hq) ?_);refine aD ?_;refine zi [] (zq x1 g1) ?_;have a6:(a k).set id (.cells ver 129 [L (wl ls),I pos,I d,I v,I c,I ln,.sl idC vC 8 0 cu.length,ds,I m,B true])=a (k+1):=a1;rw[a6];refine zi [] (zq a3 x) ?_;refine⟨by omega,?_⟩;refine zg ?_;exact zv (k+1,w0,w1+1) [] ⟨hc,t⟩ D9 (by simp[zy k D9]) rfl (by simp only[a4,Ay])
 simp at hc;obtain rfl:k=ps.length:=D9;rw[Ah]at h;refine zB ?_;have a0:o=some (Z1 dw ps,ps.all λw=>decide ((w.length:Int)=d)):=by rw[ho,if_pos ⟨rfl,Av.2 h⟩]
 have d1:YO d ps ps.length=!(ps.all λw=>decide ((w.length:Int)=d)):=by unfold YO;rw[Ah]
 have y:(ps.map qM).length=ps.length:=EA;rw[show (ps.map qM).take ps.length=ps.map qM from Ad EA];refine yc 1 rfl ?_;have d2:=x1 ps.length;have g2:¬nx<=idC:=D9;have d3:∀obs,ext (a ps.length) nx obs idC=.cells vC 59 (cu.flatMap enc):=λobs=>by rw[zL p,e,q10 _ _ _ _ (Ne.symm z),hC]
 have d4:∀A obs,ext ((a ps.length).set idC A) nx obs id=yy ver ls ⟨pos,d,v,c,ln,m,bad||YO d ps ps.length⟩ (.sl idC vC 8 0 cu.length) ds:=λA obs=>by rw[zL g,q10 _ _ _ _ z,e,q11]
 refine aG (some [nx]) R9 (zN d2 d3 d4 g1 g2 y) ?_;refine⟨by omega,?_⟩;have d5:(cu++[Z1 dw ps]).flatMap enc=cu.flatMap enc++[I 1,I dn,.lst ps.length ((ps.map qM).flatMap enc),I 0,I 0,I 0,I 0,I 0]:=by rw[Ap];congr 1;show yf (Z1 dw ps)=_;unfold Z1 yf;rw[a8];show [I 1,I dn,.lst (ps.map qM).length ((ps.map qM).flatMap enc),I 0,I 0,I 0,I 0,I 0]=_;rw[y]
 rw[<-d5];have a7:((a ps.length).set idC (.cells (vC+1) 59 ((cu++[Z1 dw ps]).flatMap enc))).set id (.cells ver 129 [L (wl ls),I pos,I d,I v,I c,I ln,.sl idC (vC+1) 8 0 (cu.length+1),ds,I m,B (bad||YO d ps ps.length)])=(S.set id (yy ver ls ⟨pos,d,v,c,ln,m,bad||!(ps.all λw=>decide ((w.length:Int)=d))⟩ (.sl idC (vC+1) 8 0 (cu.length+1)) ds)).set idC (.cells (vC+1) 59 ((cu++[Z1 dw ps]).flatMap enc)):=by rw[<-d1,e,set_comm _ idC id _ _ z,set_set]
 rw[a7];refine EJ ?_;refine zj ⟨_,_,by simp;rfl,by rw[a0];exact⟨by simp[zr],by rw[Ap];rfl⟩,ye ?_⟩;exact jr (jr j g _) p _
def X0(a:ByteArray):yq .eql a a=some (.bool true):=by simp[yq]
def Ec{l:Ln}(h:l.length≠5):Zw l=none:=by
 match l,h with
 |[],_=>rfl
 |[_],_=>rfl
 |[_,_],_=>rfl
 |[_,_,_],_=>rfl
 |[_,_,_,_],_=>rfl
 |[_,_,_,_,_],h=>exact absurd rfl h
 |_::_::_::_::_::_::_,_=>rfl
theorem Zwe{id ver idC vC:Nat}(ls:List Ln)(r:Rdr)(cu:List Cust)(ds:PV)(l:Ln)(hS:S id=yy ver ls r (.sl idC vC 8 0 cu.length) ds)(hC:S idC=.cells vC 59 (cu.flatMap enc))(c8:cu.length<=1048576)(hl:l.length<=1048576/\∀w∈l,w.length<=1048576):
  SP 115 [.ptr id ver 0,L (l.map bs)] S (λq S'=>match Zw l with
   |none=>q=B false/\S'=S
   |some c=>q=B true/\S'=(S.set id (yy ver ls r (.sl idC (vC+1) 8 0 (cu.length+1)) ds)).set idC (.cells (vC+1) 59 ((cu++[c]).flatMap enc))):=by
 have i:id≠idC:=by rintro rfl;rw[hS]at hC;simp at hC
 obtain⟨pos,d,v,c,ln,m,bad⟩:=r;by_cases h5:l.length=5
 .obtain⟨a,b,e,n,h,rfl⟩:∃a b c d e,l=[a,b,c,d,e]:=by
   match l,h5 with
   |[a,b,c,d,e],_=>exact⟨a,b,c,d,e,rfl⟩
  obtain⟨o,ho⟩:∃o,o=Zw [a,b,e,n,h]:=⟨_,rfl⟩;rw[<-ho];rw[dU]at ho;have f:=ec [a,b,e,h] EA (λw hw=>by have:=hl.2 w (by simp at hw ⊢;obtain rfl|rfl|rfl|rfl:=hw<;>simp);omega);cases hz:yD [a,b,e,h] with
  |none =>
  rw[hz]at f;simp only[jT]at f;have g:o=none:=by rw[ho,hz];simp
  refine i' func115 λnx y=>?_;refine EJ ?_;refine ze (EJ ?_);refine aC (aG none Rw n' ?_);refine zK (f) n' ?_;refine ze (EJ ?_);refine aD ?_;refine EJ ?_;refine zj ⟨_,_,by simp;rfl,by rw[g];exact⟨by simp[zr],rfl⟩,ye y⟩
  |some z =>
  have a9:z=[zO a,zO b,zO e,zO h]:=by unfold yD at hz;split at hz<;>cases hz;rfl
  subst a9;rw[hz]at f ho;simp only[jT]at f;obtain⟨s,b7⟩:∃x,x=zO a:=⟨_,rfl⟩;obtain⟨t,b8⟩:∃x,x=zO b:=⟨_,rfl⟩;obtain⟨ne,a7⟩:∃x,x=zO e:=⟨_,rfl⟩;obtain⟨u,c6⟩:∃x,x=zO h:=⟨_,rfl⟩;rw[<-b7,<-b8,<-a7,<-c6]at f ho;have a1:n=vf->yq .eql (bs n) ⟨#[102,105,108,108]⟩=some (.bool true):=λq=>by rw[q];exact X0 _
  have a0:n≠vf->yq .eql (bs n) ⟨#[102,105,108,108]⟩=some (.bool false):=λq=>Vi λhh=>q (J3.1 hh);have a8:n=uB->yq .eql (bs n) ⟨#[97,110,121]⟩=some (.bool true):=λq=>by rw[q];exact X0 _
  have a2:n≠uB->yq .eql (bs n) ⟨#[97,110,121]⟩=some (.bool false):=λq=>Vi λhh=>q (J3.1 hh);refine i' func115 λnx y=>?_;have k:id<nx:=jD y hS EA;have j:idC<nx:=jD y hC EA;have g1:¬nx<=id:=D9;have g2:¬nx<=idC:=D9;refine EJ ?_;refine ze (EJ ?_);refine aC (aG none Rw n' ?_);refine zK (f) n' ?_;refine ze (EJ ?_);refine aC (aG (some []) Ra n' ?_);intro v0;refine z8 0 2 rfl rfl ?_;refine ze (EJ ?_);refine zn ?_;by_cases hf:n=vf;have e1:=a1 hf;refine aF [] e1 ?_;refine aD ?_;refine zg ?_;have g:o=some ⟨2,0,[],s,t,ne,1,u⟩:=by rw[ho,if_pos ⟨rfl,.inl hf⟩];unfold Qr;rw[if_pos hf]
  have a3:∀obs,ext S nx obs id=yy ver ls ⟨pos,d,v,c,ln,m,bad⟩ (.sl idC vC 8 0 cu.length) ds:=λobs=>(zL k).trans hS;have a4:∀obs,ext S nx obs idC=.cells vC 59 (cu.flatMap enc):=λobs=>(zL j).trans hC;have a5:∀A obs,ext (S.set idC A) nx obs id=yy ver ls ⟨pos,d,v,c,ln,m,bad⟩ (.sl idC vC 8 0 cu.length) ds:=λA obs=>by rw[zL k,q10 _ _ _ _ i,hS]
  refine aG (some [nx]) R9 (yp a3 a4 a5 g1 g2) ?_;refine⟨by omega,?_⟩;have a6:(cu++[(⟨2,0,[],s,t,ne,1,u⟩:Cust)]).flatMap enc=cu.flatMap enc++[I 2,I 0,.lst 0 [],I s,I t,I ne,I 1,I u]:=by rw[Ap];rfl
  have p:(S.set idC (.cells (vC+1) 59 (cu.flatMap enc++[I 2,I 0,.lst 0 [],I s,I t,I ne,I 1,I u]))).set id (.cells ver 129 [L (wl ls),I pos,I d,I v,I c,I ln,.sl idC (vC+1) 8 0 (cu.length+1),ds,I m,B bad])=(S.set id (yy ver ls ⟨pos,d,v,c,ln,m,bad⟩ (.sl idC (vC+1) 8 0 (cu.length+1)) ds)).set idC (.cells (vC+1) 59 ((cu++[(⟨2,0,[],s,t,ne,1,u⟩:Cust)]).flatMap enc)):=by rw[a6,set_comm _ idC id _ _ i]
  rw[p];refine EJ ?_;refine zj ⟨_,_,by simp;rfl,by rw[g];exact⟨by simp[zr],by rw[Ap];rfl⟩,ye ?_⟩;exact jr (jr y k _) j _;have e1:=a0 hf;refine aF [] e1 ?_;refine aE ?_;by_cases hy:n=uB;have e2:=a8 hy;refine aF [] e2 ?_;refine aD ?_;refine zg ?_;have g:o=some ⟨2,0,[],s,t,ne,2,u⟩:=by rw[ho,if_pos ⟨rfl,.inr hy⟩];unfold Qr;rw[if_neg hf]
  have a3:∀obs,ext S nx obs id=yy ver ls ⟨pos,d,v,c,ln,m,bad⟩ (.sl idC vC 8 0 cu.length) ds:=λobs=>(zL k).trans hS;have a4:∀obs,ext S nx obs idC=.cells vC 59 (cu.flatMap enc):=λobs=>(zL j).trans hC;have a5:∀A obs,ext (S.set idC A) nx obs id=yy ver ls ⟨pos,d,v,c,ln,m,bad⟩ (.sl idC vC 8 0 cu.length) ds:=λA obs=>by rw[zL k,q10 _ _ _ _ i,hS]
  refine aG (some [nx]) R9 (yp a3 a4 a5 g1 g2) ?_;refine⟨by omega,?_⟩;have a6:(cu++[(⟨2,0,[],s,t,ne,2,u⟩:Cust)]).flatMap enc=cu.flatMap enc++[I 2,I 0,.lst 0 [],I s,I t,I ne,I 2,I u]:=by rw[Ap];rfl
  have p:(S.set idC (.cells (vC+1) 59 (cu.flatMap enc++[I 2,I 0,.lst 0 [],I s,I t,I ne,I 2,I u]))).set id (.cells ver 129 [L (wl ls),I pos,I d,I v,I c,I ln,.sl idC (vC+1) 8 0 (cu.length+1),ds,I m,B bad])=(S.set id (yy ver ls ⟨pos,d,v,c,ln,m,bad⟩ (.sl idC (vC+1) 8 0 (cu.length+1)) ds)).set idC (.cells (vC+1) 59 ((cu++[(⟨2,0,[],s,t,ne,2,u⟩:Cust)]).flatMap enc)):=by rw[a6,set_comm _ idC id _ _ i]
  rw[p];refine EJ ?_;refine zj ⟨_,_,by simp;rfl,by rw[g];exact⟨by simp[zr],by rw[Ap];rfl⟩,ye ?_⟩;exact jr (jr y k _) j _;have e2:=a2 hy;have g:o=none:=by rw[ho,if_neg];rintro⟨_,q|q⟩;exact hf q;exact hy q
  refine aF [] e2 ?_;refine aE ?_;refine EJ ?_;refine zj ⟨_,_,by simp;rfl,by rw[g];exact⟨by simp[zr],rfl⟩,ye y⟩
 rw[Ec h5];refine i' func115 λnx y=>?_;refine EJ ?_;have c7:¬(l.length:Int)=5:=D9;refine ze (aF [] c7 ?_);refine aD ?_;refine EJ ?_;refine zj ⟨_,_,by simp;rfl,⟨by simp[zr],rfl⟩,ye y⟩
open Hp
structure BkOk (ls:List Ln):Prop where
 n:ls.length<=1048576
 l:∀l∈ls,l.length<=1048576/\∀w∈l,w.length<=1048576
 ne:∀l∈ls,l≠[]
theorem BkOk.tl{l:Ln}{r:List Ln}(h:BkOk (l::r)):BkOk r:=⟨by have:=h.n;simp at this;omega,λm hm=>h.l m (by simp[hm]),λm hm=>h.ne m (by simp[hm])⟩
def bg(b:Wd)(h:b.length<=1048576):PP 76 [T (bs b)] (.tup [I (zO b),B (yt b).isSome]):=by
 have:=kD b D9;unfold zO;cases a:yt b with
 |none=>rw[a]at this;exact this
 |some n=>rw[a]at this;exact this
def eh(r:List Ln):List.take r.length ((wl r).flatMap enc)=((wl r).flatMap enc:List PV):=by have:=Yt (wl r);rwa[length_map,show Enc.sz (List ByteArray)=1 from rfl,BK]at this
def Zwf(r:Ln):List.take r.length ((r.map bs).flatMap enc)=((r.map bs).flatMap enc:List PV):=by have:=Yt (r.map bs);rwa[length_map,show Enc.sz ByteArray=1 from rfl,BK]at this
def Z2{a b:Wd}(h:a≠b):bs a≠bs b:=λe=>h (by have:=congrArg ByteArray.toList e;simpa using this)
def J4(w:Wd):List Ln->PV
 |[a,b]::r=>if a=w then .tup [L (wl r),I (zO b),B (yt b).isSome] else .tup [yi,I 0,B false]
 |_=>.tup [yi,I 0,B false]
def Ed(w:Wd)(ls:List Ln)(h:BkOk ls):PP 120 [L (wl ls),T (bs w)] (J4 w ls):=by
 refine c9 func120 λS nx f=>?_
 match ls,h with
 |[],_ =>
 refine ze (aF [(3,12),(10,19)] zz ?_);refine aD ?_;refine EJ ?_;exact EK f
 |l::r,h =>
 have c:(0:Int)<(r.length:Int)+1:=D9;have d:¬(r.length:Int)+1=0:=D9;have g:(0:Int)<=(r.length:Int)+1:=D9;have i:=eh r;by_cases h2:l.length=2
 .match l,h2,h with
  |[a,b],_,h =>
  have hb:=bg b ((h.l [a,b] EA).2 b EA);by_cases j:a=w;subst j;have k1:=xe (bs a);rw[show J4 a ([a,b]::r)=.tup [L (wl r),I (zO b),B (yt b).isSome] from if_pos rfl];refine ze (aF [(3,12),(10,19)] (zD d c k1) ?_);refine aC (aF [] c ?_);refine zu hb ?_;refine aF [] (zq g i) ?_;exact zj (zm f EB (by simp[zr]));have k1:=Zd (Z2 j);rw[show J4 w ([a,b]::r)=.tup [yi,I 0,B false] from if_neg j];refine ze (aF [(3,12),(10,19)] (zD d c k1) ?_);refine aD ?_;refine EJ ?_;exact EK f
 have m:J4 w (l::r)=.tup [yi,I 0,B false]:=by unfold J4;split;rename_i e;cases e;simp at h2;rfl
 have k:¬(l.length:Int)=2:=D9;rw[m];refine ze (aF [(3,12),(10,19)] (yp d c k h2 zz) ?_);refine aD ?_;refine EJ ?_;exact EK f
def Yj:List Ln->PV
 |[]=>.tup [yi,.agg [L ([]:zT)],B false]
 |l::r=>match jL l with
  |none=>.tup [yi,.agg [L ([]:zT)],B false]
  |some t=>.tup [L (wl r),.agg [L t],B true]
def Ee(m:Nat):∀{ns:List Int},ns.length=2*m->(wM ns).length=m:=by
 induction m with
 |zero=>intro ns h;obtain rfl:=As D9;rfl
 |succ m c =>
 intro ns h
 match ns,h with
 |a::b::ns,h=>simp[wM,c (ns:=ns) (by simp at h;omega)]
def Ef(k:Nat):∀{ns:List Int} {m:Nat},ns.length=2*m->k<m->(wM ns)[k]?=some ⟨ns.getD (2*k) 0,ns.getD (2*k+1) 0⟩:=by
 induction k with
 |zero =>
  intro ns m h c
  match ns,h with
  |a::b::ns,h=>rfl
  |[],h=>simp at h;omega
  |[a],h=>simp at h;omega
 |succ k d =>
 intro ns m h c
 match ns,h with
 |a::b::ns,h =>
 have:=d (ns:=ns) (m:=m-1) (by simp at h;omega) D9;simp only[wM,Bj,this];rfl
 |[],h=>simp at h;omega
 |[a],h=>simp at h;omega
variable {ns:List Int}
def Eg{l:Ln}(h:yD l=some ns):∀z∈ns,0<=z/\z<=1000000000000000000:=by
 unfold yD at h;split at h
 .cases h;intro z a;obtain⟨w,-,rfl⟩:=Ak.1 a;refine⟨bb w,?_⟩;unfold zO;cases e:yt w with
  |none=>simp
  |some n=>have:=Qk e;simp;omega
 cases h
def Zwg(ls:List Ln)(h:BkOk ls):PP 155 [L (wl ls)] (Yj ls):=by
 refine c9 func155 λS nx hd=>?_;intro v0
 match ls,h with
 |[],_ =>
 refine ze (aF [(3,13)] zz ?_);refine aD ?_;refine EJ ?_;refine z8 0 0 rfl rfl ?_;exact zj (zm hd EB (by simp[Yj]))
 |l::r,h =>
 obtain⟨w,ws,rfl⟩:∃w ws,l=w::ws:=by
  cases l with
  |nil=>exact absurd rfl (h.ne [] EA)
  |cons w ws=>exact⟨w,ws,rfl⟩
 have t:(0:Int)<(r.length:Int)+1:=D9;have a3:¬(r.length:Int)+1=0:=D9;have a4:(0:Int)<(ws.length:Int)+1:=D9;have b8:(0:Int)<=(r.length:Int)+1:=D9;have f:(0:Int)<=(ws.length:Int)+1:=D9;have c6:=eh r;have g:=Zwf ws;have u:=h.l (w::ws) EA;by_cases ha:w=wV
 .subst ha;have k1:yq .neq (bs wV) ⟨#[116,111,117,114]⟩=some (.bool false):=xe _;have c:=ec ws (by have:=u.1;simp at this;omega) (λw hw=>by have:=u.2 w (by simp[hw]);omega);have c7:L (ws.map bs)=.lst ws.length ((ws.map bs).flatMap enc):=by show PV.lst _ _=_;rw[length_map]
  rw[c7]at c;have o:(∀n ns,yD ws=some (n::ns)->¬(ns.length:Int)=2*n)->Yj ((wV::ws)::r)=.tup [yi,.agg [L ([]:zT)],B false]:=λq=>by
   have:jL (wV::ws)=none:=by unfold jL;simp only[if_true];split;rename_i n ns e;rw[if_neg (q n ns e)];rfl
   simp[Yj,this]
  refine ze (aF [(3,13)] (zM a3 t a4 k1) ?_);refine aC (aF [] t ?_);cases hz:yD ws with
  |none =>
  rw[o (by rw[hz];simp)];rw[hz]at c;simp only[jT]at c;refine aF [] (zq f g) ?_;refine zu c ?_;refine ze (aF [(2,37),(7,42)] zz ?_);refine aD ?_;refine EJ ?_;refine z8 0 0 rfl rfl ?_;exact EK hd
  |some ns =>
  rw[hz]at c o;simp only[jT]at c;cases ns with
  |nil =>
  rw[o EA];refine aF [] (zq f g) ?_;refine zu c ?_;refine ze (aF [(2,37),(7,42)] zz ?_);refine aD ?_;refine EJ ?_;refine z8 0 0 rfl rfl ?_;exact EK hd
  |cons p nl =>
  have hb:=Eg hz p EA;have w1:i64.wrap (2*p)=2*p:=wr _ D9 D9;have w2:i64.wrap (2*p+1)=2*p+1:=wr _ D9 D9;have a5:(0:Int)<(nl.length:Int)+1:=D9;have a6:¬(nl.length:Int)+1=0:=D9;by_cases d:(nl.length:Int)=2*p;have c8:Yj ((wV::ws)::r)=.tup [L (wl r),.agg [L (wM nl)],B true]:=by
   have:jL (wV::ws)=some (wM nl):=by unfold jL;simp only[if_true,hz];rw[if_pos d]
   simp[Yj,this]
  rw[c8];obtain⟨m,rfl⟩:∃m:Nat,p=m:=⟨p.toNat,by omega⟩;have v:nl.length=2*m:=D9;have a7:=Ee m v;have d0:=λk=>Ef k (m:=m) v;have x:=eq_true (show (nl.length:Int)+1=2*m+1 by omega);have y:=eq_true d;have z:=eq_true v;obtain⟨ns,a0⟩:∃ns,ns=(m:Int)::nl:=⟨_,rfl⟩;have e0:ns.length=2*m+1:=by rw[a0];simp;omega
  have a8:∀k,ns[k+1]?=nl[k]?:=λk=>by rw[a0];rfl
  have e1:m<=1048576:=by have:=aT hz;have:=u.1;simp at *;omega
  generalize wM nl=ps at *;obtain⟨ls,e2⟩:∃ls,ls=wl ((wV::ws)::r):=⟨_,rfl⟩;refine aF [] (zq f g) ?_;refine zu c ?_;refine ze (aF [(2,37),(7,42)] (zN a6 a5 w1 w2 x (zq y z)) ?_);refine aC (EJ ?_);intro v1;refine qj 1 0 101 2 rfl rfl λv2=>?_;refine ze (EJ ?_);refine zn (zF (λs:Nat × Nat × Nat=>s.1<=m/\s.2.1=1+2*s.1) (λ(j,i,w)=>[(0,L (wl ((wV::ws)::r))),(3,.ptr nx v0 0),(6,L ns),(8,.ptr (nx+1) v1 0),(9,I i)]) (λ(j,i,w)=>[.cells v0 99 [yi],.cells v1 99 [.sl (nx+2) w 2 0 j],.cells w 101 ((ps.take j).flatMap enc)]) (λs=>m-s.1) (0,1,v2) [] EA (by simp[a0]) EA ?_);rintro⟨j,i,w⟩ ⟨hj,d1⟩;simp only at hj d1 ⊢;refine ze (EJ ?_);refine zA rfl (λhc=>?_) (λhc=>?_);simp at hc;have a9:j<m:=D9;obtain⟨a,tl,a1,-,-,f0⟩:=zH rfl ns i D9;obtain⟨b,e3,b1,-,-,f1⟩:=zH rfl ns (i+1) D9;have hs:=d0 j a9;have d2:nl[2*j]?=some a:=by rw[<-a8,<-a1];congr 1;omega
  have d3:nl[2*j+1]?=some b:=by rw[<-a8,<-b1];congr 1;omega
  rw[Aa,Aa,d2,d3]at hs;simp only[Option.getD_some]at hs;have d4:(ps.take (j+1)).flatMap enc=(ps.take j).flatMap enc++[I a,I b]:=by rw[Ax,hs,Ap];rfl
  have d5:((ps.take j).flatMap enc:List PV).length=j*2:=by rw[Y4,AA,a7];omega
  have b7:List.take (j*2) ((ps.take j).flatMap enc)=((ps.take j).flatMap enc:List PV):=Ad (by rw[d5];exact Ag _);have w3:=zy i D9;have d6:(i:Int)<ns.length:=D9;have d7:i+1<ns.length:=D9;have d8:(i:Int)+1<ns.length:=D9;have d9:(0:Int)<=(i:Int)+1:=D9;refine zk (aA (zC (some []) (pures [0,2,3,4,5,6,7,8,9,10,11,12] (.alt 1 (.alt 13 RR .stop) .stop)) (zN f0 f1 w3 hc d6 (zM d7 d8 d9 b7)) ?_));refine⟨by omega,?_⟩;refine zg ?_;exact zv (j+1,i+2,w+1) [] ⟨a9,by simp only;omega⟩ D9 (by simp;rw[wr _ D9 D9]) rfl (by simp only[d4,Ay]);simp at hc;obtain rfl:j=m:=D9;rw[show ps.take j=ps from Ad D9];refine zB (yc 2 rfl ?_);refine aG (some [nx+1]) RO (zq b8 c6) ?_;exact zj (zm hd EB (by simp[zr,a7]));have a2:¬(nl.length:Int)+1=2*p+1:=D9;rw[o (λn ns e=>by cases e;exact d)];refine aF [] (zq f g) ?_;refine zu c ?_;refine ze (aF [(2,37),(7,42)] (yp a6 a5 w1 w2 a2) ?_);refine aD ?_;refine EJ ?_;refine z8 0 0 rfl rfl ?_;exact EK hd
 have k1:yq .neq (bs w) ⟨#[116,111,117,114]⟩=some (.bool true):=Zd (Z2 ha);rw[show Yj ((w::ws)::r)=.tup [yi,.agg [L ([]:zT)],B false] by simp[Yj,jL,ha]];refine ze (aF [(3,13)] (zM a3 t a4 k1) ?_);refine aD ?_;refine EJ ?_;refine z8 0 0 rfl rfl ?_;exact EK hd
def J5{α:Type}[Enc α](id v:Nat)(cs:List PV)(l:List (List α)):(l.flatMap enc).map (qk id v cs)=(l.flatMap enc:List PV):=by refine(AQ λp b=>?_).trans (Dr _);obtain⟨t,_,a⟩:=Bz.1 b;rw[HR,AX]at a;subst a;rfl
def kJ(p:zG)(hp:p.length<=1000)(h:∀d∈p,d.length<=1000)(ht:∀d∈p,∀t∈d,t.length<=1000)(z:yh nx S):
  SP 189 [.agg [L p]] S (λq S'=>∃v,q=.agg [.sl (nx+3) v 1 0 p.length]/\S'=S.set (nx+3) (.cells v 96 (p.flatMap enc))):=by
 refine ZI z func189 ntmps189 results189 ?_;refine EJ ?_;intro v0 v1;refine EJ ?_;intro g;refine qj 2 0 96 1 rfl rfl λv3=>?_;refine ze (EJ ?_);refine zn (zF (λs:Nat × Nat=>s.1<=p.length) (λ(k,w)=>[(2,.ptr (nx+1) v1 0),(3,.ptr (nx+2) g 0),(10,L p),(11,I p.length),(12,I k)]) (λ(k,w)=>[.cells v0 31 [L p],.cells v1 31 [yI],.cells g 31 [.sl (nx+3) w 1 0 k],.cells w 96 ((p.take k).flatMap enc)]) (λs=>p.length-s.1) (0,v3) [] EA EA EA ?_);rintro⟨k,w⟩ hk;simp only at hk ⊢;refine EJ ?_;refine ze (zA rfl (λhc=>?_) (λhc=>?_))
 .simp at hc;obtain⟨d,tl,a1,a2,a3,e0⟩:=zH rfl p k hc;have c:=Ab a1;have a0:=h d c;have i:1<=p.length-k:=D9;have l:(p.take k).length=k:=by rw[AA];omega
  generalize a4:p.take k=pk at *;have m:(pk.flatMap enc:List PV).length=k:=(qJ pk).trans l;have n:(pk.flatMap enc:List PV).take k=pk.flatMap enc:=Ad D9;have e:∀id v cs,(pk.flatMap enc).map (qk id v cs)=(pk.flatMap enc:List PV):=λid v cs=>J5 id v cs pk;refine zk (aA (aF [] (zD hc e0 i) ?_));intro v4;refine EJ ?_;intro v5;refine qj 5 0 99 1 rfl rfl λv6=>?_;refine ze (EJ ?_);refine zn (zF (λs:Nat × Nat=>s.1<=d.length) (λ(j,f)=>[(2,.ptr (nx+1) v1 0),(3,.ptr (nx+2) g 0),(6,.ptr (nx+5) v5 0),(10,L p),(11,I p.length),(12,I k),(17,L d),(18,I d.length),(19,I j)])
   (λ(j,f)=>[.cells v0 31 [L p],.cells v1 31 [yI],.cells g 31 [.sl (nx+3) w 1 0 k],.cells w 96 (pk.flatMap enc),.cells v4 96 [L d],.cells v5 96 [.sl (nx+6) f 1 0 j],.cells f 99 ((d.take j).flatMap enc)]) (λs=>d.length-s.1) (0,v6) [] EA EA EA ?_)
  rintro⟨j,f⟩ hj;simp only at hj ⊢;refine EJ ?_;refine ze (zA rfl (λa=>?_) (λa=>?_))
  .simp at a;obtain⟨t,a5,b1,b2,b3,f0⟩:=zH rfl d j a;have a6:=ht d c t (Ab b1);have o:1<=d.length-j:=D9;have r:(d.take j).length=j:=by rw[AA];omega
   generalize a7:d.take j=dj at *;have u:(dj.flatMap enc:List PV).length=j:=(qJ dj).trans r;have x:(dj.flatMap enc:List PV).take j=dj.flatMap enc:=Ad D9;have b:∀id v cs,(dj.flatMap enc).map (qk id v cs)=(dj.flatMap enc:List PV):=λid v cs=>J5 id v cs dj;have y:(t.flatMap enc:List PV).length=t.length*2:=Y4 t;refine zk (aA (aF [] (zD a f0 o) ?_));intro v7;refine zC (some [nx+7]) R8 (zq u x) ?_;refine⟨⟨by omega,λv8=>⟨⟨by omega,by omega⟩,?_⟩⟩,⟨by omega,λv8=>⟨⟨by omega,by omega⟩,?_⟩⟩⟩;all_goals
    refine yc 8 rfl ?_;simp only[Aw,Bf,AM,AR,xD,e,b,map_append];refine zg ?_;exact zv (j+1,f+1) [_,_] ED ED (by simp[zy j D9]) rfl (by simp[b3,qk,y];exact⟨rfl,rfl⟩)
  simp at a;obtain rfl:j=d.length:=D9;rw[Ah];have b:∀id v cs,(d.flatMap enc).map (qk id v cs)=(d.flatMap enc:List PV):=λid v cs=>J5 id v cs d;refine zB (yc 6 rfl ?_);simp only[Aw,Bf,AM,AR,xD,e,b];refine zi [] (zq m n) ?_;refine⟨by omega,?_⟩;refine zg ?_;exact zv (k+1,w+1) [_,_,_] ED ED (by simp[zy k D9]) rfl (by simp[a3];exact⟨rfl,rfl,rfl⟩)
 simp at hc;obtain rfl:k=p.length:=D9;rw[Ah];refine zB (EJ ?_);exact zj ⟨_,_,EB,⟨w,by simp[zr],rfl⟩,Xo (j:=3) z EA⟩
def Zwh(p:zG)(b:p.length<=1000)(a:∀d∈p,d.length<=1000)(c:∀d∈p,∀t∈d,t.length<=1000):PP 189 [.agg [L p]] (.agg [L p]) :=
 mP (sz:=1) 3 (λS nx e=>kJ p b a c e) (by rw[qJ,BK])
def Ze(x:Inst)(p:zG)(day b:Int):zG × Bool :=
 if day<0\/(p.length:Int)<=day then (p,false)
 else if W (yl x (p.getD day.toNat []))<=W (yl x (uv x b (p.getD day.toNat []))) then (p,false)
 else (p.set day.toNat (uv x b (p.getD day.toNat [])),true)
structure PlanM (x:Inst) (p:zG):Prop where
 y:x.y.length<=900
 inst:InstH x
 len:p.length<=1000
 ab:∀d∈p,yx x d=0
theorem PlanM.sizes{x:Inst}(h:PlanM x p):∀d∈p,d.length<=1000/\(∀t∈d,t.length<=1000)/\DayOk d/\d.flatten.length<=1000:=by intro d a;obtain⟨h1,h2,h3⟩:=Qq h.y (h.ab d a);have:=h.y;exact⟨by omega,λt b=>by have:=dL d t b;omega,h3.ok,by omega⟩
def Eh{x:Inst}(hx:x.y.length<=900)(hi:InstH x)(h:yx x d=0)(b:Int):yx x (uv x b d)=0/\(uv x b d).flatten.Perm d.flatten/\yl x (uv x b d)<=yl x d:=by obtain⟨hs,a⟩:=tD hx hi.aj hi.U h;obtain⟨h1,h2,h3⟩:=di hs hi.diag b.toNat d a;obtain⟨e,c,f⟩:=(uO x d).1 h;change SG x d.flatten (uv x b d) at h1;change yl x (uv x b d)<=yl x d at h2;change (uv x b d).length<=d.length at h3;exact⟨(uO x _).2 ⟨h1.ab,(h1.perm.map _).nodup_iff.2 c,by omega⟩,h1.perm,h2⟩
def Zwi{x:Inst}(hx:x.y.length<=900)(hi:InstH x)(h:yx x d=0){b:Int}(hb:b<=9223372036854775807):∃k:Int,PP 264 [.agg (zE x),.agg [L d],I b] (.tup [.agg [L (uv x b d)],I k]):=by obtain⟨hs,a⟩:=tD hx hi.aj hi.U h;have o:=a.ok hs;exact⟨_,pH x d b (Zs x) (SG x d.flatten) hb o.n o.t (λ_=>a) (rt hs hi.diag)⟩
def Zwj{x:Inst}(h:PlanM x p)(a b:Int)(hb:b<=9223372036854775807):
  PP 233 [.agg (zE x),.agg [L p],I a,I b] (.tup [.agg [L (Ze x p a b).1],B (Ze x p a b).2]):=by
 have l:=h.sizes;have a0:=h.len;refine c9 func233 λS nx i=>?_;intro v0 v1 v2;refine EJ ?_;refine λo=>((kJ p h.len (λd i=>(l d i).1) (λd i=>(l d i).2.1) xP).mono ?_).v;rintro _ _ ⟨v3,rfl,rfl⟩;refine⟨_,_,VT 3 _,xQ [] Nat.add_assoc o ?_⟩;intro v4;by_cases h0:a<0;have q:Ze x p a b=(p,false):=by unfold Ze;rw[if_pos (.inl h0)]
 rw[q];refine ze (aF [(2,17)] (zq h0 zz) ?_);refine zo rfl (yc 6 rfl ?_);refine EJ ?_;exact EK i;by_cases h1:(p.length:Int)<=a;have q:Ze x p a b=(p,false):=by unfold Ze;rw[if_pos (.inr h1)]
 rw[q];refine ze (aF [(2,17)] (zq h0 h1) ?_);refine zo rfl (yc 6 rfl ?_);refine EJ ?_;exact EK i;obtain⟨k,rfl⟩:=Az (show 0<=a by omega);have g:k<p.length:=D9;obtain⟨d,tl,a1,a2,a3,j⟩:=zH rfl p k g;have n:=Ab a1;have u:p.getD (k:Int).toNat []=d:=by rw[AN,Aa,a1];rfl
 have q:Ze x p k b=if W (yl x d)<=W (yl x (uv x b d)) then (p,false) else (p.set k (uv x b d),true):=by unfold Ze;rw[if_neg D9,u,AN]
 obtain⟨m,hI⟩:=Zwi h.y h.inst (h.ab d n) hb;have w:=Eh h.y h.inst (h.ab d n) b;have r:=WD x d (l d n).2.2.1;have s:=WD x (uv x b d) (Qq h.y w.1).2.2.ok;rw[q];generalize uv x b d=e at *;generalize W (yl x d)=z1 at *;generalize W (yl x e)=z2 at *;have c:1<=p.length-k:=D9;have y:(p.flatMap enc:List PV).length=p.length:=qJ p;have z:=iP (α:=zt) rfl p k e g;have t:yr (p.flatMap enc) k [L e]=(p.set k e).flatMap enc:=by simpa using z
 refine ze (aF [(2,17)] (zq h0 h1) ?_);refine zp rfl (zk (aG (some [nx,nx+6,nx+7]) (pures [0,1,2,3,4,5,6,7,8,9,10] (.alt 11 (.alt 12 (pures [13] .done) .stop) .stop)) (zD j g c) ?_));refine zK (hI) (zD j g c) ?_;intro v5;by_cases f:z1<=z2;rw[if_pos f];refine ze (aG (some [nx,nx+6,nx+7,nx+8]) Rl (zM j g c f) ?_);refine zK (s) (zM j g c f) ?_;refine zK (r) (zM j g c f) ?_;refine zo rfl (yc 6 rfl ?_);refine EJ ?_;exact EK i;rw[if_neg f];refine ze (aG (some [nx,nx+6,nx+7,nx+8]) Rl (zM j g c f) ?_);refine zK (s) (zM j g c f) ?_;refine zK (r) (zM j g c f) ?_;refine zp rfl (zk (aF [] (zD g t y) ?_));refine⟨by omega,?_⟩;refine yc 6 rfl ?_;refine EJ ?_;exact zj (zm i EB (by simp[zr]))
def J6(ls:List Ln)(p k:Nat):yF ls p (k+1)=yF ls p k++[zR ls (p+k)]:=by simp[yF,AO]
theorem ei(ls:List Ln)(p k:Nat):(yF ls p k).length=k:=by simp[yF]
def ej{p:Nat}{f:Ln->Bool}(a:k<n)(h:f (zR ls (p+k))=false):(yF ls p n).all f=false:=by rw[Bl];exact⟨zR ls (p+k),Ak.2 ⟨k,AI.2 a,rfl⟩,by simp[h]⟩
def Ei(h:a≠b):(a==b)=false:=by
 have e:(a==b)=(a.data==b.data):=by cases a;cases b;rfl
 rw[e,beq_eq_false_iff_ne];exact λc=>h (by cases a;cases b;cases c;rfl)
abbrev Vn(id ver:Nat):List (Value × PV):=[(.string ⟨#[118,105,115,105,116]⟩,.fn (.func 114) [.ptr id ver 0] []),(.string ⟨#[116,97,110,107]⟩,.fn (.func 115) [.ptr id ver 0] [])]
def qi(ls:List Ln)(d:Int)(p k:Nat):List Cust:=(yF ls p k).map λl=>(xM d l).1
def xZ(ls:List Ln)(d:Int)(p k:Nat):Bool:=(yF ls p k).all λl=>(xM d l).2
def kK(ls:List Ln)(d:Int)(p k:Nat):qi ls d p (k+1)=qi ls d p k++[(xM d (zR ls (p+k))).1]:=by simp[qi,J6]
def Ej(ls:List Ln)(d:Int)(p k:Nat):xZ ls d p (k+1)=(xZ ls d p k&&(xM d (zR ls (p+k))).2):=by simp[xZ,J6]
def ek(ls:List Ln)(d:Int)(p k:Nat):(qi ls d p k).length=k:=by simp[qi,ei]
def Zwk{id ver idC vC:Nat}(ls:List Ln)(r:Rdr)(n:Nat)(ds:PV)(hS:S id=yy ver ls r (.sl idC vC 8 0 0) ds)(hC:S idC=.cells vC 59 [])(hl:LnsOk ls)(hm:r.m=n)(hp:r.pos<=ls.length)(hb:r.bad=false):
  SP 72 [.ptr id ver 0] S (λq S'=>if (yF ls r.pos n).all (λl=>(qE r.d l).isSome)=true then
    q=B true/\r.pos+n<=ls.length/\S'=(S.set id (yy ver ls { r with pos:=r.pos+n,bad:=!(xZ ls r.d r.pos n) } (.sl idC (vC+n) 8 0 n) ds)).set idC (.cells (vC+n) 59 ((qi ls r.d r.pos n).flatMap enc))
   else q=B false/\∃r' cs' oC,S'=(S.set id (yy ver ls r' cs' ds)).set idC oC):=by
 have d1:id≠idC:=by rintro rfl;rw[hS]at hC;simp at hC
 obtain⟨pos,d,v,c,ln,m,bad⟩:=r;simp only at hm hp hb ⊢;subst hm hb;obtain⟨o,ho⟩:∃o,o=(yF ls pos n).all (λl=>(qE d l).isSome):=⟨_,rfl⟩;rw[<-ho];obtain⟨St,y⟩:∃St:Nat->Store,∀k,St k=(S.set id (yy ver ls ⟨pos+k,d,v,c,ln,n,!(xZ ls d pos k)⟩ (.sl idC (vC+k) 8 0 k) ds)).set idC (.cells (vC+k) 59 ((qi ls d pos k).flatMap enc)):=⟨_,λ_=>rfl⟩;have e5:St 0=S:=by rw[y];have e1:S.set id (yy ver ls ⟨pos+0,d,v,c,ln,n,!(xZ ls d pos 0)⟩ (.sl idC (vC+0) 8 0 0) ds)=S:=Qu S id _ hS;rw[e1];exact Qu S idC _ hC
 refine i' func72 λnx hd=>?_;have f:id<nx:=jD hd hS EA;have g:idC<nx:=jD hd hC EA;have g1:¬nx<=id:=D9;have g2:¬nx<=idC:=D9;have xi:∀k,St k id=yy ver ls ⟨pos+k,d,v,c,ln,n,!(xZ ls d pos k)⟩ (.sl idC (vC+k) 8 0 k) ds:=λk=>by rw[y,q10 _ _ _ _ d1,q11]
 have xc:∀k,St k idC=.cells (vC+k) 59 ((qi ls d pos k).flatMap enc):=λk=>by rw[y,q11]
 have e0:∀k,yh nx (St k):=λk=>by rw[y];exact jr (jr hd f _) g _
 have x1:∀obs,ext S nx obs id=yy ver ls ⟨pos,d,v,c,ln,n,false⟩ (.sl idC vC 8 0 0) ds:=λobs=>(zL f).trans hS;refine EJ ?_;refine EJ ?_;intro v0;refine λa=>QM (.inr rfl) underlying175 underlying9 rfl rfl rfl (by rw[ui];rfl) rfl ?_;refine⟨_,_,yu _ (Ag _) EA,zS a ?_⟩;refine λa=>QM (.inr rfl) underlying175 underlying9 rfl rfl rfl (by rw[ui];simp;rfl) (by simp[j5,jO];rfl) ?_;refine⟨_,_,yu _ (Ag _) EA,zS a ?_⟩;refine ze (aF [] x1 ?_);have s:∀k r' cs',(St k).set id (yy ver ls r' cs' ds)=(S.set id (yy ver ls r' cs' ds)).set idC (.cells (vC+k) 59 ((qi ls d pos k).flatMap enc)):=λk r' cs'=>by rw[y,set_comm _ idC id _ _ d1,set_set]
 refine zn (xC (λk:Nat=>k<=n/\pos+k<=ls.length/\∀l∈yF ls pos k,(qE d l).isSome=true) (λk=>[(0,.ptr id ver 0),(3,.mp nx v0),(16,I n),(17,I k)]) St (λ_=>[.map v0 (Vn id ver)]) (λk=>n-k) (zY 0 [] ⟨by simp,by simpa using hp,by simp[yF]⟩ EA e5 rfl) ?_);rintro k ⟨hk,e6,a5⟩;refine EJ ?_;refine ze (zA rfl (λhc=>?_) (λhc=>?_));simp at hc;have d2:k<n:=D9;have a0:=λS (h:S id=_)=>be (S:=S) (id:=id) (ver:=ver) ls ⟨pos+k,d,v,c,ln,n,!(xZ ls d pos k)⟩ (.sl idC (vC+k) 8 0 k) ds h hl.1;have d3:=hl.at (pos+k);refine zk (aA ?_);obtain⟨S1,t⟩:∃S1,S1=(St k).set id (yy ver ls (qw ls ⟨pos+k,d,v,c,ln,n,!(xZ ls d pos k)⟩) (.sl idC (vC+k) 8 0 k) ds):=⟨_,rfl⟩;have c7:yh nx S1:=by rw[t];exact jr (e0 k) f _
 have a2:qE d (zR ls (pos+k))=none->o=false:=λq=>by rw[ho];exact ej d2 (by rw[q];rfl)
 simp only at a0;refine ze (x8 [] EF EF λK Gc Gh hK c8 d4 X a6 hX=>?_);simp -implicitDefEqProofs [a6,hX];try clear a6 hX X
 refine c8 _ _ _ _ _ _ _ λa=>((a0 _ ((zL f).trans (xi k))).mono ?_).v;rintro _ _ ⟨rfl,rfl⟩;refine⟨S1,_,by rw[qI _ f,<-t],?_⟩;clear c8 d4;clear Gc Gh;refine vr a (D:=[]) EF λGc Gh c8 d4 X a6 hX=>?_;simp -implicitDefEqProofs [a6,hX];clear a6 hX X;refine hK _ _ _ ?_;clear hK c8 d4;clear K Gc Gh;clear a0 a;rcases e:zR ls (pos+k) with _|⟨w,l'⟩
 have a1:=a2 (by rw[e];rfl);refine ze (EJ ?_);refine aD ?_;refine EJ ?_;refine zj ⟨_,_,by simp;rfl,by rw[a1];simp only[AW,if_false];exact⟨by simp[zr],_,_,_,by rw[t];exact s k _ _⟩,ye c7⟩;refine ze (EJ ?_);refine zp ED ?_;refine zk ?_;have d5:ext S1 nx [.map v0 (Vn id ver)] nx=.map v0 (Vn id ver):=by rw[ui];rfl
 have d6:pos+k<ls.length:=by apply DQ;intro hh;unfold zR at e;rw[Aa,An hh]at e;cases e
 have e7:qw ls ⟨pos+k,d,v,c,ln,n,!(xZ ls d pos k)⟩=⟨pos+k+1,d,v,c,ln,n,!(xZ ls d pos k)⟩:=if_pos d6;rw[e7]at t;have a7:=ek ls d pos k;have e9:=hl.1;have a3:S1 id=yy ver ls ⟨pos+k+1,d,v,c,ln,n,!(xZ ls d pos k)⟩ (.sl idC (vC+k) 8 0 (qi ls d pos k).length) ds:=by rw[t,q11,a7]
 have a4:S1 idC=.cells (vC+k) 59 ((qi ls d pos k).flatMap enc):=by rw[t,q10 _ _ _ _ (Ne.symm d1),xc]
 have e2:l'.length<=1048576/\∀u∈l',u.length<=1048576:=by rw[e]at d3;exact⟨by have:=d3.1;simp at this;omega,λu hu=>d3.2 u (by simp[hu])⟩
 have d0:List.take l'.length ((l'.map bs).flatMap enc)=(l'.map bs).flatMap enc:=Ad (by rw[W6,length_map];exact Ag _);have e3:L (l'.map bs)=.lst l'.length ((l'.map bs).flatMap enc):=by unfold L;rw[length_map]
 have a8:∀r' cs',S1.set id (yy ver ls r' cs' ds)=(S.set id (yy ver ls r' cs' ds)).set idC (.cells (vC+k) 59 ((qi ls d pos k).flatMap enc)):=λr' cs'=>by rw[t,set_set,s]
 have a9:∀r' cs' oC,(S1.set id (yy ver ls r' cs' ds)).set idC oC=(S.set id (yy ver ls r' cs' ds)).set idC oC:=λr' cs' oC=>by rw[a8,set_set]
 obtain⟨zf,d7⟩:∃z,Program.zeroOf prog 174=some z:=BZ.1 EC;have q1:w≠qQ->(bs w==⟨#[118,105,115,105,116]⟩)=false:=λh=>Ei λhh=>h (J3.1 hh);have q2:w≠xx->(bs w==⟨#[116,97,110,107]⟩)=false:=λh=>Ei λhh=>h (J3.1 hh);by_cases hv:w=qQ
 .have hf:j5 .string (.string (bs w)) (Vn id ver) 0=some (some (0,.fn (.func 114) [.ptr id ver 0] [])):=by rw[hv];rfl
  refine EJ ?_;refine λa=>Ys rfl underlying175 underlying9 rfl rfl rfl d5 hf d7 ?_;refine⟨_,_,rfl,?_⟩;have b7:Y0 true zf (some (0,.fn (.func 114) [.ptr id ver 0] []))=.tup [.fn (.func 114) [.ptr id ver 0] [],B true]:=rfl;refine xQ [] b7 a ?_;have i:=λS (h1:S id=_) (h2:S idC=_)=>Zwd (S:=S) (id:=id) (ver:=ver) (idC:=idC) (vC:=vC+k) ls ⟨pos+k+1,d,v,c,ln,n,!(xZ ls d pos k)⟩ (qi ls d pos k) ds l' h1 h2 (by rw[a7];omega) e2;have x:qE d (zR ls (pos+k))=YJ d l':=by rw[e];exact if_pos hv
  simp only[e3]at i;cases j:YJ d l' with
  |none =>
  have a1:=a2 (by rw[x,j]);rw[j]at i;simp only at i;refine aF [(2,34)] d0 ?_;refine λa=>((i _ ((zL f).trans a3) ((zL g).trans a4)).mono ?_).v;rintro _ _ ⟨rfl,b,rfl⟩;refine⟨_,_,qI _ f,xQ [(2,34)] trivial a ?_⟩;refine aD ?_;refine EJ ?_;refine zj ⟨_,_,by simp;rfl,by rw[a1];simp only[AW,if_false];exact⟨by simp[zr],_,_,_,a8 _ _⟩,ye (jr c7 f _)⟩
  |some cc =>
  obtain⟨b8,e4⟩:=cc;rw[j]at i;simp only at i;refine aF [(2,34)] d0 ?_;refine λa=>((i _ ((zL f).trans a3) ((zL g).trans a4)).mono ?_).v;rintro _ _ ⟨rfl,rfl⟩;refine⟨_,_,by rw[qI _ f,qI _ g],xQ [(2,34)] trivial a ?_⟩;refine aC (zg ?_);have d8:xM d (zR ls (pos+k))=(b8,e4):=by unfold xM;rw[x,j];rfl
  have d9:St (k+1)=(S1.set id (yy ver ls ⟨pos+k+1,d,v,c,ln,n,!(xZ ls d pos k)||!e4⟩ (.sl idC (vC+k+1) 8 0 ((qi ls d pos k).length+1)) ds)).set idC (.cells (vC+k+1) 59 ((qi ls d pos k++[b8]).flatMap enc)):=by rw[a9,y,Ej,kK,d8,a7,Bool.not_and];rfl
  exact zv (k+1) [] ⟨d2,d6,λl c6=>by
   rw[J6,AC]at c6;obtain q|q:=c6;exact a5 l q;obtain rfl:l=zR ls (pos+k):=by simpa using q
   rw[x,j];rfl⟩ D9 (by simp[zy k D9]) (d9.trans (by rw[Ap];rfl)) rfl
 by_cases hk:w=xx
 .have hf:j5 .string (.string (bs w)) (Vn id ver) 0=some (some (1,.fn (.func 115) [.ptr id ver 0] [])):=by rw[hk];rfl
  refine EJ ?_;refine λa=>Ys rfl underlying175 underlying9 rfl rfl rfl d5 hf d7 ?_;refine⟨_,_,rfl,?_⟩;have b7:Y0 true zf (some (1,.fn (.func 115) [.ptr id ver 0] []))=.tup [.fn (.func 115) [.ptr id ver 0] [],B true]:=rfl;refine xQ [] b7 a ?_;have p:=λS (h1:S id=_) (h2:S idC=_)=>Zwe (S:=S) (id:=id) (ver:=ver) (idC:=idC) (vC:=vC+k) ls ⟨pos+k+1,d,v,c,ln,n,!(xZ ls d pos k)⟩ (qi ls d pos k) ds l' h1 h2 (by rw[a7];omega) e2;have x:qE d (zR ls (pos+k))=(Zw l').map (·,true):=by rw[e];exact(if_neg hv).trans (if_pos hk)
  simp only[e3]at p;cases j:Zw l' with
  |none =>
  have a1:=a2 (by rw[x,j];rfl);rw[j]at p;simp only at p;refine aF [(2,34)] d0 ?_;refine λa=>((p _ ((zL f).trans a3) ((zL g).trans a4)).mono ?_).v;rintro _ _ ⟨rfl,rfl⟩;refine⟨_,_,rfl,xQ [(2,34)] trivial a ?_⟩;refine aD ?_;refine EJ ?_;refine zj ⟨_,_,by simp;rfl,by rw[a1];simp only[AW,if_false];exact⟨by simp[zr],_,_,_,by rw[t];exact s k _ _⟩,ye c7⟩
  |some b8 =>
  rw[j]at p;simp only at p;refine aF [(2,34)] d0 ?_;refine λa=>((p _ ((zL f).trans a3) ((zL g).trans a4)).mono ?_).v;rintro _ _ ⟨rfl,rfl⟩;refine⟨_,_,by rw[qI _ f,qI _ g],xQ [(2,34)] trivial a ?_⟩;refine aC (zg ?_);have d8:xM d (zR ls (pos+k))=(b8,true):=by unfold xM;rw[x,j];rfl
  have d9:St (k+1)=(S1.set id (yy ver ls ⟨pos+k+1,d,v,c,ln,n,!(xZ ls d pos k)⟩ (.sl idC (vC+k+1) 8 0 ((qi ls d pos k).length+1)) ds)).set idC (.cells (vC+k+1) 59 ((qi ls d pos k++[b8]).flatMap enc)):=by rw[a9,y,Ej,kK,d8,a7,CO];rfl
  exact zv (k+1) [] ⟨d2,d6,λl c6=>by
   rw[J6,AC]at c6;obtain q|q:=c6;exact a5 l q;obtain rfl:l=zR ls (pos+k):=by simpa using q
   rw[x,j];rfl⟩ D9 (by simp[zy k D9]) (d9.trans (by rw[Ap];rfl)) rfl
 have hf:j5 .string (.string (bs w)) (Vn id ver) 0=some none:=by simp[j5,Instr.sameNow,q1 hv,q2 hk]
 have x:qE d (zR ls (pos+k))=none:=by rw[e];exact(if_neg hv).trans (if_neg hk)
 have a1:=a2 x;refine EJ ?_;refine λa=>Ys rfl underlying175 underlying9 rfl rfl rfl d5 hf d7 ?_;refine⟨_,_,rfl,?_⟩;have b7:Y0 true zf none=.tup [Jo zf,B false]:=rfl;refine xQ [] b7 a ?_;refine aF [(2,34)] zz ?_;refine aD ?_;refine EJ ?_;refine zj ⟨_,_,by simp;rfl,by rw[a1];simp only[AW,if_false];exact⟨by simp[zr],_,_,_,by rw[t];exact s k _ _⟩,ye c7⟩;simp at hc;obtain rfl:k=n:=D9;have e8:o=true:=by rw[ho,Av];exact a5
 refine zB (EJ ?_);refine zj ⟨_,_,by simp;rfl,by rw[e8];simp only[if_true];exact⟨by simp[zr],e6,y _⟩,ye (e0 _)⟩
def jF(ls:List Ln)(p k:Nat):List (List Int):=(yF ls p k).map λl=>l.map zO
def Ek(ls:List Ln)(p k:Nat):jF ls p (k+1)=jF ls p k++[(zR ls (p+k)).map zO]:=by simp[jF,J6]
def em(ls:List Ln)(p k:Nat):(jF ls p k).length=k:=by simp[jF,ei]
def Zwl{id ver idD vD:Nat}(ls:List Ln)(r:Rdr)(n:Nat)(cs:PV)(hS:S id=yy ver ls r cs (.sl idD vD 1 0 0))(hD:S idD=.cells vD 26 [])(hl:LnsOk ls)(hm:r.m=n)(hn:n<=1048576)(hp:r.pos<=ls.length):
  SP 73 [.ptr id ver 0] S (λq S'=>if zR ls r.pos=[je]/\(yF ls (r.pos+1) (n+1)).all (xz (n+1))=true then
    q=B true/\r.pos+1+(n+1)<=ls.length/\S'=(S.set id (yy ver ls { r with pos:=r.pos+1+(n+1) } cs (.sl idD (vD+(n+1)) 1 0 (n+1)))).set idD (.cells (vD+(n+1)) 26 ((jF ls (r.pos+1) (n+1)).flatMap enc))
   else q=B false/\∃r' ds' oD,S'=(S.set id (yy ver ls r' cs ds')).set idD oD):=by
 have p:id≠idD:=by rintro rfl;rw[hS]at hD;simp at hD
 obtain⟨pos,d,v,c,j,m,bad⟩:=r;simp only at hm hp ⊢;subst hm;obtain⟨o,ho⟩:∃o:Bool,o=(decide (zR ls pos=[je])&&(yF ls (pos+1) (n+1)).all (xz (n+1))):=⟨_,rfl⟩;have a7:(zR ls pos=[je]/\(yF ls (pos+1) (n+1)).all (xz (n+1))=true)<->o=true:=by rw[ho,Ar,decide_eq_true_eq]
 simp only[a7];obtain⟨St,s⟩:∃St:Nat->Store,∀k,St k=(S.set id (yy ver ls ⟨pos+1+k,d,v,c,j,n,bad⟩ cs (.sl idD (vD+k) 1 0 k))).set idD (.cells (vD+k) 26 ((jF ls (pos+1) k).flatMap enc)):=⟨_,λ_=>rfl⟩;have x:=λS (h:S id=_)=>be (S:=S) (id:=id) (ver:=ver) ls ⟨pos,d,v,c,j,n,bad⟩ cs (.sl idD vD 1 0 0) h hl.1;have d3:=Ea (zR ls pos) [je] (hl.at pos).1 EA;obtain⟨S1,t⟩:∃S1,S1=S.set id (yy ver ls (qw ls ⟨pos,d,v,c,j,n,bad⟩) cs (.sl idD vD 1 0 0)):=⟨_,rfl⟩;have a8:S1 idD=.cells vD 26 []:=by rw[t,q10 _ _ _ _ (Ne.symm p),hD]
 refine i' func73 λnx hd=>?_;have b:id<nx:=jD hd hS EA;have a2:idD<nx:=jD hd hD EA;have g1:¬nx<=id:=D9;have g2:¬nx<=idD:=D9;have d4:yh nx S1:=by rw[t];exact jr hd b _
 have a9:∀k,yh nx (St k):=λk=>by rw[s];exact jr (jr hd b _) a2 _
 simp only at x;refine EJ ?_;refine ze (EJ ?_);refine λa=>((x _ ((zL b).trans hS)).mono ?_).v;rintro _ _ ⟨rfl,rfl⟩;refine⟨S1,[],by rw[qI _ b,<-t],zS a ?_⟩;refine λa=>((d3 _).mono ?_).v;rintro _ _ ⟨rfl,rfl⟩;refine⟨_,_,rfl,zS a ?_⟩;by_cases hw:zR ls pos=[je];have d5:pos<ls.length:=by apply DQ;intro hh;unfold zR at hw;rw[Aa,An hh]at hw;cases hw
 have d6:qw ls ⟨pos,d,v,c,j,n,bad⟩=⟨pos+1,d,v,c,j,n,bad⟩:=if_pos d5;rw[d6]at t;have b7:St 0=S1:=by rw[s,t];refine Qu _ idD _ ?_;rw[q10 _ _ _ _ (Ne.symm p),hD];rfl
 have x1:∀obs,ext S1 nx obs id=yy ver ls ⟨pos+1,d,v,c,j,n,bad⟩ cs (.sl idD vD 1 0 0):=λobs=>by rw[zL b,t,q11]
 have xi:∀k,St k id=yy ver ls ⟨pos+1+k,d,v,c,j,n,bad⟩ cs (.sl idD (vD+k) 1 0 k):=λk=>by rw[s,q10 _ _ _ _ p,q11]
 have xd:∀k,St k idD=.cells (vD+k) 26 ((jF ls (pos+1) k).flatMap enc):=λk=>by rw[s,q11]
 have wn:i64.wrap ((n:Int)+1)=(n:Int)+1:=by rw[AD];omega
 refine zp (by simp[hw]) ?_;refine zk ?_;refine ze (aF [] (zq x1 wn) ?_);refine zn (xC (λk:Nat=>k<=n+1/\pos+1+k<=ls.length/\∀l∈yF ls (pos+1) k,xz (n+1) l=true) (λk=>[(0,.ptr id ver 0),(14,I ((n:Int)+1)),(15,I k)]) St (λ_=>[]) (λk=>n+1-k) (zY 0 [] ⟨by simp,by omega,by simp[yF]⟩ EA b7 rfl) ?_);rintro k ⟨hk,d7,a3⟩;refine EJ ?_;by_cases b8:k<n+1
 .have e5:(k:Int)<(n:Int)+1:=D9;have i:=λS (h:S id=_)=>be (S:=S) (id:=id) (ver:=ver) ls ⟨pos+1+k,d,v,c,j,n,bad⟩ cs (.sl idD (vD+k) 1 0 k) h hl.1;have c6:=hl.at (pos+1+k);have g:=ec (zR ls (pos+1+k)) c6.1 (λw hw=>by have:=c6.2 w hw;omega);obtain⟨S2,f⟩:∃S2,S2=(St k).set id (yy ver ls (qw ls ⟨pos+1+k,d,v,c,j,n,bad⟩) cs (.sl idD (vD+k) 1 0 k)):=⟨_,rfl⟩;have c7:yh nx S2:=by rw[f];exact jr (a9 k) b _
  have u:∀r' ds',(St k).set id (yy ver ls r' cs ds')=(S.set id (yy ver ls r' cs ds')).set idD (.cells (vD+k) 26 ((jF ls (pos+1) k).flatMap enc)):=λr' ds'=>by rw[s,set_comm _ idD id _ _ p,set_set]
  have a4:xz (n+1) (zR ls (pos+1+k))=false->o=false:=λq=>by rw[ho,ej b8 q,CH]
  simp only at i;refine ze (zo ED ?_);refine zk (aA ?_);obtain⟨p2,a1⟩:∃p2,qw ls ⟨pos+1+k,d,v,c,j,n,bad⟩=⟨p2,d,v,c,j,n,bad⟩:=by unfold qw;split;exact⟨_,rfl⟩;exact⟨_,rfl⟩
  have d8:pos+1+k<ls.length->p2=pos+1+k+1:=λh=>by unfold qw at a1;rw[if_pos h]at a1;exact(congrArg Rdr.pos a1).symm
  rw[a1]at f i;have x2:∀obs,ext S2 nx obs id=yy ver ls ⟨p2,d,v,c,j,n,bad⟩ cs (.sl idD (vD+k) 1 0 k):=λobs=>by rw[zL b,f,q11]
  cases hz:yD (zR ls (pos+1+k)) with
  |none =>
  have a0:=a4 (by unfold xz;rw[hz];rfl);rw[hz]at g;simp only[jT]at g;refine EJ ?_;refine λa=>((i _ ((zL b).trans (xi k))).mono ?_).v;rintro _ _ ⟨rfl,rfl⟩;refine⟨S2,_,by rw[qI _ b,<-f],zS a ?_⟩;refine λa=>((g _).mono ?_).v;rintro _ _ ⟨rfl,rfl⟩;refine⟨_,_,rfl,zS a ?_⟩;refine ze (aF [(2,25)] zz ?_);refine aD ?_;refine EJ ?_;refine zj ⟨_,_,by simp;rfl,by rw[a0];simp only[AW,if_false];exact⟨by simp[zr],_,_,_,by rw[f];exact u _ _⟩,ye c7⟩
  |some z =>
  have c8:=aT hz;rw[hz]at g;simp only[jT]at g;refine EJ ?_;refine λa=>((i _ ((zL b).trans (xi k))).mono ?_).v;rintro _ _ ⟨rfl,rfl⟩;refine⟨S2,_,by rw[qI _ b,<-f],zS a ?_⟩;refine λa=>((g _).mono ?_).v;rintro _ _ ⟨rfl,rfl⟩;refine⟨_,_,rfl,zS a ?_⟩;by_cases a5:z.length=n+1;have a6:(z.length:Int)=(n:Int)+1:=D9;refine ze (aF [(2,25)] (zD x2 wn a6) ?_);refine aC ?_;have y:(zR ls (pos+1+k)).length=n+1:=by rw[<-c8];exact a5
  have d0:pos+1+k<ls.length:=by apply DQ;intro hh;unfold zR at y;rw[Aa,An hh]at y;simp at y
  obtain rfl:=d8 d0;have d9:z=(zR ls (pos+1+k)).map zO:=by unfold yD at hz;split at hz<;>cases hz;rfl
  have e0:=em ls (pos+1) k;have d1:((jF ls (pos+1) k).flatMap enc).length=k:=by rw[qJ,e0]
  have e1:List.take k ((jF ls (pos+1) k).flatMap enc)=(jF ls (pos+1) k).flatMap enc:=Ad (by rw[d1];exact Ag _);have e2:∀obs,ext S2 nx obs idD=.cells (vD+k) 26 ((jF ls (pos+1) k).flatMap enc):=λobs=>by rw[zL a2,f,q10 _ _ _ _ (Ne.symm p),xd]
  have x3:∀A obs,ext (S2.set idD A) nx obs id=yy ver ls ⟨pos+1+k+1,d,v,c,j,n,bad⟩ cs (.sl idD (vD+k) 1 0 k):=λA obs=>by rw[zL b,q10 _ _ _ _ p,f,q11]
  have e6:k<=1048576:=D9;clear d1;refine zi [] (zN x2 e2 x3 g1 g2 e1) ?_;refine⟨by omega,?_⟩;have e3:St (k+1)=(S2.set idD (.cells (vD+k+1) 26 ((jF ls (pos+1) k).flatMap enc++[L z]))).set id (.cells ver 129 [L (wl ls),I ((pos:Int)+1+k+1),I d,I v,I c,I j,cs,.sl idD (vD+k+1) 1 0 (k+1),I n,B bad]):=by have e:(.cells ver 129 [L (wl ls),I ((pos:Int)+1+k+1),I d,I v,I c,I j,cs,.sl idD (vD+k+1) 1 0 (k+1),I n,B bad]:Ob)=yy ver ls ⟨pos+1+k+1,d,v,c,j,n,bad⟩ cs (.sl idD (vD+k+1) 1 0 (k+1)):=rfl;rw[e,f,set_comm _ idD id _ _ p,set_set,u,set_set,s,Ek,Ap,<-d9];rfl
  rw[<-e3];refine zg ?_;exact zv (k+1) [] ⟨b8,d0,λl d2=>by
   rw[J6,AC]at d2;obtain q|q:=d2;exact a3 l q;obtain rfl:l=zR ls (pos+1+k):=by simpa using q
   unfold xz;rw[hz,decide_eq_true y];rfl⟩ D9 (by simp[zy k D9]) rfl rfl
  have a6:¬(z.length:Int)=(n:Int)+1:=D9;have a0:=a4 (by unfold xz;rw[hz,<-c8,decide_eq_false a5];rfl);refine ze (aF [(2,25)] (zD x2 wn a6) ?_);refine aD ?_;refine EJ ?_;refine zj ⟨_,_,by simp;rfl,by rw[a0];simp only[AW,if_false];exact⟨by simp[zr],_,_,_,by rw[f];exact u _ _⟩,ye c7⟩
 obtain rfl:k=n+1:=D9;have e4:o=true:=by rw[ho,decide_eq_true hw,Av.2 a3];rfl
 refine ze (aE ?_);refine zB (EJ ?_);refine zj ⟨_,_,by simp;rfl,by rw[e4];simp only[if_true];exact⟨by simp[zr],d7,s _⟩,ye (a9 _)⟩;have a0:o=false:=by rw[ho,decide_eq_false hw,B0]
 refine zo (by simp[hw]) ?_;refine EJ ?_;refine zj ⟨_,_,by simp;rfl,by rw[a0];simp only[AW,if_false];exact⟨by simp[zr],_,_,_,(by rw[<-t];exact(Qu S1 idD _ a8).symm)⟩,ye d4⟩
abbrev RdX:=Rdr × List Cust × List (List Int)
def r0:Rdr:=⟨0,0,0,0,0,0,false⟩
def vY(ls:List Ln)(k:Nat)(x:RdX):Option RdX:=match k with
 |0=>if zR ls x.1.pos=[j7,[49]] then some (qw ls x.1,x.2) else none
 |1=>match qD (zR ls x.1.pos) [qY,qZ,q8,q9] with
  |some [d,v,c,l]=>some ({ qw ls x.1 with d:=d,v:=v,c:=c,l:=l },x.2)
  |_=>none
 |2=>match qD (zR ls x.1.pos) [jd] with
  |some [m]=>some ({ qw ls x.1 with m:=m },x.2)
  |_=>none
 |3=>if (yF ls x.1.pos x.1.m.toNat).all (λl=>(qE x.1.d l).isSome)=true then some ({ x.1 with pos:=x.1.pos+x.1.m.toNat,bad:=!(xZ ls x.1.d x.1.pos x.1.m.toNat) },qi ls x.1.d x.1.pos x.1.m.toNat,x.2.2) else none
 |4=>if zR ls x.1.pos=[je]/\(yF ls (x.1.pos+1) (x.1.m.toNat+1)).all (xz (x.1.m.toNat+1))=true then some ({ x.1 with pos:=x.1.pos+1+(x.1.m.toNat+1) },x.2.1,jF ls (x.1.pos+1) (x.1.m.toNat+1)) else none
 |5=>if x.1.pos=ls.length then some x else none
 |_=>some x
def yY(ls:List Ln):Nat->Option RdX
 |0=>some (r0,[],[])
 |k+1=>(yY ls k).bind (vY ls k)
def Vo{r:Rdr}(h:zR ls r.pos≠[]):qw ls r={ r with pos:=r.pos+1 }/\r.pos+1<=ls.length:=by by_cases a:r.pos<ls.length;exact⟨if_pos a,a⟩;simp_all[zR]
def en{l:Ln}{a:Ln}{z:List Int}(h:qD l a=some z)(hn:a≠[]):l≠[]:=by grind[qD,vU]
def kL(w:Wd):0<=zO w:=by simp[zO]
def El{l a:Ln}{z:List Int}(h:qD l a=some z):∀x∈z,0<=x:=by unfold qD yD at h;split at h;split at h;cases h;simp[kL];cases h;cases h
def Zwm(ls:List Ln):vV ls=(yY ls 6).map λx=>(⟨x.1.d,x.1.v,x.1.c,x.1.l,x.2.1,x.2.2⟩,!x.1.bad):=by
 unfold vV;by_cases h0:zR ls 0=[j7,[49]]
 .obtain⟨g,q0⟩:=Vo (ls:=ls) (r:=r0) (by show zR ls 0≠[];rw[h0];simp);have s1:yY ls 1=some (⟨1,0,0,0,0,0,false⟩,[],[]):=by show (if zR ls r0.pos=[j7,[49]] then some (qw ls r0,_) else none)=_;rw[g];exact if_pos h0
  rw[if_pos h0];cases h1:qD (zR ls 1) [qY,qZ,q8,q9] with
  |none =>
  simp_all[yY,vY]
  |some z =>
  obtain⟨d,v,c,l,rfl⟩:∃d v c l,z=[d,v,c,l]:=by
   have:=Vm h1
   match z,this with
   |[d,v,c,l],_=>simp
  obtain⟨h,n⟩:=Vo (ls:=ls) (r:=⟨1,0,0,0,0,0,false⟩) (en h1 EA);have s2:yY ls 2=some (⟨2,d,v,c,l,0,false⟩,[],[]):=by show (yY ls 1).bind (vY ls 1)=_;rw[s1];show (match qD (zR ls 1) _ with|some [d,v,c,l]=>some ({ qw ls _ with d:=d,v:=v,c:=c,l:=l },_)|_=>none)=_;rw[h1,h]
  simp only[];cases h2:qD (zR ls 2) [jd] with
  |none =>
  simp_all[yY,vY]
  |some z2 =>
  obtain⟨m,rfl⟩:∃m,z2=[m]:=by
   have:=Vm h2
   match z2,this with
   |[m],_=>simp
  obtain⟨i,o⟩:=Vo (ls:=ls) (r:=⟨2,d,v,c,l,0,false⟩) (en h2 EA);have s3:yY ls 3=some (⟨3,d,v,c,l,m,false⟩,[],[]):=by show (yY ls 2).bind (vY ls 2)=_;rw[s2];show (match qD (zR ls 2) _ with|some [m]=>some ({ qw ls _ with m:=m },_)|_=>none)=_;rw[h2,i]
  simp only[];by_cases h3:(yF ls 3 m.toNat).all (λl=>(qE d l).isSome)=true;have a:yY ls 4=some (⟨3+m.toNat,d,v,c,l,m,!(xZ ls d 3 m.toNat)⟩,qi ls d 3 m.toNat,[]):=by show (yY ls 3).bind (vY ls 3)=_;rw[s3];exact if_pos h3
  by_cases b:zR ls (3+m.toNat)=[je]/\(yF ls (4+m.toNat) (m.toNat+1)).all (xz (m.toNat+1))=true;have j:3+m.toNat+1=4+m.toNat:=D9;have e:yY ls 5=some (⟨4+m.toNat+(m.toNat+1),d,v,c,l,m,!(xZ ls d 3 m.toNat)⟩,qi ls d 3 m.toNat,jF ls (4+m.toNat) (m.toNat+1)):=by show (yY ls 4).bind (vY ls 4)=_;rw[a];show (if zR ls (3+m.toNat)=[je]/\(yF ls (3+m.toNat+1) (m.toNat+1)).all (xz (m.toNat+1))=true then some ((⟨3+m.toNat+1+(m.toNat+1),d,v,c,l,m,!(xZ ls d 3 m.toNat)⟩:Rdr),qi ls d 3 m.toNat,jF ls (3+m.toNat+1) (m.toNat+1)) else none)=_;rw[j];exact if_pos b
  by_cases k:ls.length=5+2*m.toNat;have f:yY ls 6=some (⟨4+m.toNat+(m.toNat+1),d,v,c,l,m,!(xZ ls d 3 m.toNat)⟩,qi ls d 3 m.toNat,jF ls (4+m.toNat) (m.toNat+1)):=by show (yY ls 5).bind (vY ls 5)=_;rw[e];exact if_pos EH
  rw[if_pos ⟨h3,b.1,b.2,k⟩,f];simp only[AU,Bool.not_not];rfl;have f:yY ls 6=none:=by show (yY ls 5).bind (vY ls 5)=_;rw[e];exact if_neg (by show ¬4+m.toNat+(m.toNat+1)=ls.length;omega)
  simp_all;have e:yY ls 5=none:=by show (yY ls 4).bind (vY ls 4)=_;rw[a];exact if_neg (by show ¬(zR ls (3+m.toNat)=_/\(yF ls (3+m.toNat+1) _).all _=true);rw[show 3+m.toNat+1=4+m.toNat by omega];exact b)
  have f:yY ls 6=none:=by show (yY ls 5).bind _=none;rw[e];rfl
  grind;have a:yY ls 4=none:=by show (yY ls 3).bind (vY ls 3)=_;rw[s3];exact if_neg h3
  have f:yY ls 6=none:=by show ((yY ls 4).bind _).bind _=none;rw[a];rfl
  grind
 have s1:yY ls 1=none:=by show (if zR ls r0.pos=[j7,[49]] then some (qw ls r0,_) else none)=_;exact if_neg h0
 simp_all[yY]
def Zwn{l:Ln}{w:Wd}(h:w∈l):w.length<=(zW l).length:=by
 rw[J1];have:w.length<=(l.map List.length).sum:=by
  induction l with
  |nil=>cases h
  |cons a l b =>
  grind
 omega
def bh{l:Ln}(h:l∈ls):(zW l).length+1<=(zV ls).length:=by induction ls<;>grind[ZX]
theorem kM(ls:List Ln):ls.length<=(zV ls).length:=by induction ls<;>grind[ZX]
def eo{t:List UInt8}(h:yO t=some ls)(hl:t.length<=1048576):LnsOk ls:=by obtain⟨h1,_,_⟩:=JT t.length (Ag _) h;refine⟨by grind[kM],λl hm=>?_⟩;have h2:=bh hm;rw[h1]at h2;exact⟨by grind[J1],λw a=>by have:=Zwn a;omega⟩
theorem X1(w:Wd):zU (zO w):=by
 have h0:=kL w;unfold zO at h0 ⊢;cases h:yt w with
 |none=>exact⟨by simp,by simp⟩
 |some n =>
 have:=Qk h;show -9223372036854775808<=(n:Int)/\(n:Int)<=9223372036854775807;omega
def Zwo{l a:Ln}{z:List Int}(h:qD l a=some z):∀x∈z,zU x:=by grind[qD,yD,X1]
def Zwp(w:Wd):qM w<2^64:=by grind[qM,aW]
def Zwq{d:Int}{l:Ln}{x:Cust × Bool}(h:qE d l=some x)(hl:l.length<=1048576):CustOk x.1:=by
 have z0:zU 0:=⟨by decide,by decide⟩;have z1:zU 1:=⟨by decide,by decide⟩;have z2:zU 2:=⟨by decide,by decide⟩
 match l,h,hl with
 |w::l',h,hl =>
 have h':(if w=qQ then YJ d l' else if w=xx then (Zw l').map (·,true) else none)=some x:=h;split at h'
 .match l',h',hl with
  |dw::ps,h',hl =>
  rw[aU]at h';split at h';cases h';refine⟨z1,X1 dw,?_,?_,z0,z0,z0,z0,z0⟩;intro p f;obtain⟨u,_,rfl⟩:=Ak.1 f;exact Zwp u;show (ps.map qM).length<=_;simp at hl ⊢;omega;cases h'
 split at h';obtain⟨c,hc,rfl⟩:=Al.1 h';by_cases g:l'.length=5;obtain⟨a,b,e,i,j,rfl⟩:∃a b c d e,l'=[a,b,c,d,e]:=by
  match l',g with
  |[a,b,c,d,e],_=>exact⟨a,b,c,d,e,rfl⟩
 rw[dU]at hc;split at hc;cases hc;refine⟨z2,z0,by simp,by simp,X1 _,X1 _,X1 _,?_,X1 _⟩;show zU (Qr i);unfold Qr;split;exact⟨by decide,by decide⟩;exact⟨by decide,by decide⟩;cases hc;simp_all[Ec];cases h'
def kN{x:Inst}{b:Bool}(h:vV ls=some (x,b))(hl:LnsOk ls):InstOk x:=by
 unfold vV at h;split at h;split at h;rename_i d v c l h1;split at h;rename_i m h2;split at h;rename_i g;obtain⟨i,e2,o,p⟩:=g;cases h;have q:=Zwo h1;have j:m.toNat<=1048576:=by have:=hl.1;omega
 refine⟨q d EA,q v EA,q c EA,q l EA,?_,?_,?_,?_⟩;grind[ei];intro cu e;obtain⟨a,hm,rfl⟩:=Ak.1 e;have hs:=Av.1 i a hm;obtain⟨k,_,rfl⟩:=Ak.1 hm;obtain⟨y,f⟩:=BZ.1 hs;have:xM d (zR ls (3+k))=y:=by unfold xM;rw[f];rfl
 rw[this];exact Zwq f (hl.at _).1;grind[ei];intro r n;obtain⟨a,hm,rfl⟩:=Ak.1 n;obtain⟨k,_,rfl⟩:=Ak.1 hm;refine⟨by have:=(hl.at (4+m.toNat+k)).1;simp;omega,λz s=>?_⟩;grind[X1];cases h;cases h;cases h;cases h
def Em(w:Wd)(ls:List Ln):(∃P k,J4 w ls=.tup [P,I k,B false]/\(P=yi\/∃r,P=L (wl r))/\∀l r,ls=l::r->qf w l=none)\/∃b r n,ls=[w,b]::r/\yt b=some n/\J4 w ls=.tup [L (wl r),I (n:Nat),B true]:=by
 unfold J4;split;rename_i a b r;split
 .rename_i e;subst e;cases c:yt b with
  |none=>exact .inl ⟨_,zO b,rfl,.inr ⟨r,rfl⟩,λl q e=>by cases e;simp[qf,c]⟩
  |some n =>
  refine .inr ⟨b,r,n,rfl,c,?_⟩;have:zO b=(n:Nat):=by unfold zO;rw[c];rfl
  rw[this];simp
 rename_i e;exact .inl ⟨_,_,rfl,.inl rfl,λl q d=>by cases d;simp[qf,e]⟩;rename_i hx;refine .inl ⟨_,_,rfl,.inl rfl,λl q e=>?_⟩;unfold qf;split;rename_i a b;exact absurd e (hx a b q);rfl
abbrev Zwr:PV:=.tup [yi,.agg [L ([]:zT)],B false]
def Zws(q:List Ln):(Yj q=Zwr/\∀m,qb (m+1) q=none)\/∃l r t,q=l::r/\Yj q=.tup [L (wl r),.agg [L t],B true]/\∀m,qb (m+1) q=(qb m r).map λp=>(p.1,t::p.2):=by
 cases q with
 |nil=>exact .inl ⟨rfl,λm=>rfl⟩
 |cons l r =>
 cases h:jL l with
 |none=>exact .inl ⟨by simp[Yj,h],λm=>by simp[qb,h]⟩
 |some t=>exact .inr ⟨l,r,t,rfl,by simp[Yj,h],λm=>by simp[qb,h]⟩
def Q6(ls:List Ln):PV:=match wu ls with
 |none=>.tup [yi,.agg [L ([]:zt)],B false]
 |some p=>.tup [L (wl p.1),.agg [L p.2],B true]
def Zwt(ls:List Ln)(h:BkOk ls):PP 121 [L (wl ls)] (Q6 ls):=by
 have hc:=Ed qG ls h;refine c9 func121 λS nx x=>?_;intro v0;obtain⟨P,k,e,hP,hn⟩|⟨b,r,n,rfl,hz,e⟩:=Em qG ls
 .have y:wu ls=none:=by unfold wu;split;rfl;rw[hn _ _ rfl]
  rw[show Q6 ls=.tup [yi,.agg [L ([]:zt)],B false] by simp[Q6,y]];rw[e]at hc;obtain rfl|⟨r,rfl⟩:=hP;all_goals
   refine EJ ?_;refine zu hc ?_;refine ze (EJ ?_);refine aD ?_;refine EJ ?_;refine z8 0 0 rfl rfl ?_;exact EK x
 rw[e]at hc;have a5:=Qk hz;have hr:=h.tl;have z:=hr.n;have a0:wu ([qG,b]::r)=qb n r:=by simp[wu,qf,hz]
 obtain⟨m,j⟩:∃m,m=Q6 ([qG,b]::r):=⟨_,rfl⟩;have a:m=match qb n r with|none=>.tup [yi,.agg [L ([]:zt)],B false]|some p=>.tup [L (wl p.1),.agg [L p.2],B true]:=by rw[j,Q6,a0]
 rw[<-j];refine EJ ?_;refine zu hc ?_;refine ze (EJ ?_);refine aC (EJ ?_);intro v1;refine qj 1 0 99 1 rfl rfl λv2=>?_;refine ze (EJ ?_);refine zn (zF (λs:Nat × List Ln × zt × Nat=>s.1<=n/\s.2.2.1.length=s.1/\BkOk s.2.1/\qb n r=(qb (n-s.1) s.2.1).map (λp=>(p.1,s.2.2.1++p.2))/\s.1+s.2.1.length<=1048576) (λ(k,q,d,w)=>[(0,L (wl q)),(3,.ptr nx v0 0),(7,.ptr (nx+1) v1 0),(18,I n),(19,I k)]) (λ(k,q,d,w)=>[.cells v0 96 [yi],.cells v1 96 [.sl (nx+2) w 1 0 k],.cells w 99 (d.flatMap enc)]) (λs=>n-s.1) (0,r,[],v2) [] ⟨Bx _,rfl,hr,by simp,by simpa using z⟩ EA EA ?_);rintro⟨k,q,d,w⟩ ⟨hk,f,hq,c,o⟩;simp only at hk f hq c o ⊢;refine EJ ?_;refine ze (zA rfl (λg=>?_) (λg=>?_));simp at g;have i:=Zwg q hq;have u:n-k=(n-(k+1))+1:=D9;have a1:(d.flatMap enc:List PV).length=k:=(qJ d).trans f;have a2:List.take k (d.flatMap enc)=(d.flatMap enc:List PV):=Ad D9;refine zk (aA (EJ ?_));intro v3;obtain⟨e1,e2⟩|⟨l,r',t,rfl,e1,e2⟩:=Zws q;rw[e1]at i;rw[u,e2]at c;rw[c]at a;refine ze (EJ ?_);refine zu i ?_;refine EJ ?_;refine aD ?_;refine EJ ?_;refine z8 0 0 rfl rfl ?_;exact zj (zm x EB (by simp[zr,a]));rw[e1]at i;rw[u,e2]at c;have a3:(d++[t]).flatMap enc=d.flatMap enc++[L t]:=by rw[Ap];rfl
 refine ze (EJ ?_);refine zu i ?_;refine EJ ?_;refine aC (zi [] (zq a1 a2) ?_);refine⟨by omega,?_⟩;refine zg ?_;exact zv (k+1,r',d++[t],w+1) [_] ⟨g,by simp[f],hq.tl,by rw[c,CE];congr 1;funext p;simp,by simp at o ⊢;omega⟩ (by simp only;omega) (by simp[zy k D9]) rfl (by simp only[a3];rfl);simp at g;obtain rfl:k=n:=D9;rw[Bk]at c;simp only[qb,AU,Ay]at c;rw[c]at a;have a4:∀id v cs,(d.flatMap enc).map (qk id v cs)=(d.flatMap enc:List PV):=λid v cs=>J5 id v cs d;refine zB (yc 2 rfl ?_);simp only[Aw,Bf,AM,AR,xD,a4];refine aG (some [nx+1]) (pures [0,1,2] (.alt 3 Uc .stop)) n' ?_;exact zj (zm x EB (by simp[zr,a,f]))
def En{r:List Ln}(h:wu ls=some (r,d)):(∀l∈r,l∈ls)/\r.length<ls.length:=by unfold wu at h;split at h;cases h;split at h;cases h;have h1:=Vl h;exact⟨λl q=>BR _ (vm h l q),by simp;omega⟩
theorem BkOk.sub{r:List Ln}(h:BkOk ls)(h1:∀l∈r,l∈ls)(h2:r.length<ls.length):BkOk r:=⟨by have:=h.n;omega,λl ls=>h.l l (h1 l ls),λl ls=>h.ne l (h1 l ls)⟩
def Zwu(q:List Ln):(Q6 q=.tup [yi,.agg [L ([]:zt)],B false]/\∀m,qp (m+1) q=none)\/∃r d,Q6 q=.tup [L (wl r),.agg [L d],B true]/\(∀m,qp (m+1) q=(qp m r).map λp=>(p.1,d::p.2))/\(∀l∈r,l∈q)/\r.length<q.length:=by
 cases h:wu q with
 |none=>exact .inl ⟨by simp[Q6,h],λm=>by simp[qp,h]⟩
 |some p=>exact .inr ⟨p.1,p.2,by simp[Q6,h],λm=>by simp[qp,h],En h⟩
def Qw(o:Option zG):PV:=match o with
 |none=>.tup [.agg [L ([]:zG)],I 2]
 |some p=>.tup [.agg [L p],I 0]
def eu{t:List UInt8}(a:yO t=some ls)(hl:t.length<=1048576):BkOk ls:=by have h:=eo a hl;obtain⟨-,h2,-⟩:=JT _ (Ag _) a;exact⟨h.1,h.2,h2⟩
def Zwv(t:List UInt8)(hl:t.length<=1048576):PP 77 [T (bs t)] (Qw ((yO t).bind jZ)):=by
 have a:=kI t hl;refine c9 func77 λS nx m=>?_;intro v0;cases z:yO t with
 |none =>
 rw[z]at a;simp only[vX]at a;simp only[Option.bind_none,Qw];refine EJ ?_;refine zu a ?_;refine ze (EJ ?_);refine aD ?_;refine EJ ?_;refine z8 0 0 rfl rfl ?_;exact EK m
 |some ls =>
 rw[z]at a;simp only[vX]at a;simp only[CI];have h:=eu z hl;have hc:=Ed qn ls h;refine EJ ?_;refine zu a ?_;refine ze (EJ ?_);refine aC ?_;obtain⟨P,k,e,hP,hn⟩|⟨b,r,n,rfl,o,e⟩:=Em qn ls
 .have a0:jZ ls=none:=by unfold jZ;split;rfl;rw[hn _ _ rfl]
  rw[a0];simp only[Qw];rw[e]at hc;obtain rfl|⟨r,rfl⟩:=hP;all_goals
   refine EJ ?_;refine zu hc ?_;refine ze (EJ ?_);refine aD ?_;refine EJ ?_;refine z8 0 0 rfl rfl ?_;exact EK m
 rw[e]at hc;have a7:=Qk o;have hr:=h.tl;have a1:=hr.n;have a2:jZ ([qn,b]::r)=match qp n r with|some ([],p)=>some p|_=>none:=by simp only[jZ,qf,if_true,o]<;>rfl
 obtain⟨u,c⟩:∃u,u=Qw (jZ ([qn,b]::r)):=⟨_,rfl⟩;rw[<-c];rw[a2]at c;refine EJ ?_;refine zu hc ?_;refine ze (EJ ?_);refine aC (EJ ?_);intro v1;refine qj 1 0 96 1 rfl rfl λv2=>?_;refine ze (EJ ?_);refine zn (zF (λs:Nat × List Ln × zG × Nat=>s.1<=n/\s.2.2.1.length=s.1/\BkOk s.2.1/\qp n r=(qp (n-s.1) s.2.1).map (λp=>(p.1,s.2.2.1++p.2))/\s.1+s.2.1.length<=1048576) (λ(k,q,d,w)=>[(2,.ptr nx v0 0),(4,L (wl q)),(8,.ptr (nx+1) v1 0),(27,I n),(28,I k)]) (λ(k,q,d,w)=>[.cells v0 31 [yi],.cells v1 31 [.sl (nx+2) w 1 0 k],.cells w 96 (d.flatMap enc)]) (λs=>n-s.1) (0,r,[],v2) [] ⟨Bx _,rfl,hr,by simp,by simpa using a1⟩ EA EA ?_);rintro⟨k,q,d,w⟩ ⟨hk,g,hq,f,x⟩;simp only at hk g hq f x ⊢;refine EJ ?_;refine ze (zA rfl (λi=>?_) (λi=>?_));simp at i;have j:=Zwt q hq;have y:n-k=(n-(k+1))+1:=D9;have a3:(d.flatMap enc:List PV).length=k:=(qJ d).trans g;have a4:List.take k (d.flatMap enc)=(d.flatMap enc:List PV):=Ad D9;refine zk (aA (EJ ?_));intro v3;obtain⟨e1,e2⟩|⟨r',t,e1,e2,e3,e4⟩:=Zwu q;rw[e1]at j;rw[y,e2]at f;rw[f]at c;simp only[Dq,Qw]at c;refine ze (EJ ?_);refine zu j ?_;refine EJ ?_;refine aD ?_;refine EJ ?_;refine z8 0 0 rfl rfl ?_;exact zj (zm m EB (by simp[zr,c]));rw[e1]at j;rw[y,e2]at f;have a5:(d++[t]).flatMap enc=d.flatMap enc++[L t]:=by rw[Ap];rfl
 refine ze (EJ ?_);refine zu j ?_;refine EJ ?_;refine aC (zi [] (zq a3 a4) ?_);refine⟨by omega,?_⟩;refine zg ?_;exact zv (k+1,r',d++[t],w+1) [_] ⟨i,by simp[g],hq.sub e3 e4,by rw[f,CE];congr 1;funext p;simp,by simp at x ⊢;omega⟩ (by simp only;omega) (by simp[zy k D9]) rfl (by simp only[a5];rfl);simp at i;obtain rfl:k=n:=D9;rw[Bk]at f;simp only[qp,AU,Ay]at f;rw[f]at c;have a6:∀id v cs,(d.flatMap enc).map (qk id v cs)=(d.flatMap enc:List PV):=λid v cs=>J5 id v cs d;refine zB (yc 2 rfl ?_);simp only[Aw,Bf,AM,AR,xD,a6];cases q with
 |nil =>
 simp only[Qw]at c;refine ze (EJ ?_);refine aC (EJ ?_);exact zj (zm m EB (by simp[zr,c,g]))
 |cons l q =>
 simp only[Qw]at c;refine ze (EJ ?_);refine aD ?_;refine EJ ?_;refine z8 0 0 rfl rfl ?_;exact zj (zm m EB (by simp[zr,c]))
def Zww(k:Nat)(u:UInt8)(l:List UInt8):yr (replicate (k+1) (U8 0)++l.map U8) k [U8 u]=replicate k (U8 0)++(u::l).map U8:=by
 have e:replicate (k+1) (U8 0)++l.map U8=replicate k (U8 0)++(U8 0::l.map U8):=by rw[Dh];simp
 unfold yr;rw[e,DZ EA,Cu,AS EA];simp
def X2(m:Nat)(hm:m<9223372036854775808):PP 40 [I m] (T (bs (zQ m))):=by
 have a:=aI m 18 D9;have c1:IntKind.u64.wrap (m:Int)=m:=by rw[IntWalk.u64_in _ D9]
 have c2:¬(m:Int)<0:=D9;refine c9 func40 λS nx hd=>?_;refine EJ ?_;intro v0;refine aF [] c1 ?_;refine ze (EJ ?_);refine aC ?_;have t:qr 20 (.int .u8 0)=replicate 20 (U8 0)++([]:List UInt8).map U8:=rfl;refine ze (qg (nx:=nx) (σ:=List UInt8) (λl=>zQ m=l) (λl=>[(0,I m),(3,.ptr nx v0 0),(5,I ((20-l.length:Nat):Int))]) (λ_=>S) (λl=>[.cells v0 119 (replicate (20-l.length) (U8 0)++l.map U8)]) ?_ ?_);refine zn (zF (λs:Nat × List UInt8=>zQ m=zQ s.1++s.2/\s.1<=m) (λ(r,l)=>[(0,I m),(3,.ptr nx v0 0),(4,U r),(5,I ((20-l.length:Nat):Int))]) (λ(r,l)=>[.cells v0 119 (replicate (20-l.length) (U8 0)++l.map U8)]) (λs=>s.1) (m,[]) [] EA EA (by simp[t]) ?_);rintro⟨r,l⟩ ⟨v,w⟩;simp only at v w ⊢;have a0:(zQ r).length+l.length<=19:=by rw[v,length_append]at a;exact a
 have a1:1<=(zQ r).length:=Bt.2 (aH r);obtain⟨s1,s2⟩:=UG v;have hu:=Qj (k:=r%10) D9;obtain⟨k,x⟩:∃k,20-l.length=k+1:=⟨19-l.length,by omega⟩;have n:=Zww k (UInt8.ofNat (48+r%10)) l;generalize UInt8.ofNat (48+r%10)=u at *;have e1:((r:Int)).tmod 10=((r%10:Nat):Int):=by rw[Be D9];omega
 have e2:((r:Int)).tdiv 10=((r/10:Nat):Int):=by rw[BQ D9];omega
 have f:r/10<=r/\(r/10=0<->r<10)/\(¬r<10->r/10<r):=D9;have y:r%10<10:=D9;generalize r%10=d at *;generalize r/10=q at *;have w0:i64.wrap (((k+1:Nat):Int)-1)=(k:Int):=by rw[AD];omega
 have w1:IntKind.u64.wrap (48+(d:Int))=(u.toNat:Int):=by rw[IntWalk.u64_in _ D9,hu];rfl
 have w2:=kv u.toNat D9;have w3:IntKind.u64.wrap (q:Int)=q:=by rw[IntWalk.u64_in _ D9]
 have o:k<20:=D9;have z:i64.wrap (k:Int)=k:=wr _ D9 D9;have w5:(k:Int)<20:=D9;rw[x];refine zn (aF [] (zq w0 z) ?_);refine aF [] (zN e1 w1 w2 o z (zq w5 n)) ?_;refine aF [] (zq e2 w3) ?_;refine EJ ?_;have p:20-(u::l).length=k:=ED;have g:19-l.length=k:=D9;by_cases c:r<10;have j:q=0:=f.2.1.2 c;refine zo (by simp[j]) ?_;exact zB (zY (u::l) [] (s1 c) (by simp[g]) rfl (by simp only[p,Ay,Aw]));have j:¬q=0:=λh=>c (f.2.1.1 h);refine zp (by simp[j]) ?_;exact zk (zv (q,u::l) [] ⟨s2 c,by omega⟩ D9 (by simp[g]) rfl (by simp only[p,Ay,Aw]));rintro l hl;rw[hl]at a ⊢;have a2:1<=l.length:=by rw[<-hl];exact Bt.2 (aH m)
 clear hl;obtain⟨k,x⟩:∃k,20-l.length=k:=⟨_,rfl⟩;rw[x];refine ze (EJ ?_);refine aC (EJ ?_);refine λb=>Up (k:=k) (m:=20) (id:=nx) (ver:=v0) rfl underlying119 EA rfl rfl D9 D9 (by rw[ui];rfl) D9 ?_;refine⟨_,_,rfl,zS b ?_⟩;refine λb=>dV (e:=5) (l:=l) (off:=k) (id:=nx) (ver:=v0) rfl EA EA EA ED (by rw[ui];rfl) (λi u h=>by rw[Ao EA,B8,AJ,Ai,h];rfl) D9 ?_;refine⟨_,_,rfl,zS b ?_⟩;exact EK hd
def Zwx(w:Wd)(c:w.length<=20)(m:Nat)(hm:m<9223372036854775808):PP 38 [T (bs w),I m] (T (bs (zW [w,zQ m]++[10]))):=by have a:=X2 m hm;have d:=wL (n:=m) D9;have hl:PP 37 [.lst 2 [T (bs w),T (bs (zQ m))]] (T (bs (zW [w,zQ m]++[10]))):=XU [w,zQ m] EA (by simp[zW];omega);generalize zW [w,zQ m]++[10]=r at *;generalize zQ m=dm at *;refine c9 func38 λS nx b=>?_;refine EJ ?_;refine zu a ?_;refine zu hl ?_;exact EK b
def bi(h:yY ls k=none)(a:k<=6):yY ls 6=none:=by
 have:∀j,yY ls (k+j)=none:=by
  intro j;induction j with
  |zero=>exact h
  |succ j b=>show (yY ls (k+j)).bind _=none;rw[b];rfl
 have:=this (6-k);rwa[Nat.add_sub_cancel' a]at this
def Eo(ls:List Ln)(k:Nat)(x:RdX):Prop :=
 x.1.pos<=ls.length/\(k<=3->x.2.1=[]/\x.1.bad=false)/\(k<=4->x.2.2=[])/\0<=x.1.m/\(k=4->x.1.m.toNat<=1048576)
def Ep(t:List UInt8)(hl:t.length<=1048576):PP 43 [T (bs t)] (.tup [.agg (zE (yn t).1),I (yn t).2]):=by
 have f:=kI t hl;cases hz:yO t with
 |none =>
 rw[hz]at f;simp only[vX]at f;have y:yn t=(zI,2):=by unfold yn;rw[hz]
 rw[y];refine c9 func43 λS nx q=>?_;intro v0;refine EJ ?_;refine zu f ?_;refine ze (EJ ?_);refine aD ?_;refine EJ ?_;refine z8 0 4 rfl rfl ?_;refine z8 0 5 rfl rfl ?_;exact zj (zm q EB (by simp[zI,zr]))
 |some ls =>
 rw[hz]at f;simp only[vX]at f;have g:=eo hz hl;have y:yn t=match vV ls with
  |none=>(zI,2)
  |some (x,ok)=>if ok=true/\yV x=true then (x,0) else (zI,3):=by unfold yn;rw[hz]<;>rfl
 have a2:=Zwm ls;obtain⟨o,a0⟩:∃o,o=yn t:=⟨_,rfl⟩;rw[<-a0];rw[<-a0]at y;have p:yY ls 6=none->o=(zI,2):=λh=>by rw[y,a2,h];rfl
 refine c9 func43 λS nx q=>?_;intro v0;refine EJ ?_;refine zu f ?_;refine ze (EJ ?_);refine aC (EJ ?_);intro v1;refine qj 1 6 59 8 rfl rfl λw0=>?_;refine qj 1 7 26 1 rfl rfl λw1=>?_;refine ze (EJ ?_);refine zn (zF (λs:Nat × Rdr × List Cust × List (List Int) × Nat × Nat=>s.1<=6/\yY ls s.1=some (s.2.1,s.2.2.1,s.2.2.2.1)/\Eo ls s.1 (s.2.1,s.2.2.1,s.2.2.2.1)) (λ(k,r,cu,dd,vC,vD)=>[(2,.ptr nx v0 0),(6,.ptr (nx+1) v1 0),(32,.lst 6 [.fn (.func 69) [.ptr (nx+1) v1 0] [],.fn (.func 70) [.ptr (nx+1) v1 0] [],.fn (.func 71) [.ptr (nx+1) v1 0] [],.fn (.func 72) [.ptr (nx+1) v1 0] [],.fn (.func 73) [.ptr (nx+1) v1 0] [],.fn (.func 74) [.ptr (nx+1) v1 0] []]),(33,I 6),(34,I k)])
  (λ(k,r,cu,dd,vC,vD)=>[.cells v0 25 [I 0,I 0,I 0,I 0,yi,yi],yy v1 ls r (.sl (nx+2) vC 8 0 cu.length) (.sl (nx+3) vD 1 0 dd.length),.cells vC 59 (cu.flatMap enc),.cells vD 26 (dd.flatMap enc)]) (λs=>6-s.1) (0,r0,[],[],w0,w1) [] ⟨by simp,rfl,by simp[Eo,r0]⟩ (by simp[qr]) (by simp[r0]) ?_)
 rintro⟨k,r,cu,dd,vC,vD⟩ ⟨hk,i,m1,m2,m3,m4,m5⟩;simp only at hk i m1 m2 m3 m4 m5 ⊢;refine EJ ?_;refine ze (zA rfl (λhc=>?_) (λhc=>?_));simp at hc;refine zk (aA ?_);obtain rfl|rfl|rfl|rfl|rfl|rfl:k=0\/k=1\/k=2\/k=3\/k=4\/k=5:=D9;have a:yY ls 1=if zR ls r.pos=[j7,[49]] then some (qw ls r,cu,dd) else none:=by show (yY ls 0).bind (vY ls 0)=_;rw[i];rfl
 refine EJ ?_;refine EJ ?_;refine λb=>((Zv5 ls r _ _ (by rw[zZ];rfl) g).mono ?_).v;rintro _ _ ⟨rfl,rfl⟩;refine⟨_,_,yu _ D9 EA,zS b ?_⟩;by_cases h:zR ls r.pos=[j7,[49]];rw[if_pos h]at a;obtain⟨n1,n2⟩:=Vo (ls:=ls) (r:=r) (by rw[h];simp);refine zp (by simp[h]) ?_;refine zk (zg ?_);exact zv (1,qw ls r,cu,dd,vC,vD) [] ⟨by omega,a,by rw[n1];exact⟨n2,λ_=>m2 D9,λ_=>m3 D9,m4,λh=>by omega⟩⟩ D9 (by simp;try exact wr _ D9 D9) rfl (by simp;try rfl);rw[if_neg h]at a;have j:=p (bi a D9);refine zo (by simp[h]) ?_;refine EJ ?_;refine z8 0 4 rfl rfl ?_;refine z8 0 5 rfl rfl ?_;exact zj (zm q EB (by simp[zI,zr,j]))
 .have a:yY ls 2=match qD (zR ls r.pos) [qY,qZ,q8,q9] with
   |some [d,v,c,l]=>some ({ qw ls r with d:=d,v:=v,c:=c,l:=l },cu,dd)
   |_=>none:=by show (yY ls 1).bind (vY ls 1)=_;rw[i];rfl
  have e:=λS (h:S (nx+1)=_)=>Zv6 (S:=S) (id:=nx+1) (ver:=v1) ls r (.sl (nx+2) vC 8 0 cu.length) (.sl (nx+3) vD 1 0 dd.length) h g;cases h:qD (zR ls r.pos) [qY,qZ,q8,q9] with
  |none =>
  rw[h]at a e;simp only at a e;have j:=p (bi a D9);refine EJ ?_;refine EJ ?_;refine λb=>((e _ (by rw[zZ];rfl)).mono ?_).v;rintro _ _ ⟨rfl,rfl⟩;refine⟨_,_,yu _ D9 EA,zS b ?_⟩;refine aD ?_;refine EJ ?_;refine z8 0 4 rfl rfl ?_;refine z8 0 5 rfl rfl ?_;exact zj (zm q EB (by simp[zI,zr,j]))
  |some z =>
  obtain⟨d,v,c,l,rfl⟩:∃d v c l,z=[d,v,c,l]:=by
   have:=Vm h
   match z,this with
   |[d,v,c,l],_=>exact⟨d,v,c,l,rfl⟩
  obtain⟨n1,n2⟩:=Vo (ls:=ls) (r:=r) (en h EA);have a3:=El h;rw[h]at a e;simp only at a e;refine EJ ?_;refine EJ ?_;refine λb=>((e _ (by rw[zZ];rfl)).mono ?_).v;rintro _ _ ⟨rfl,rfl⟩;refine⟨_,_,yu _ D9 EA,zS b ?_⟩;refine aC (zg ?_);exact zv (2,{ qw ls r with d:=d,v:=v,c:=c,l:=l },cu,dd,vC,vD) [] ⟨by omega,a,by rw[n1];exact⟨n2,λ_=>m2 D9,λ_=>m3 D9,m4,λh=>by omega⟩⟩ D9 (by simp;try exact wr _ D9 D9) rfl (by simp;try rfl)
 .have a:yY ls 3=match qD (zR ls r.pos) [jd] with
   |some [m]=>some ({ qw ls r with m:=m },cu,dd)
   |_=>none:=by show (yY ls 2).bind (vY ls 2)=_;rw[i];rfl
  have e:=λS (h:S (nx+1)=_)=>Zv7 (S:=S) (id:=nx+1) (ver:=v1) ls r (.sl (nx+2) vC 8 0 cu.length) (.sl (nx+3) vD 1 0 dd.length) h g;cases h:qD (zR ls r.pos) [jd] with
  |none =>
  rw[h]at a e;simp only at a e;have j:=p (bi a D9);refine EJ ?_;refine EJ ?_;refine λb=>((e _ (by rw[zZ];rfl)).mono ?_).v;rintro _ _ ⟨rfl,rfl⟩;refine⟨_,_,yu _ D9 EA,zS b ?_⟩;refine aD ?_;refine EJ ?_;refine z8 0 4 rfl rfl ?_;refine z8 0 5 rfl rfl ?_;exact zj (zm q EB (by simp[zI,zr,j]))
  |some z =>
  obtain⟨m,rfl⟩:∃m,z=[m]:=by
   have:=Vm h
   match z,this with
   |[m],_=>exact⟨m,rfl⟩
  obtain⟨n1,n2⟩:=Vo (ls:=ls) (r:=r) (en h EA);have a3:=El h;rw[h]at a e;simp only at a e;refine EJ ?_;refine EJ ?_;refine λb=>((e _ (by rw[zZ];rfl)).mono ?_).v;rintro _ _ ⟨rfl,rfl⟩;refine⟨_,_,yu _ D9 EA,zS b ?_⟩;refine aC (zg ?_);exact zv (3,{ qw ls r with m:=m },cu,dd,vC,vD) [] ⟨by omega,a,by rw[n1];exact⟨n2,λ_=>m2 D9,λ_=>m3 D9,a3 m EA,λh=>by omega⟩⟩ D9 (by simp;try exact wr _ D9 D9) rfl (by simp;try rfl)
 obtain⟨rfl,hb⟩:=m2 D9;have hm:r.m=(r.m.toNat:Int):=D9;have a:yY ls 4=if (yF ls r.pos r.m.toNat).all (λl=>(qE r.d l).isSome)=true then some ({ r with pos:=r.pos+r.m.toNat,bad:=!(xZ ls r.d r.pos r.m.toNat) },qi ls r.d r.pos r.m.toNat,dd) else none:=by show (yY ls 3).bind (vY ls 3)=_;rw[i];rfl
 have e:=λS (h:S (nx+1)=_) (h2:S (nx+2)=_)=>Zwk (S:=S) (id:=nx+1) (ver:=v1) (idC:=nx+2) (vC:=vC) ls r r.m.toNat (.sl (nx+3) vD 1 0 dd.length) h h2 g hm m1 hb;by_cases h:(yF ls r.pos r.m.toNat).all (λl=>(qE r.d l).isSome)=true;rw[if_pos h]at a;simp only[if_pos h]at e;have a5:=ek ls r.d r.pos r.m.toNat;refine EJ ?_;refine EJ ?_;refine λb=>((e _ (by rw[zZ];rfl) (by rw[zZ];rfl)).mono ?_).v;rintro _ _ ⟨rfl,a1,rfl⟩;refine⟨_,_,by rw[yu _ D9 EA,yu _ D9 EA],zS b ?_⟩;refine aC (zg ?_);exact zv (4,{ r with pos:=r.pos+r.m.toNat,bad:=!(xZ ls r.d r.pos r.m.toNat) },qi ls r.d r.pos r.m.toNat,dd,vC+r.m.toNat,vD) [] ⟨by omega,a,a1,λh=>by omega,λ_=>m3 D9,m4,λ_=>by have:=g.1;show r.m.toNat<=_;omega⟩ D9 (by simp;try exact wr _ D9 D9) rfl (by simp[a5]);rw[if_neg h]at a;have j:=p (bi a D9);simp only[if_neg h]at e;refine EJ ?_;refine EJ ?_;refine λb=>((e _ (by rw[zZ];rfl) (by rw[zZ];rfl)).mono ?_).v;rintro _ _ ⟨rfl,r',cs',oC,rfl⟩;refine⟨_,_,by rw[yu _ D9 EA,yu _ D9 EA],zS b ?_⟩;refine aD ?_;refine EJ ?_;refine z8 0 4 rfl rfl ?_;refine z8 0 5 rfl rfl ?_;exact zj (zm q EB (by simp[zI,zr,j]));obtain rfl:=m3 D9;have hm:r.m=(r.m.toNat:Int):=D9;have a:yY ls 5=if zR ls r.pos=[je]/\(yF ls (r.pos+1) (r.m.toNat+1)).all (xz (r.m.toNat+1))=true then some ({ r with pos:=r.pos+1+(r.m.toNat+1) },cu,jF ls (r.pos+1) (r.m.toNat+1)) else none:=by show (yY ls 4).bind (vY ls 4)=_;rw[i];rfl
 have e:=λS (h:S (nx+1)=_) (h2:S (nx+3)=_)=>Zwl (S:=S) (id:=nx+1) (ver:=v1) (idD:=nx+3) (vD:=vD) ls r r.m.toNat (.sl (nx+2) vC 8 0 cu.length) h h2 g hm (m5 rfl) m1;by_cases h:zR ls r.pos=[je]/\(yF ls (r.pos+1) (r.m.toNat+1)).all (xz (r.m.toNat+1))=true;rw[if_pos h]at a;simp only[if_pos h]at e;have a6:=em ls (r.pos+1) (r.m.toNat+1);refine EJ ?_;refine EJ ?_;refine λb=>((e _ (by rw[zZ];rfl) (by rw[zZ];rfl)).mono ?_).v;rintro _ _ ⟨rfl,a1,rfl⟩;refine⟨_,_,by rw[yu _ D9 EA,yu _ D9 EA],zS b ?_⟩;refine aC (zg ?_);exact zv (5,{ r with pos:=r.pos+1+(r.m.toNat+1) },cu,jF ls (r.pos+1) (r.m.toNat+1),vC,vD+(r.m.toNat+1)) [] ⟨by omega,a,a1,λh=>by omega,λh=>by omega,m4,λh=>by omega⟩ D9 (by simp;try exact wr _ D9 D9) rfl (by simp[a6]);rw[if_neg h]at a;have j:=p (bi a D9);simp only[if_neg h]at e;refine EJ ?_;refine EJ ?_;refine λb=>((e _ (by rw[zZ];rfl) (by rw[zZ];rfl)).mono ?_).v;rintro _ _ ⟨rfl,r',ds',oD,rfl⟩;refine⟨_,_,by rw[yu _ D9 EA,yu _ D9 EA],zS b ?_⟩;refine aD ?_;refine EJ ?_;refine z8 0 4 rfl rfl ?_;refine z8 0 5 rfl rfl ?_;exact zj (zm q EB (by simp[zI,zr,j]));have a:yY ls 6=if r.pos=ls.length then some (r,cu,dd) else none:=by show (yY ls 5).bind (vY ls 5)=_;rw[i];rfl
 refine EJ ?_;refine EJ ?_;refine λb=>((Zv8 ls r _ _ (by rw[zZ];rfl)).mono ?_).v;rintro _ _ ⟨rfl,rfl⟩;refine⟨_,_,rfl,zS b ?_⟩;by_cases h:r.pos=ls.length;rw[if_pos h]at a;refine zp (by simp[h]) ?_;refine zk (zg ?_);exact zv (6,r,cu,dd,vC,vD) [] ⟨by omega,a,m1,λh=>by omega,λh=>by omega,m4,λh=>by omega⟩ D9 (by simp;try exact wr _ D9 D9) rfl EA;rw[if_neg h]at a;have j:=p a;refine zo (by simp[h]) ?_;refine EJ ?_;refine z8 0 4 rfl rfl ?_;refine z8 0 5 rfl rfl ?_;exact zj (zm q EB (by simp[zI,zr,j]));simp at hc;obtain rfl:k=6:=D9;have u:vV ls=some (⟨r.d,r.v,r.c,r.l,cu,dd⟩,!r.bad):=by rw[a2,i];rfl
 have a4:=kN u g;have n:=rT _ a4;rw[u]at y;refine zB (yc 2 rfl ?_);refine yc 3 rfl ?_;obtain⟨pos,d,v,c,ln,m,bad⟩:=r;cases bad with
 |true =>
 have j:o=(zI,3):=by rw[y];exact if_neg EA
 refine ze (aF [(4,47)] zz ?_);refine aD ?_;refine EJ ?_;refine z8 0 4 rfl rfl ?_;refine z8 0 5 rfl rfl ?_;exact zj (zm q EB (by simp[zI,zr,j]))
 |false =>
 by_cases w:yV ⟨d,v,c,ln,cu,dd⟩=true;have j:o=(⟨d,v,c,ln,cu,dd⟩,0):=by rw[y];exact if_pos ⟨rfl,w⟩
 rw[if_pos w]at n;refine ze (aF [(4,47)] n' ?_);refine yK [(4,47)] n n' ?_;refine aC (EJ ?_);exact zj (zm q EB (by simp[zr,j]));have j:o=(zI,3):=by rw[y];exact if_neg (λh=>w h.2)
 rw[if_neg w]at n;refine ze (aF [(4,47)] n' ?_);refine yK [(4,47)] n n' ?_;refine aD ?_;refine EJ ?_;refine z8 0 4 rfl rfl ?_;refine z8 0 5 rfl rfl ?_;exact zj (zm q EB (by simp[zI,zr,j]))
section
variable {S:Store} {id v:Nat} {t s0 s1 s2 s3 x0 x1 x2 x3 x4 x5 r0 r1 r2 r3 r4 r5:PV}
def Er(u:List UInt8)(hl:u.length<=1048576)(f:S id=.cells v 71 [T (bs u),s0,s1,s2,s3,x0,x1,x2,x3,x4,x5,r0,r1,r2,r3,r4,r5]):
  SP 32 [.ptr id v 0] S (λq S'=>q=I (yn u).2/\S'=S.set id (.cells v 71
   (if (yn u).2=0 then [T (bs u),s0,s1,s2,s3]++zE (yn u).1++[r0,r1,r2,r3,r4,r5] else [T (bs u),s0,s1,s2,s3,x0,x1,x2,x3,x4,x5,I (if (yn u).2=2 then 1 else 2),r1,r2,r3,r4,r5]))):=by
 have g:=Ep u hl;generalize yn u=z at *;obtain⟨y,e⟩:=z;simp only at g ⊢;refine i' func32 λnx c=>?_;have a:id<nx:=jD c f EA;have b:=λobs=>(zL (S:=S) (obs:=obs) a).trans f;have g1:¬nx<=id:=D9;refine EJ ?_;refine aF [] b ?_;refine yK [] g b ?_;intro v0;refine ze (EJ ?_);refine zn (EJ ?_);by_cases d:e=0;subst d;refine aD ?_;refine zi [] (zq b g1) ?_;refine EJ ?_;exact zj ⟨_,_,rfl,⟨by simp[zr],by simp⟩,ye (jr c a _)⟩;rw[if_neg d];refine zp (by simp[d]) ?_;refine EJ ?_;by_cases h2:e=2;subst h2;refine aD ?_;refine zi [] (zq b g1) ?_;refine EJ ?_;exact zj ⟨_,_,rfl,⟨by simp[zr],by simp⟩,ye (jr c a _)⟩;rw[if_neg h2];refine zp (by simp[h2]) ?_;refine zi [] (zq b g1) ?_;refine EJ ?_;exact zj ⟨_,_,rfl,⟨by simp[zr],by simp⟩,ye (jr c a _)⟩
variable {bd:Int}
def Zwy{a b:PV}(hc:PP 61 [.agg [x0,x1,x2,x3,x4,x5],s0,s3] (.tup [.agg [a,b],I bd]))(e:S id=.cells v 71 [t,s0,s1,s2,s3,x0,x1,x2,x3,x4,x5,r0,r1,r2,r3,r4,r5]):
  SP 33 [.ptr id v 0] S (λq S'=>q=I 0/\S'=S.set id (.cells v 71 [t,s0,s1,s2,s3,x0,x1,x2,x3,x4,x5,I 3,I bd,r2,r3,r4,r5])):=by
 refine i' func33 λnx f=>?_;have c:id<nx:=jD f e EA;have d:=λobs=>(zL (S:=S) (obs:=obs) c).trans e;have g:∀(A:Ob) obs,ext (S.set id A) nx obs id=A:=λA obs=>(zL c).trans (q11 _ _ _);have g1:¬nx<=id:=D9;refine EJ ?_;refine aF [] (zq d g1) ?_;refine aG (some []) (pures [0,1,2,3,5,6,7,8,10,11,12,13] (.alt 4 (.alt 9 (.alt 14 Rb .stop) (.alt 14 (.alt 9 Rb .stop) .stop)) (.alt 9 (.alt 4 (.alt 14 Rb .stop) (.alt 14 (.alt 4 Rb .stop) .stop)) (.alt 14 (.alt 4 (.alt 9 Rb .stop) (.alt 9 (.alt 4 Rb .stop) .stop)) .stop)))) (zD d g g1) ?_
 repeat' refine And.intro ?_ ?_
 all_goals
  refine zK (hc) (zD d g g1) ?_;refine EJ ?_;exact zj ⟨_,_,rfl,⟨by simp[zr],rfl⟩,ye (jr f c _)⟩
def Zy(e c:Int):Int:=if e=0 then c else e
def Es{e c:Int}(j:PP 62 [.agg [x0,x1,x2,x3,x4,x5],.agg [s0,s1,s2,s3]] (.tup [.agg [L p],I e]))(hc:e=0->PP 45 [.agg [x0,x1,x2,x3,x4,x5],.agg [L p]] (I c))
  (h:S id=.cells v 71 [t,s0,s1,s2,s3,x0,x1,x2,x3,x4,x5,r0,r1,r2,r3,r4,r5]) :
  SP 34 [.ptr id v 0] S (λq S'=>q=I (Zy e c)/\S'=S.set id (.cells v 71
   (if Zy e c=0 then [t,s0,s1,s2,s3,x0,x1,x2,x3,x4,x5,I 4,r1,r2,r3,r4,L p] else [t,s0,s1,s2,s3,x0,x1,x2,x3,x4,x5,r0,r1,r2,r3,r4,r5]))):=by
 have a:S=S.set id (.cells v 71 [t,s0,s1,s2,s3,x0,x1,x2,x3,x4,x5,r0,r1,r2,r3,r4,r5]):=(Qu S id _ h).symm;unfold Zy;refine i' func34 λnx g=>?_;have b:id<nx:=jD g h EA;have d:=λobs=>(zL (S:=S) (obs:=obs) b).trans h;have k:∀(A:Ob) obs,ext (S.set id A) nx obs id=A:=λA obs=>(zL b).trans (q11 _ _ _);have g1:¬nx<=id:=D9;refine EJ ?_;refine aG (some [id]) RC (zq d g1) ?_;refine zK (j) (zq d g1) ?_;intro v0;refine ze (EJ ?_);by_cases f:e=0;case neg =>
  simp only[if_neg f];refine zo (by simp[f]) ?_;refine EJ ?_;exact zj ⟨_,_,rfl,⟨by simp[zr],a⟩,ye g⟩
 have i:=hc f;clear hc;simp only[if_pos f];subst f;refine aC ?_;refine ze (aG (some [id,nx]) RJ (zq d g1) ?_);refine zK (i) (zq d g1) ?_;refine EJ ?_;by_cases h2:c=0;case neg =>
  rw[if_neg h2];refine zo (by simp[h2]) ?_;refine EJ ?_;exact zj ⟨_,_,rfl,⟨by simp[zr],a⟩,ye g⟩
 subst h2;rw[if_pos rfl];refine aC (aG (some [nx]) (pures [0,1,2,3,4,5] (.alt 6 (pures [7,8,9] (.alt 10 (.done) .stop)) .stop)) (zD d k g1) ?_)
 repeat' refine And.intro ?_ ?_
 all_goals
  refine EJ ?_;exact zj ⟨_,_,rfl,⟨by simp[zr],rfl⟩,ye (jr g b _)⟩
def Zwz{c:Int}{ds:List Int}(hc:PP 46 [.agg [x0,x1,x2,x3,x4,x5],.agg [r5]] (I c))(i:PP 47 [.agg [x0,x1,x2,x3,x4,x5],.agg [r5]] (I z))(e:PP 49 [.agg [x0,x1,x2,x3,x4,x5],.agg [r5]] (L ds))
  (f:S id=.cells v 71 [t,s0,s1,s2,s3,x0,x1,x2,x3,x4,x5,r0,r1,r2,r3,r4,r5]) :
  SP 35 [.ptr id v 0] S (λq S'=>q=I 0/\S'=S.set id (.cells v 71 [t,s0,s1,s2,s3,x0,x1,x2,x3,x4,x5,r0,r1,I c,I z,L ds,r5])):=by
 refine i' func35 λnx g=>?_;have a:id<nx:=jD g f EA;have b:=λobs=>(zL (S:=S) (obs:=obs) a).trans f;have d:∀(A:Ob) obs,ext (S.set id A) nx obs id=A:=λA obs=>(zL a).trans (q11 _ _ _);have g1:¬nx<=id:=D9;refine EJ ?_;refine aG (some []) R5 (zD b d g1) ?_
 repeat' refine And.intro ?_ ?_
 all_goals
  refine zK (hc) (zD b d g1) ?_;refine aG (some []) R5 (zD b d g1) ?_
  repeat' refine And.intro ?_ ?_
  all_goals
   refine zK (i) (zD b d g1) ?_;refine aG (some []) R5 (zD b d g1) ?_
   repeat' refine And.intro ?_ ?_
   all_goals
    refine zK (e) (zD b d g1) ?_;refine EJ ?_;exact zj ⟨_,_,rfl,⟨by simp[zr],rfl⟩,ye (jr g a _)⟩
end
structure PlanS (n K:Nat) (p:zG):Prop where
 len:p.length=n
 ok:∀d∈p,DayOk d/\d.flatten.length<=K/\d.length<=K
def kO{x:Inst}{s:Stop}{K:Nat}(hx:x.y.length<=1048576)(h1:DayOk d)(h2:d.flatten.length<=K)(h3:d.length<=K)(a:K<=100000):DayOk (qm x d s).1/\(qm x d s).1.flatten.length<=K+1/\(qm x d s).1.length<=K+1:=by
 refine⟨pD hx h1 D9 D9,?_,?_⟩
 .cases hi:(qm x d s).2 with
  |true=>rw[(gG hi).length_eq,Ae];omega
  |false=>rw[oP hi];omega
 grind[qm,xS]
def ZwA(x:Inst)(p:zG)(c:Nat){K:Nat}(a0:n<=1000)(hK:K<=100000)(hx:x.y.length<=1000)(hc:c<x.y.length)(hp:PlanS n K p):PP 314 [.agg (zE x),.agg [L p],I c] (L (p.map (uA x (u6 x c)))):=by
 have i:=tC x c;rw[show (decide (0<=(c:Int))&&decide ((c:Int)<x.y.length))=true from by simp;omega]at i;obtain⟨cu,a2,a1,-,-,e1,o⟩:=el 8 rfl x.y c hc;have u:=e1 1 D9;have j:u6 x c=⟨c,if cu.kind=1 then cu.O else 1⟩:=by unfold u6;rw[Aa,a1];rfl
 have v:p.length<=1000:=by have:=hp.len;omega
 refine c9 func314 λS nx hd=>?_;intro v0 v1;refine EJ ?_;intro t;refine ze (qg (nx:=nx) (σ:=Unit) (λ_=>True) (λ_=>[(3,.ptr nx v0 0),(4,.ptr (nx+1) v1 0),(7,.ptr (nx+2) t 0)]) (λ_=>S) (λ_=>[.cells v0 25 (zE x),.cells v1 31 [L p],.cells t 101 [I c,I (u6 x c).q]]) ?_ ?_);by_cases g:cu.kind=1;rw[if_pos g]at j;refine aF [(3,19)] (zD o hc g) ?_;refine yK [(3,19)] i (zD o hc g) ?_;refine zo (by simp[g]) ?_;refine zi [] (zq u hc) ?_;exact zY () [] n' EA rfl (by simp[j]);rw[if_neg g]at j;refine aF [(3,19)] (zD o hc g) ?_;refine yK [(3,19)] i (zD o hc g) ?_;refine zp (by simp[g]) ?_;exact zk (zY () [] n' EA rfl (by simp[j]));intro _ _;have l:(u6 x c).c=c:=rfl;generalize a3:u6 x c=s at l;clear j;refine EJ ?_;refine ze (qa 8 3 1 rfl λv3=>?_);refine EJ ?_;refine zn (zF (λst:Nat × List Int × Nat=>st.1<=p.length/\st.2.1=(p.take st.1).map (uA x s)) (λ(k,out,w)=>[(3,.ptr nx v0 0),(7,.ptr (nx+2) t 0),(8,.sl (nx+3) w 1 0 out.length),(36,L p),(37,I p.length),(38,I k)]) (λ(k,out,w)=>[.cells v0 25 (zE x),.cells v1 31 [L p],.cells t 101 [I c,I s.q],.cells w 3 (out.flatMap enc)]) (λst=>p.length-st.1) (0,[],v3) [] EA EA EA ?_);rintro⟨k,out,w⟩ ⟨g,ho⟩;simp only at g ho ⊢;have a4:out.length=k:=by rw[ho];simp;omega
 refine EJ ?_;refine ze (zA rfl (λa=>?_) (λa=>?_))
 .simp at a;obtain⟨d,tl,b1,b2,b3,f0⟩:=zH rfl p k a;obtain⟨g1,g3,g4⟩:=hp.ok d (Ab b1);have g5:=(kO (x:=x) (s:=s) D9 g1 g3 g4 hK).1;have f:=gN x d s D9 g1 D9;have y:=WD x d g1;have m:=WD x _ g5;have b:uA x s d=if (qm x d s).2=true then max 0 (W (W (yl x (qm x d s).1)-W (yl x d))) else 4294967296:=rfl;rw[l]at f;generalize qm x d s=r at *;obtain⟨e,ok⟩:=r;simp only at f m b;generalize W (yl x d)=z1 at *;generalize W (yl x e)=z2 at *;have z:1<=p.length-k:=D9;refine zk (aA (aF [] (zD f0 a z) ?_));intro v4;refine EJ ?_;refine ze (EJ ?_);refine zu f ?_;intro v5;refine EJ ?_;cases ok with
  |true =>
  rw[if_pos rfl]at b;have h:jU (0:Int) (W (z2-z1))=uA x s d:=by rw[b];unfold jU;split<;>omega
  refine zo rfl (zC (some [nx,nx+4,nx+5]) Re n' ?_);refine zK (m) h ?_;refine zK (y) h ?_;refine zg ?_;refine⟨by omega,?_⟩;refine zg ?_;exact zv (k+1,out++[uA x s d],w+1) [_,_] ⟨a,by rw[b3,map_append,ho];rfl⟩ ED (by simp[zy k D9]) rfl (by simp[b];exact⟨rfl,rfl⟩)
  |false =>
  rw[if_neg EG]at b;refine zp rfl (zk (zg ?_));refine⟨by omega,?_⟩;refine zg ?_;exact zv (k+1,out++[uA x s d],w+1) [_,_] ⟨a,by rw[b3,map_append,ho];rfl⟩ ED (by simp[zy k D9]) rfl (by simp[b];exact⟨rfl,rfl⟩)
 simp at a;obtain rfl:k=p.length:=D9;rw[Ah]at ho;refine zB (yc 3 rfl ?_);refine EJ ?_;exact zj (zm hd EB (by simp[zr,ho]))
def Qx(x:Inst)(p:zG):Bool:=p.all λd=>decide (yx x d=0)
def ZwB(x:Inst)(p:zG){K:Nat}(l:n<=1000)(o:K<=100000)(hx:x.y.length<=1000)(h:PlanS n K p):PP 291 [.agg (zE x),.agg [L p]] (B (Qx x p)):=by
 have b:p.length<=1000:=by have:=h.len;omega
 refine c9 func291 λS nx a=>?_;intro v0 v1;refine ze (EJ ?_);refine zn (zF (λk:Nat=>k<=p.length/\∀d∈p.take k,yx x d=0) (λk=>[(2,.ptr nx v0 0),(8,L p),(9,I p.length),(10,I k)]) (λ_=>[.cells v0 25 (zE x),.cells v1 31 [L p]]) (λk=>p.length-k) 0 [] EA EA EA ?_);rintro k ⟨r,c⟩;refine EJ ?_;refine ze (zA rfl (λhc=>?_) (λhc=>?_));simp at hc;obtain⟨d,tl,i,s,a3,m⟩:=zH rfl p k hc;obtain⟨g1,u,g3⟩:=h.ok d (Ab i);have f:=fZ x d D9 g1.n g1.t D9;have g:1<=p.length-k:=D9;refine zk (aA (aF [] (zD m hc g) ?_));intro v;by_cases h0:yx x d=0;rw[h0]at f;refine EJ ?_;refine zu f ?_;refine aC (zg ?_);exact zv (k+1) [_] ⟨hc,λe j=>by rw[a3]at j;obtain q|q:=AC.1 j;exact c e q;rw[AX.1 q];exact h0⟩ D9 (by simp[zy k D9]) rfl EB;have ho:Qx x p=false:=by unfold Qx;rw[Bl];exact⟨d,Ab i,by simpa using h0⟩
 rw[ho];generalize yx x d=z at *;refine EJ ?_;refine zu f ?_;refine zo (by simp[h0]) ?_;refine EJ ?_;exact zj (zm a rfl rfl);simp at hc;obtain rfl:k=p.length:=D9;rw[Ah]at c;have ho:Qx x p=true:=by unfold Qx;rw[Av];intro d a;simpa using c d a
 rw[ho];refine zB (EJ ?_);exact zj (zm a rfl rfl)
def YP(x:Inst)(c:Nat)(st:zG × Bool)(w:Visit):zG × Bool :=
 if st.2=true then (if (qm x (st.1.getD w.d.toNat []) ⟨c,w.q⟩).2=true then (st.1.set w.d.toNat (qm x (st.1.getD w.d.toNat []) ⟨c,w.q⟩).1,true) else ([],false)) else st
def uD(x:Inst)(n:Nat)(p:zG)(c:Nat):zG × Bool :=
 if (jp n x.R (x.y.getD c default) (p.map (uA x (u6 x c)))).2=true then (jp n x.R (x.y.getD c default) (p.map (uA x (u6 x c)))).1.foldl (YP x c) (p,true) else ([],false)
theorem kP(x:Inst)(c:Nat):∀v:List Visit,v.foldl (YP x c) ([],false)=([],false)
 |[]=>rfl
 |w::v=>by rw[Ba];exact kP x c v
def ZwC(x:Inst)(s:Stop)(p:zG):∀z∈p.map (uA x s),zU z:=by intro z a;obtain⟨d,-,rfl⟩:=Ak.1 a;unfold uA;split;have:=iR (W (yl x (qm x d s).1)-W (yl x d));unfold zU at *;omega;unfold zU;omega
theorem PlanS.sizes{K:Nat}(h:PlanS n K p)(b:n<=1000)(e:K<=1000):p.length<=1000/\(∀d∈p,d.length<=1000)/\∀d∈p,∀t∈d,t.length<=1000:=by refine⟨by have:=h.len;omega,λd a=>by have:=(h.ok d a).2.2;omega,λd a t c=>?_⟩;have:=dL d t c;have:=(h.ok d a).2.1;omega
theorem PlanS.set{K:Nat}(h:PlanS n K p){e:zt}(a:DayOk e/\e.flatten.length<=K+1/\e.length<=K+1):PlanS n (K+1) (p.set k e):=by refine⟨by rw[Bv];exact h.len,λd b=>?_⟩;obtain q|q:=Bo b;obtain⟨g1,c,g3⟩:=h.ok d q;exact⟨g1,by omega,by omega⟩;rw[q];exact a
def Et{x:Inst}(h:InstA x n){K:Nat}(m:K<=10000)(k:PlanS n K p){c:Nat}(hc:c<x.y.length)(h0:(uD x n p c).2=true):PlanS n (K+64) (uD x n p c).1:=by
 have hx:=h.h.y;unfold uD at h0 ⊢;split at h0;rename_i h1;rw[if_pos h1];have g:x.y.getD c default∈x.y:=by rw[Aa,Ac hc];exact AY hc
 have j:=dR (h.aa _ g) h.ae x.R _ h1;have hl:=j.len;generalize (jp n x.R (x.y.getD c default) (p.map (uA x (u6 x c)))).1=v at *;clear j h1;have key:∀(v:List Visit) (q:zG) (K:Nat),K+v.length<=10100->PlanS n K q->(v.foldl (YP x c) (q,true)).2=true->PlanS n (K+v.length) (v.foldl (YP x c) (q,true)).1:=by
  intro v;induction v with
  |nil=>intro q K _ f _;exact f
  |cons w v l =>
  intro q K i f a;rw[Ae]at i ⊢;rw[Ba]at a ⊢;have hs:YP x c (q,true) w=if (qm x (q.getD w.d.toNat []) ⟨c,w.q⟩).2=true then (q.set w.d.toNat (qm x (q.getD w.d.toNat []) ⟨c,w.q⟩).1,true) else ([],false):=rfl;rw[hs]at a ⊢;split at a;rename_i hi;rw[if_pos hi];rw[show K+(v.length+1)=(K+1)+v.length by omega];refine l _ _ D9 (f.set ?_) a;have b:DayOk (q.getD w.d.toNat [])/\(q.getD w.d.toNat []).flatten.length<=K/\(q.getD w.d.toNat []).length<=K:=by
   rw[Aa];cases e:q[w.d.toNat]? with
   |none=>exact⟨⟨by simp,by simp,by simp⟩,by simp,by simp⟩
   |some d=>exact f.ok d (Ab e)
  exact kO D9 b.1 b.2.1 b.2.2 D9;rw[kP]at a;cases a
 have:=key v p K D9 k h0;exact⟨this.len,λd b=>by obtain⟨g1,o,g3⟩:=this.ok d b;exact⟨g1,by omega,by omega⟩⟩;cases h0
def ZwD{x:Inst}(h:InstA x n){K:Nat}(hK:K<=900)(hp:PlanS n K p)(c:Nat)(hc:c<x.y.length):PP 290 [.agg (zE x),.agg [L p],I c] (.tup [.agg [L (uD x n p c).1],B (uD x n p c).2]):=by
 have hx:=h.h.y;have j:=h.ae;have a7:=h.days;have d5:=hp.len;obtain⟨a8,a9,b7⟩:=hp.sizes D9 D9;obtain⟨cu,d6,a1,-,-,e1,e0⟩:=el 8 rfl x.y c hc;have o:=Ab a1;have b8:x.y.getD c default=cu:=by rw[Aa,a1];rfl
 have c6:=ZwA x p c (n:=n) (K:=K) D9 D9 hx hc hp;have hI:=ZwC x (u6 x c) p;have y:(p.map (uA x (u6 x c))).length<=1000:=by rw[length_map];omega
 have l:uD x n p c=if (jp n x.R cu (p.map (uA x (u6 x c)))).2=true then (jp n x.R cu (p.map (uA x (u6 x c)))).1.foldl (YP x c) (p,true) else ([],false):=by unfold uD;rw[b8]
 have b:=dR (h.aa cu o) j x.R (p.map (uA x (u6 x c)));rw[l];generalize p.map (uA x (u6 x c))=pr at *;have a0:PP 224 [.agg (yf cu),I x.days,I x.R,L pr] (.tup [L (jp n x.R cu pr).1,B (jp n x.R cu pr).2]):=by rw[a7];exact λS=>ks cu n x.R (.inl rfl) hI y (h.aa cu o) (h.D cu o) j
 clear l;generalize jp n x.R cu pr=r at *;obtain⟨v,ok⟩:=r;simp only at a0 b ⊢;refine c9 func290 λS nx hd=>?_;intro v0 v1 v2;refine aG (some [nx,nx+1]) Rw (zq e0 hc) ?_;refine zK (c6) (zq e0 hc) ?_;refine zK (a0) (zq e0 hc) ?_;cases ok with
 |false =>
 rw[if_neg EG];refine ze (EJ ?_);refine zo rfl (EJ ?_);refine z8 2 0 rfl rfl ?_;exact EK hd
 |true =>
 have hg:=b rfl;have d7:=hg.len;rw[if_pos rfl];refine ze (EJ ?_);refine zp rfl (zk (EJ ?_));refine λa2=>((kJ p a8 a9 b7 xP).mono ?_).v;rintro _ _ ⟨v3,rfl,rfl⟩;refine⟨_,_,VT 3 _,xQ [] Nat.add_assoc a2 ?_⟩;intro v4;refine ze (EJ ?_);refine zn (zF (λs:Nat × zG × Nat=>s.1<=v.length/\(v.take s.1).foldl (YP x c) (p,true)=(s.2.1,true)/\PlanS n (K+s.1) s.2.1) (λ(k,q,w)=>[(2,I c),(3,.ptr nx v0 0),(6,.ptr (nx+2) v2 0),(10,.ptr (nx+7) v4 0),(38,L v),(39,I v.length),(40,I k)]) (λ(k,q,w)=>[.cells v0 25 (zE x),.cells v1 31 [L p],.cells v2 31 [yI],.dead,.dead,.dead,.cells w 96 (q.flatMap enc),.cells v4 31 [.sl (nx+6) w 1 0 q.length]]) (λs=>v.length-s.1) (0,p,v3) [] ⟨by simp,by simp,hp⟩ EA EA ?_);rintro⟨k,q,w⟩ ⟨hk,hq,i⟩;simp only at hk hq i ⊢;have d8:=i.len;refine EJ ?_;refine ze (zA rfl (λa=>?_) (λa=>?_))
 .simp at a;obtain⟨u,tl,b1,b2,b3,f1,f0⟩:=el 2 rfl v k a;have hu:=hg.ok u (Ab b1);obtain⟨z,t⟩:∃z:Nat,u.d=z:=⟨u.d.toNat,by omega⟩;have f:z<q.length:=D9;obtain⟨d,d9,d1,d2,d3,d0⟩:=zH rfl q z f;obtain⟨g1,g2,g3⟩:=i.ok d (Ab d1);have m:=gN x d ⟨c,u.q⟩ D9 g1 D9;have a3:=kO (x:=x) (s:=⟨c,u.q⟩) D9 g1 g2 g3 D9;have g:(v.take (k+1)).foldl (YP x c) (p,true)=if (qm x d ⟨c,u.q⟩).2=true then (q.set z (qm x d ⟨c,u.q⟩).1,true) else ([],false):=by
   rw[b3,BI,hq];have e9:q.getD u.d.toNat []=d:=by rw[t,AN,Aa,d1];rfl
   show YP x c (q,true) u=_;unfold YP;rw[if_pos rfl,e9,t,AN]
  generalize qm x d ⟨c,u.q⟩=e at *;obtain⟨d',c7⟩:=e;simp only at m g a3;have a4:1<=q.length-z:=D9;have c8:(q.flatMap enc:List PV).length=q.length:=qJ q;have d4:=iP (α:=zt) rfl q z d' f;have a5:yr (q.flatMap enc) z [L d']=(q.set z d').flatMap enc:=by simpa using d4
  refine zk (aA (aF [] (zD f0 a t) ?_));intro v5;refine EJ ?_;intro v6;refine aG (some [nx,nx+6,nx+7,nx+8,nx+9]) RC (zM d0 f a4 t) ?_;refine zK (m) (zM d0 f a4 t) ?_;intro v7;cases c7 with
  |false =>
  rw[if_neg EG]at g;have a6:v.foldl (YP x c) (p,true)=([],false):=by conv=>lhs;rw[<-List.take_append_drop (k+1) v,BI,g,kP]
  rw[a6];refine ze (EJ ?_);refine zo rfl (EJ ?_);refine z8 2 0 rfl rfl ?_;exact EK hd
  |true =>
  rw[if_pos rfl]at g;refine ze (EJ ?_);refine zp rfl (zk (zi [] (zM f a5 c8 t) ?_));refine⟨by omega,?_⟩;refine zg ?_;exact zv (k+1,q.set z d',w) [_,_,_] ⟨a,g,i.set a3⟩ ED (by simp[zy k D9]) rfl (by simp;exact⟨rfl,rfl,rfl⟩)
 simp at a;obtain rfl:k=v.length:=D9;rw[Ah]at hq;rw[hq];refine zB (yc 6 rfl ?_);refine EJ ?_;exact EK hd
theorem PlanS.wo{K:Nat}(h:PlanS n K p)(c:Int):PlanS n K (XT c p):=by
 refine⟨by unfold XT;rw[length_map];exact h.len,λe f=>?_⟩;obtain⟨d,g,rfl⟩:=Ak.1 f;obtain⟨g1,i,g3⟩:=h.ok d g;have hl:=pC c d;have hm:∀t∈wF c d,∃u∈d,t=vu c u:=λt a=>by obtain⟨u,b,e⟩:=Ak.1 (Bu.1 a).1;exact⟨u,b,e.symm⟩
 refine⟨⟨by have:=g1.n;omega,λt a=>?_,λt a s hs=>?_⟩,?_,by omega⟩;obtain⟨u,b,rfl⟩:=hm t a;exact AF (gP c u) (g1.t u b);obtain⟨u,b,rfl⟩:=hm t a;exact g1.s u b s (Bu.1 hs).1;grind[TW]
structure PlanG (x:Inst) (n:Nat) (p:zG):Prop where
 a:InstA x n
 af:x.y.length<=6
 len:p.length=n
 ab:∀d∈p,yx x d=0
theorem PlanG.m{x:Inst}(h:PlanG x n p):PlanM x p:=⟨by have:=h.af;omega,h.a.h,by have:=h.len;have:=h.a.ae;omega,h.ab⟩
theorem PlanG.s{x:Inst}(h:PlanG x n p):PlanS n 6 p:=by refine⟨h.len,λd a=>?_⟩;obtain⟨h1,h2,h3⟩:=Qq (by have:=h.af;omega) (h.ab d a);have:=h.af;exact⟨h3.ok,by omega,by omega⟩
theorem PlanG.serves{x:Inst}(h:PlanG x n p):Serves x p:=by
 have hs:=h.s;have hn:=h.a.ae;have hl:=hs.len;have g:ZZ p<=1000*p.length:=by
  have:∀p:zG,(∀d∈p,d.flatten.length<=1000)->ZZ p<=1000*p.length:=by
   intro p;induction p with
   |nil=>intro _;simp[ZZ]
   |cons d p i =>
   intro h;have:=i λe j=>h e (by simp[j]);have:=h d EA;simp only[ZZ,Aw,BE,Ae]at *;omega
  exact this p λd b=>by have:=(hs.ok d b).2.1;omega
 refine⟨⟨by omega,λd b=>by have:=(hs.ok d b).2.2;omega,λd b=>(hs.ok d b).1.t,by rw[iX];omega⟩,λs c=>?_,by omega⟩;obtain⟨d,b,f⟩:=dD p 0 s c;have:=W4 (h.ab d b) s.1 f;grind[jx]
theorem PlanG.cost{x:Inst}(h:PlanG x n p):PP 46 [.agg (zE x),.agg [L p]] (I (qW x p)) :=
 sP x p h.serves (by have:=h.af;omega) (λc hc=>(h.a.aa c hc).ad) λd b=>(h.s.ok d b).1
theorem PlanG.clone{x:Inst}(h:PlanG x n p):PP 189 [.agg [L p]] (.agg [L p]):=by obtain⟨h1,h2,h3⟩:=h.s.sizes (by have:=h.a.ae;omega) D9;exact Zwh p h1 h2 h3
theorem PlanS.open{x:Inst}{K:Nat}(h:InstA x n)(a:x.y.length<=6)(b:PlanS n K p)(ho:Qx x p=true):PlanG x n p :=
 ⟨h,a,b.len,λd c=>by simp_all[Qx]⟩
def Z3(cs:List Nat)(p:zG):zG:=cs.foldl (λq (c:Nat)=>XT c q) p
def bj(x:Inst)(n:Nat)(st:zG × Bool)(c:Nat):zG × Bool:=if st.2=true then uD x n st.1 c else st
def Zz(x:Inst)(n:Nat)(cs:List Nat)(q:zG):zG × Bool:=cs.foldl (bj x n) (q,true)
def vZ(x:Inst)(n:Nat)(p:zG)(cs:List Nat):zG × Bool :=
 if (Zz x n cs (Z3 cs p)).2=true then
  (if Qx x (Zz x n cs (Z3 cs p)).1=true/\¬qW x p<=qW x (Zz x n cs (Z3 cs p)).1 then ((Zz x n cs (Z3 cs p)).1,true) else (p,false))
 else (p,false)
theorem kQ(x:Inst)(n:Nat)(q:zG):∀cs:List Nat,cs.foldl (bj x n) (q,false)=(q,false)
 |[]=>rfl
 |c::cs=>by rw[Ba];exact kQ x n q cs
def Eu{x:Inst}(h:PlanG x n p)(cs:List Nat)(hl:cs.length<=10)(a3:∀c∈cs,c<x.y.length):PP 263 [.agg (zE x),.agg [L p],L (cs.map λ(c:Nat)=>(c:Int))] (.tup [.agg [L (vZ x n p cs).1],B (vZ x n p cs).2]):=by
 have hA:=h.a;have h6:=h.af;have c6:=hA.ae;have a0:=h.clone;have b7:=h.s;have j:=h.cost;obtain⟨zs,u⟩:∃zs,zs=cs.map λ(c:Nat)=>(c:Int):=⟨_,rfl⟩;have a4:zs.length=cs.length:=by rw[u,length_map]
 have a5:∀(k c:Nat),cs[k]?=some c->zs[k]?=some (c:Int):=λk c e=>by rw[u,Ai,e];rfl
 have b:vZ x n p cs=if (Zz x n cs (Z3 cs p)).2=true then (if Qx x (Zz x n cs (Z3 cs p)).1=true/\¬qW x p<=qW x (Zz x n cs (Z3 cs p)).1 then ((Zz x n cs (Z3 cs p)).1,true) else (p,false)) else (p,false):=rfl;rw[<-u];clear u;refine c9 func263 λS nx v=>?_;intro v0 v1 v2;refine EJ ?_;intro v3;refine ze (EJ ?_);refine zn (zF (λs:Nat × zG=>s.1<=zs.length/\s.2=Z3 (cs.take s.1) p/\PlanS n 6 s.2) (λ(k,q)=>[(2,L zs),(3,.ptr nx v0 0),(4,.ptr (nx+1) v1 0),(6,.ptr (nx+2) v2 0),(8,.ptr (nx+3) v3 0),(9,B true),(15,L zs),(16,I zs.length),(17,I k)]) (λ(k,q)=>[.cells v0 25 (zE x),.cells v1 31 [L p],.cells v2 31 [yI],.cells v3 31 [L q]]) (λs=>zs.length-s.1) (0,p) [] ⟨by simp,by simp[Z3],b7⟩ EA EA ?_);rintro⟨k,q⟩ ⟨hk,hq,i⟩;simp only at hk hq i ⊢;refine EJ ?_;refine ze (zA rfl (λf=>?_) (λf=>?_));simp at f;obtain⟨c,hc⟩:∃c,cs[k]?=some c:=⟨_,Ac D9⟩;have a1:=a3 c (Ab hc);obtain⟨z,tl,b1,b2,b3,f0⟩:=zH rfl zs k f;obtain rfl:z=(c:Int):=by have:=a5 k c hc;rw[b1]at this;exact inj this
 have a6:=tC x c;rw[show (decide (0<=(c:Int))&&decide ((c:Int)<x.y.length))=true from by simp;omega]at a6;obtain⟨s1,s2,s3⟩:=i.sizes D9 D9;have b8:=TV q c s1 (λd v=>by have:=s2 d v;omega) (λd v t ht=>by have:=s3 d v t ht;omega);have a2:XT c q=Z3 (cs.take (k+1)) p:=by rw[hq,Ax,hc];simp[Z3]
 have w:=i.wo c;have w:=i.wo c;generalize XT c q=q2 at *;refine zk (aA (aF [] (zq f0 f) ?_));refine ze (EJ ?_);refine zu a6 ?_;refine aC (zg ?_);refine zu b8 ?_;refine zg ?_;exact zv (k+1,q2) [] ⟨f,a2,w⟩ ED (by simp[zy k D9]) rfl EA;simp at f;obtain rfl:k=zs.length:=D9;rw[a4,Ah]at hq;refine zB ?_;refine ze (EJ ?_);refine zn (zF (λs:Nat × zG=>s.1<=zs.length/\(cs.take s.1).foldl (bj x n) (q,true)=(s.2,true)/\PlanS n (6+64*s.1) s.2) (λ(k,q)=>[(2,L zs),(3,.ptr nx v0 0),(4,.ptr (nx+1) v1 0),(6,.ptr (nx+2) v2 0),(8,.ptr (nx+3) v3 0),(31,L zs),(32,I zs.length),(33,I k)]) (λ(k,q)=>[.cells v0 25 (zE x),.cells v1 31 [L p],.cells v2 31 [yI],.cells v3 31 [L q]]) (λs=>zs.length-s.1) (0,q) [] ⟨by simp,by simp,i⟩ EA EA ?_);rw[<-hq]at b;clear i hq hk f;rintro⟨k,r⟩ ⟨hk,hr,l⟩;simp only at hk hr l ⊢;refine EJ ?_;refine ze (zA rfl (λf=>?_) (λf=>?_))
 .simp at f;obtain⟨c,hc⟩:∃c,cs[k]?=some c:=⟨_,Ac D9⟩;have a1:=a3 c (Ab hc);obtain⟨z,tl,b1,b2,b3,f0⟩:=zH rfl zs k f;obtain rfl:z=(c:Int):=by have:=a5 k c hc;rw[b1]at this;exact inj this
  have y:=ZwD hA (K:=6+64*k) D9 l c a1;have a7:=Et hA (K:=6+64*k) D9 l a1;have a8:(cs.take (k+1)).foldl (bj x n) (q,true)=uD x n r c:=by rw[Ax,hc,BI,hr];rfl
  generalize uD x n r c=e at *;obtain⟨r2,ok⟩:=e;simp only at y a7;refine zk (aA (aF [] (zq f0 f) ?_));refine EJ ?_;refine zu y ?_;cases ok with
  |false =>
  have m:Zz x n cs q=(r2,false):=by unfold Zz;conv=>lhs;rw[<-List.take_append_drop (k+1) cs,BI,a8,kQ]
  rw[m,if_neg EA]at b;rw[b];refine EJ ?_;refine zo rfl (EJ ?_);refine zu a0 ?_;exact EK v
  |true =>
  refine EJ ?_;refine zp rfl (zk (zg ?_));exact zv (k+1,r2) [] ⟨f,a8,by have:=a7 rfl;rw[show 6+64*(k+1)=6+64*k+64 by omega];exact this⟩ ED (by simp[zy k D9]) rfl EA
 simp at f;obtain rfl:k=zs.length:=D9;rw[a4,Ah]at hr;have m:Zz x n cs q=(r,true):=hr;rw[m,if_pos rfl]at b;have o:=ZwB x r (n:=n) (K:=6+64*zs.length) D9 D9 D9 l;refine zB ?_;cases ho:Qx x r with
 |false =>
 rw[ho]at o;rw[ho,if_neg EA]at b;rw[b];refine ze (aG (some [nx,nx+1,nx+3]) Rt zz ?_);refine zK (o) zz ?_;refine zo rfl (EJ ?_);refine zu a0 ?_;exact EK v
 |true =>
 rw[ho]at o;have a9:=(l.open hA h6 ho).cost;generalize qW x r=z2 at *;generalize qW x p=z1 at *
 by_cases g:z1<=z2;rw[if_neg (λq=>q.2 g)]at b;rw[b];refine ze (aG (some [nx,nx+1,nx+3]) Rt g ?_);refine zK (o) g ?_;refine zK (a9) g ?_;refine zK (j) g ?_;refine zo rfl (EJ ?_);refine zu a0 ?_;exact EK v;rw[if_pos ⟨ho,g⟩]at b;rw[b];refine ze (aG (some [nx,nx+1,nx+3]) Rt g ?_);refine zK (o) g ?_;refine zK (a9) g ?_;refine zK (j) g ?_;refine zp rfl (zk (EJ ?_));exact EK v
def ZwE{x:Inst}(h:PlanG x n p)(c:Nat)(hc:c<x.y.length):PP 231 [.agg (zE x),.agg [L p],I c] (.tup [.agg [L (vZ x n p [c]).1],B (vZ x n p [c]).2]):=by have a:=Eu h [c] EA (by simpa using hc);simp only[Aw,Bf]at a;refine c9 func231 λS nx b=>?_;intro v0 v1 d;refine EJ ?_;refine zu a ?_;exact EK b
def Yk(x:Inst)(n:Nat)(p:zG)(a b:Nat):zG × Bool:=if a=b then (p,false) else vZ x n p [a,b]
def ZwF{x:Inst}(h:PlanG x n p)(a b:Nat)(f:a<x.y.length)(hb:b<x.y.length):PP 232 [.agg (zE x),.agg [L p],I a,I b] (.tup [.agg [L (Yk x n p a b).1],B (Yk x n p a b).2]):=by have d:=h.clone;unfold Yk;by_cases c:a=b;rw[if_pos c];refine c9 func232 λS nx e=>?_;intro v0 v1 g;refine ze (EJ ?_);refine zo (by simp[c]) ?_;refine EJ ?_;refine zu d ?_;exact EK e;rw[if_neg c];have hn:=Eu h [a,b] EA (by simpa using ⟨f,hb⟩);simp only[Aw,Bf]at hn;refine c9 func232 λS nx e=>?_;intro v0 v1 g;refine ze (EJ ?_);refine zp ED ?_;refine zk (EJ ?_);refine zu hn ?_;exact EK e
theorem Ev{x:Inst}(h:InstA x n):∀(cs:List Nat) (K:Nat) (q:zG),(∀c∈cs,c<x.y.length)->K+64*cs.length<=1000->PlanS n K q->(Zz x n cs q).2=true->PlanS n (K+64*cs.length) (Zz x n cs q).1
 |[],K,q,_,_,b,_=>b
 |c::cs,K,q,hc,f,b,a=>by
  rw[Ae]at f ⊢;have e:Zz x n (c::cs) q=cs.foldl (bj x n) (uD x n q c):=rfl;rw[e]at a ⊢;cases ho:(uD x n q c).2 with
  |false =>
  have:uD x n q c=((uD x n q c).1,false):=by rw[<-ho]
  rw[this,kQ]at a;cases a
  |true =>
  have h1:=Et h D9 b (hc c EA) ho;have:uD x n q c=((uD x n q c).1,true):=by rw[<-ho]
  rw[this]at a ⊢;have:=Ev h cs (K+64) _ (λc d=>hc c (by simp[d])) D9 h1 a;rw[show K+64*(cs.length+1)=K+64+64*cs.length by omega];exact this
theorem Ew{K:Nat}:∀(cs:List Nat) (p:zG),PlanS n K p->PlanS n K (Z3 cs p)
 |[],_,h=>h
 |c::cs,p,h=>Ew cs _ (h.wo c)
def kR{x:Inst}(h:PlanG x n p)(cs:List Nat)(hl:cs.length<=10)(b:∀c∈cs,c<x.y.length):PlanG x n (vZ x n p cs).1/\qW x (vZ x n p cs).1<=qW x p:=by unfold vZ;split;rename_i h1;split;rename_i h2;exact⟨(Ev h.a cs 6 _ b D9 (Ew cs p h.s) h1).open h.a h.af h2.1,by have:=h2.2;dsimp only;omega⟩;exact⟨h,Do _⟩;exact⟨h,Do _⟩
def Ex{x:Inst}(h:PlanG x n p)(a b:Nat)(c:a<x.y.length)(hb:b<x.y.length):PlanG x n (Yk x n p a b).1/\qW x (Yk x n p a b).1<=qW x p:=by unfold Yk;split;exact⟨h,Do _⟩;exact kR h [a,b] EA (by simpa using ⟨c,hb⟩)
def ZwG(op:BinOp)(x y:Int):0<=bits op .u64 x y/\bits op .u64 x y<18446744073709551616:=by have h:=wf_bits op .u64 x y;simp[Lit.wf,IntKind.min,IntKind.max,IntKind.signed,IntKind.bits]at h;omega
abbrev wv(s:Int):List PV:=[.sc (.int .u64 s)]
def yZ(s:Int):Int:=IntKind.u64.wrap (s+11400714819323198485)
def J7(s:Int):Int :=
 let a:=yZ s;let b:=IntKind.u64.wrap (bits .xor .u64 a (a.fdiv (2^30))*13787848793156543929);let c:=IntKind.u64.wrap (bits .xor .u64 b (b.fdiv (2^27))*10723151780598845931)
 bits .xor .u64 c (c.fdiv (2^31))
def ZwH(s:Int):0<=J7 s/\J7 s<18446744073709551616:=by unfold J7;exact ZwG _ _ _
def Qy{id:Nat}(a:yh nx S)(b:id<nx)(o:Ob):yh nx (S.set id o):=λi hi=>by rw[q10 _ _ _ _ D9];exact a i hi
theorem ZwI:IntKind.u64.bits=64:=rfl
def ZwJ(s:Int){id v:Nat}(b:S id=.cells v 205 (wv s)):SP 145 [.ptr id v 0] S (λq S'=>q=.sc (.int .u64 (J7 s))/\S'=S.set id (.cells v 205 (wv (yZ s)))):=by refine i' func145 λnx c=>?_;have a:id<nx:=qA c b EA;have d:=λobs=>(zL (S:=S) (obs:=obs) a).trans b;have e:=λ(o:Ob) obs=>(zL (S:=S.set id o) (obs:=obs) a).trans (q11 _ _ _);have g1:¬nx<=id:=D9;refine EJ ?_;refine aF [] (zq d g1) ?_;refine aF [] (zq e g1) ?_;refine EJ ?_;refine EJ ?_;refine EJ ?_;exact zj ⟨_,_,rfl,⟨by simp[zr,J7,yZ,ZwI],rfl⟩,ye (Qy c a _)⟩
def x7(s:Int)(n:Nat):Nat:=(J7 s).toNat%n
def X3(s:Int)(h:0<n):x7 s n<n:=Nat.mod_lt _ h
def bm(s:Int)(n:Nat)(h0:0<n)(hn:n<=4611686018427387904){id v:Nat}(c:S id=.cells v 205 (wv s)):SP 99 [.ptr id v 0,I n] S (λq S'=>q=I (x7 s n)/\S'=S.set id (.cells v 205 (wv (yZ s)))):=by
 have hb:=ZwH s;have g:=X3 s h0;have d:(J7 s).tmod (n:Int)=(x7 s n:Int):=by unfold x7;obtain⟨m,hm⟩:=Az hb.1;rw[hm,AN,Be D9];omega
 have e:IntKind.u64.wrap (n:Int)=n:=by rw[IntWalk.u64_in _ D9]
 have w2:i64.wrap (x7 s n:Int)=x7 s n:=wr _ D9 D9;have h:=λ(S:Store) c=>ZwJ s (S:=S) (id:=id) (v:=v) c;generalize J7 s=r at *;generalize x7 s n=k at *;refine i' func99 λnx f=>?_;have a:id<nx:=qA f c EA;have i:=λobs=>(zL (S:=S) (obs:=obs) a).trans c;refine EJ ?_;refine ze (EJ ?_);refine zp ED ?_;refine zk (aF [] (zD e d w2) ?_);refine λb=>((h _ (i _)).mono ?_).v;rintro _ _ ⟨rfl,rfl⟩;refine⟨S.set id (.cells v 205 (wv (yZ s))),[],qI _ a,?_⟩;have j:¬n=0:=D9;refine xQ [] (zM e d w2 j) b ?_;exact zj ⟨_,_,rfl,⟨by simp[zr],rfl⟩,ye (Qy f a _)⟩
def Ey(s:Int)(a:yh nx S):SP 97 [I s] S (λq S'=>∃v,q=.ptr nx v 0/\S'=S.set nx (.cells v 205 (wv (IntKind.u64.wrap s)))):=by refine ZI a func97 ntmps97 results97 ?_;refine EJ ?_;refine EJ ?_;intro v0;exact zj ⟨_,_,rfl,⟨v0,by simp[zr],rfl⟩,Xo (j:=0) a EA⟩
abbrev X4(x:Inst)(p:zG)(a o d:Nat)(b:Int):List PV:=[I x.days,I x.U,I x.R,I x.len,L x.y,L x.J,L p,I a,I o,I d,I b]
def ZwK{x:Inst}(h:PlanG x n p)(d:Nat)(b:Int):PlanG x n (Ze x p d b).1:=by unfold Ze;split;exact h;split;exact h;refine⟨h.a,h.af,by rw[Bv];exact h.len,λe f=>?_⟩;obtain q|q:=Bo f;exact h.ab e q;rw[q];rename_i h1 h2;have c:(d:Int).toNat<p.length:=D9;refine(Eh (by have:=h.af;omega) h.a.h (h.ab _ ?_) b).1;rw[Aa,Ac c];exact AY c
def ZwL{x:Inst}(h:PlanG x n p)(a o d:Nat)(b:Int)(j:a<x.y.length){id v:Nat}(e:S id=.cells v 265 (X4 x p a o d b)):
  SP 190 [.ptr id v 0] S (λ_ S'=>S'=S.set id (.cells v 265 (X4 x (vZ x n p [a]).1 a o d b))):=by
 have f:=ZwE h a j;generalize vZ x n p [a]=r at *;obtain⟨q,ok⟩:=r;simp only at f ⊢;refine i' func190 λnx g=>?_;have c:id<nx:=qA g e EA;have i:=λobs=>(zL (S:=S) (obs:=obs) c).trans e;have g1:¬nx<=id:=D9;refine zC (some []) (pures [0,1,2,3,5,6,7,9,10,11] (.alt 4 (.alt 8 (.alt 12 Rf .stop) (.alt 12 (.alt 8 Rf .stop) .stop)) (.alt 8 (.alt 4 (.alt 12 Rf .stop) (.alt 12 (.alt 4 Rf .stop) .stop)) (.alt 12 (.alt 4 (.alt 8 Rf .stop) (.alt 8 (.alt 4 Rf .stop) .stop)) .stop)))) (zq i g1) ?_
 repeat' refine And.intro ?_ ?_
 all_goals
  refine zK (f) (zq i g1) ?_;exact⟨_,_,rfl,by simp,ye (Qy g c _)⟩
def ZwM{x:Inst}(h:PlanG x n p)(a o d:Nat)(b:Int)(j:a<x.y.length)(ho:o<x.y.length){id v:Nat}(e:S id=.cells v 265 (X4 x p a o d b)):
  SP 191 [.ptr id v 0] S (λ_ S'=>S'=S.set id (.cells v 265 (X4 x (Yk x n p a o).1 a o d b))):=by
 have f:=ZwF h a o j ho;generalize Yk x n p a o=r at *;obtain⟨q,ok⟩:=r;simp only at f ⊢;refine i' func191 λnx g=>?_;have c:id<nx:=qA g e EA;have i:=λobs=>(zL (S:=S) (obs:=obs) c).trans e;have g1:¬nx<=id:=D9;refine zC (some []) (pures [0,1,2,3,5,6,7,9,10,11,13,14,15] (.alt 4 (.alt 8 (.alt 12 (.alt 16 R0 .stop) (.alt 16 (.alt 12 R0 .stop) .stop)) (.alt 12 (.alt 8 (.alt 16 R0 .stop) (.alt 16 (.alt 8 R0 .stop) .stop)) (.alt 16 (.alt 8 (.alt 12 R0 .stop) (.alt 12 (.alt 8 R0 .stop) .stop)) .stop))) (.alt 8 (.alt 4 (.alt 12 (.alt 16 R0 .stop) (.alt 16 (.alt 12 R0 .stop) .stop)) (.alt 12 (.alt 4 (.alt 16 R0 .stop) (.alt 16 (.alt 4 R0 .stop) .stop)) (.alt 16 (.alt 4 (.alt 12 R0 .stop) (.alt 12 (.alt 4 R0 .stop) .stop)) .stop))) (.alt 12 (.alt 4 (.alt 8 (.alt 16 R0 .stop) (.alt 16 (.alt 8 R0 .stop) .stop)) (.alt 8 (.alt 4 (.alt 16 R0 .stop) (.alt 16 (.alt 4 R0 .stop) .stop)) (.alt 16 (.alt 4 (.alt 8 R0 .stop) (.alt 8 (.alt 4 R0 .stop) .stop)) .stop))) (.alt 16 (.alt 4 (.alt 8 (.alt 12 R0 .stop) (.alt 12 (.alt 8 R0 .stop) .stop)) (.alt 8 (.alt 4 (.alt 12 R0 .stop) (.alt 12 (.alt 4 R0 .stop) .stop)) (.alt 12 (.alt 4 (.alt 8 R0 .stop) (.alt 8 (.alt 4 R0 .stop) .stop)) .stop))) .stop))))) (zq i g1) ?_
 repeat' refine And.intro ?_ ?_
 all_goals
  refine zK (f) (zq i g1) ?_;exact⟨_,_,rfl,by simp,ye (Qy g c _)⟩
def ZwN{x:Inst}(h:PlanG x n p)(a o d:Nat)(b:Int)(hb:b<=9223372036854775807){id v:Nat}(e:S id=.cells v 265 (X4 x p a o d b)):
  SP 192 [.ptr id v 0] S (λ_ S'=>S'=S.set id (.cells v 265 (X4 x (Ze x p d b).1 a o d b))):=by
 have f:=Zwj h.m d b hb;generalize Ze x p d b=r at *;obtain⟨q,ok⟩:=r;simp only at f ⊢;refine i' func192 λnx g=>?_;have c:id<nx:=qA g e EA;have i:=λobs=>(zL (S:=S) (obs:=obs) c).trans e;have g1:¬nx<=id:=D9;refine zC (some []) (pures [0,1,2,3,5,6,7,9,10,11,13,14,15] (.alt 4 (.alt 8 (.alt 12 (.alt 16 R0 .stop) (.alt 16 (.alt 12 R0 .stop) .stop)) (.alt 12 (.alt 8 (.alt 16 R0 .stop) (.alt 16 (.alt 8 R0 .stop) .stop)) (.alt 16 (.alt 8 (.alt 12 R0 .stop) (.alt 12 (.alt 8 R0 .stop) .stop)) .stop))) (.alt 8 (.alt 4 (.alt 12 (.alt 16 R0 .stop) (.alt 16 (.alt 12 R0 .stop) .stop)) (.alt 12 (.alt 4 (.alt 16 R0 .stop) (.alt 16 (.alt 4 R0 .stop) .stop)) (.alt 16 (.alt 4 (.alt 12 R0 .stop) (.alt 12 (.alt 4 R0 .stop) .stop)) .stop))) (.alt 12 (.alt 4 (.alt 8 (.alt 16 R0 .stop) (.alt 16 (.alt 8 R0 .stop) .stop)) (.alt 8 (.alt 4 (.alt 16 R0 .stop) (.alt 16 (.alt 4 R0 .stop) .stop)) (.alt 16 (.alt 4 (.alt 8 R0 .stop) (.alt 8 (.alt 4 R0 .stop) .stop)) .stop))) (.alt 16 (.alt 4 (.alt 8 (.alt 12 R0 .stop) (.alt 12 (.alt 8 R0 .stop) .stop)) (.alt 8 (.alt 4 (.alt 12 R0 .stop) (.alt 12 (.alt 4 R0 .stop) .stop)) (.alt 12 (.alt 4 (.alt 8 R0 .stop) (.alt 8 (.alt 4 R0 .stop) .stop)) .stop))) .stop))))) (zq i g1) ?_
 repeat' refine And.intro ?_ ?_
 all_goals
  refine zK (f) (zq i g1) ?_;exact⟨_,_,rfl,by simp,ye (Qy g c _)⟩
def Q7(x:Inst)(n:Nat)(p:zG)(s b:Int):zG :=
 if x.y.length=0 then p else
  (Ze x (Yk x n (vZ x n p [x7 s x.y.length]).1 (x7 s x.y.length) (x7 (yZ s) x.y.length)).1 (x7 (yZ (yZ s)) n) b).1
def X5(x:Inst)(s:Int):Int:=if x.y.length=0 then s else yZ (yZ (yZ s))
def ZwO{x:Inst}(h:PlanG x n p)(s b:Int):PlanG x n (Q7 x n p s b):=by unfold Q7;split;exact h;rename_i h0;have a:=X3 s (n:=x.y.length) D9;have ho:=X3 (yZ s) (n:=x.y.length) D9;exact ZwK (Ex (kR h _ EA (by simpa using a)).1 _ _ a ho).1 _ _
def J8(p q1 q2 q3:zG)(k:Nat):zG:=if k=0 then p else if k=1 then q1 else if k=2 then q2 else q3
def Ez(p a b c:zG):J8 p a b c 0=p:=if_pos rfl
def EL(p a b c:zG):J8 p a b c 1=a:=by unfold J8;rw[if_neg EG,if_pos rfl]
def EM(p b a c:zG):J8 p b a c 2=a:=by unfold J8;rw[if_neg EG,if_neg EG,if_pos rfl]
def EN(p b c a:zG):J8 p b c a 3=a:=by unfold J8;rw[if_neg EG,if_neg EG,if_neg EG]
def ZwP{x:Inst}(h:PlanG x n p)(a4:0<n)(s b:Int)(hb:b<=9223372036854775807){id v:Nat}(g:S id=.cells v 205 (wv s)):
  SP 148 [.agg (zE x),.agg [L p],.ptr id v 0,I b] S (λq S'=>q=.agg [L (Q7 x n p s b)]/\S'=S.set id (.cells v 205 (wv (X5 x s)))):=by
 have t:=h.clone;have h6:=h.af;have a5:=h.a.days;have a9:=h.a.ae;by_cases hm:x.y.length=0;have e1:Q7 x n p s b=p:=by unfold Q7;rw[if_pos hm]
 have e2:X5 x s=s:=by unfold X5;rw[if_pos hm]
 rw[e1,e2];refine i' func148 λnx u=>?_;have f:id<nx:=qA u g EA;refine EJ ?_;intro v0 v1 v2;refine aG (some [nx,nx+1]) Rs n' ?_;refine zK (t) n' ?_;intro v3;refine EJ ?_;refine ze (EJ ?_);refine zo (by simp[Ct.1 hm]) ?_;refine EJ ?_;have eS:S.set id (.cells v 205 (wv s))=S:=by rw[<-g];funext i;by_cases hi:i=id;subst hi;exact q11 _ _ _;exact q10 _ _ _ _ hi
 rw[eS];exact zj ⟨_,S,EB,⟨by simp[zr],rfl⟩,ye u⟩;have e1:Q7 x n p s b=(Ze x (Yk x n (vZ x n p [x7 s x.y.length]).1 (x7 s x.y.length) (x7 (yZ s) x.y.length)).1 (x7 (yZ (yZ s)) n) b).1:=by unfold Q7;rw[if_neg hm]
 have e2:X5 x s=yZ (yZ (yZ s)):=by unfold X5;rw[if_neg hm]
 rw[e1,e2];have ha:=X3 s (n:=x.y.length) D9;have ho:=X3 (yZ s) (n:=x.y.length) D9;have b7:=X3 (yZ (yZ s)) a4;have b1:=λ(S:Store) g=>bm s x.y.length D9 D9 (S:=S) (id:=id) (v:=v) g;have b2:=λ(S:Store) g=>bm (yZ s) x.y.length D9 D9 (S:=S) (id:=id) (v:=v) g;have b3:=λ(S:Store) g=>bm (yZ (yZ s)) n D9 D9 (S:=S) (id:=id) (v:=v) g;rw[<-a5]at b3;have r:PlanG x n (vZ x n p [x7 s x.y.length]).1:=(kR h _ EA (by simpa using ha)).1;have y:=(Ex r _ _ ha ho).1;generalize x7 s x.y.length=a at *;generalize x7 (yZ s) x.y.length=o at *;generalize x7 (yZ (yZ s)) n=d at *;generalize yZ (yZ s)=s2 at *;generalize yZ s=s1 at *;generalize yZ s2=s3 at *;have r1:=λ(S:Store) (i w:Nat) g=>ZwL h a o d b ha (S:=S) (id:=i) (v:=w) g;have r2:=λ(S:Store) (i w:Nat) g=>ZwM r a o d b ha ho (S:=S) (id:=i) (v:=w) g;have r3:=λ(S:Store) (i w:Nat) g=>ZwN y a o d b hb (S:=S) (id:=i) (v:=w) g;clear r y;generalize (Ze x (Yk x n (vZ x n p [a]).1 a o).1 d b).1=q3 at *;generalize (Yk x n (vZ x n p [a]).1 a o).1=q2 at *;generalize (vZ x n p [a]).1=q1 at *;clear e1 e2;refine i' func148 λnx u=>?_;have f:id<nx:=qA u g EA;have xw:=λobs=>(zL (S:=S) (obs:=obs) f).trans g;refine EJ ?_;intro v0 v1 v2;refine aG (some [nx,nx+1]) Rs n' ?_;refine zK (t) n' ?_;intro v3;refine EJ ?_;refine ze (EJ ?_);have a6:¬x.y=[]:=λe=>hm (by rw[e];rfl);refine zp (by simp[a6]) ?_;refine zk (EJ ?_);refine λc=>((b1 _ (xw _)).mono ?_).v;rintro _ _ ⟨rfl,rfl⟩;refine⟨_,_,qI _ f,zS c ?_⟩;have z:(S.set id (.cells v 205 (wv s1))) id=.cells v 205 (wv s1):=q11 _ _ _;have a0:=Qy u f (.cells v 205 (wv s1));obtain⟨S1,j⟩:∃S1,S1=S.set id (.cells v 205 (wv s1)):=⟨_,rfl⟩;rw[<-j]at z a0 ⊢;have a7:=λobs=>(zL (S:=S1) (obs:=obs) f).trans z;refine EJ ?_;refine λc=>((b2 _ (a7 _)).mono ?_).v;rintro _ _ ⟨rfl,rfl⟩;refine⟨_,_,qI _ f,zS c ?_⟩;have a1:(S1.set id (.cells v 205 (wv s2))) id=.cells v 205 (wv s2):=q11 _ _ _;have a2:=Qy a0 f (.cells v 205 (wv s2));obtain⟨S2,l⟩:∃S2,S2=S1.set id (.cells v 205 (wv s2)):=⟨_,rfl⟩;rw[<-l]at a1 a2 ⊢;have a8:=λobs=>(zL (S:=S2) (obs:=obs) f).trans a1;refine EJ ?_;refine λc=>((b3 _ (a8 _)).mono ?_).v;rintro _ _ ⟨rfl,rfl⟩;refine⟨_,_,qI _ f,zS c ?_⟩;have a3:=Qy a2 f (.cells v 205 (wv s3));obtain⟨S3,m⟩:∃S3,S3=S2.set id (.cells v 205 (wv s3)):=⟨_,rfl⟩;rw[<-m]at a3 ⊢;refine ze (EJ ?_);refine zn (zF (λk:Nat=>k<=3) (λk=>[(8,.ptr (nx+2) v2 0),(9,.ptr (nx+3) v3 0),(53,.lst 3 [.fn (.func 190) [.ptr (nx+3) v3 0] [],.fn (.func 191) [.ptr (nx+3) v3 0] [],.fn (.func 192) [.ptr (nx+3) v3 0] []]),(54,I 3),(55,I k)]) (λk=>[.cells v0 25 (zE x),.cells v1 31 [L p],.cells v2 31 [yI],.cells v3 265 (X4 x (J8 p q1 q2 q3 k) a o d b)]) (λk=>3-k) 0 [] EA EA (by simp[Ez]) ?_);rintro k hk;refine EJ ?_;refine ze (zA rfl (λhc=>?_) (λhc=>?_));simp at hc;refine zk (aA ?_);obtain rfl|rfl|rfl:k=0\/k=1\/k=2:=D9;refine EJ ?_;refine zg ?_;refine λc=>((r1 _ (nx+3) v3 (by rw[zZ];simp[Ez])).mono ?_).v;rintro _ _ rfl;refine⟨S3,_,(by rw[yu _ D9 EA,AJ]),zS c ?_⟩;refine zg ?_;exact zv 1 [] D9 D9 (by simp;exact wr 1 D9 D9) rfl (by simp[EL]);refine EJ ?_;refine zg ?_;refine λc=>((r2 _ (nx+3) v3 (by rw[zZ];simp[EL])).mono ?_).v;rintro _ _ rfl;refine⟨S3,_,(by rw[yu _ D9 EA,AJ]),zS c ?_⟩;refine zg ?_;exact zv 2 [] D9 D9 (by simp;exact wr 2 D9 D9) rfl (by simp[EM]);refine EJ ?_;refine zg ?_;refine λc=>((r3 _ (nx+3) v3 (by rw[zZ];simp[EM])).mono ?_).v;rintro _ _ rfl;refine⟨S3,_,(by rw[yu _ D9 EA,AJ]),zS c ?_⟩;refine zg ?_;exact zv 3 [] D9 D9 (by simp;exact wr 3 D9 D9) rfl (by simp[EN]);simp at hc;obtain rfl:k=3:=D9;refine zB ?_;rw[EN];refine EJ ?_;have eS:S.set id (.cells v 205 (wv s3))=S3:=by rw[m,l,j,set_set,set_set]
 rw[eS];exact zj ⟨_,S3,EB,⟨by simp[zr],rfl⟩,ye a3⟩
def vB(x:Inst)(n:Nat)(b:Int)(p:zG)(s:Int):Nat->zG × Int
 |0=>(p,s)
 |k+1=>(Q7 x n (vB x n b p s k).1 (vB x n b p s k).2 b,X5 x (vB x n b p s k).2)
def Qz(x:Inst)(n:Nat)(b:Int)(p:zG)(s:Int)(k:Nat):List zG:=(range (k+1)).map λi=>(vB x n b p s i).1
theorem ZwQ(x:Inst)(n:Nat)(b:Int)(p:zG)(s:Int):Qz x n b p s 0=[p]:=rfl
def EO(x:Inst)(n:Nat)(b:Int)(p:zG)(s:Int)(k:Nat):Qz x n b p s (k+1)=Qz x n b p s k++[(vB x n b p s (k+1)).1]:=by unfold Qz;rw[AO,map_append];rfl
def ZwR(x:Inst)(n:Nat)(b:Int)(p:zG)(s:Int)(k:Nat):(Qz x n b p s k).length=k+1:=by simp[Qz]
theorem kS{x:Inst}(h:PlanG x n p)(b s:Int):∀k,PlanG x n (vB x n b p s k).1
 |0=>h
 |k+1=>ZwO (kS h b s k) _ _
abbrev X6(seed r b cl:Int):List PV:=[I seed,I r,I b,I cl]
def ZwS{x:Inst}(hA:InstA x n)(o:0<n)(g:∀b,(xW x b).2=0->PlanG x n (xW x b).1)(a:Int)(r:Nat)(hr:r<=1000)(b:Int)(hb:b<=9223372036854775807)(cl:Int)(fn:FuncId)(cs:List PV)(St:List zG->Store)(s:St []=S)
  (f:∀nx,yh nx S->∀h,yh nx (St h))
  (d:∀nx,yh nx S->∀(h:List zG) (p:zG) (obs:List Ob),h.length<=1001->PlanG x n p->Spec prog fn ([.agg [L p]]++cs) (ext (St h) nx obs) (λ_ S'=>S'=ext (St (h++[p])) nx obs)) :
  SP 102 [.agg (zE x),.agg (X6 a r b cl),.fn (.func fn) [] cs] S (λq S'=>q=I (xW x b).2/\S'=St (if (xW x b).2=0 then Qz x n b (xW x b).1 (IntKind.u64.wrap a) r else [])):=by
 subst s;have j:=TS hA hb;have g:=g b;generalize xW x b=st at *;obtain⟨i,e⟩:=st;simp only at j g ⊢;refine i' func102 λnx t=>?_;have d:=d nx t;have f:=f nx t;refine EJ ?_;intro v0 v1;refine EJ ?_;refine zu j ?_;intro v2;by_cases u:e=0;case neg =>
  rw[if_neg u];refine ze (EJ ?_);refine zo (by simp[u]) ?_;refine EJ ?_;exact zj ⟨_,_,rfl,⟨by simp[zr],rfl⟩,ye t⟩
 subst u;rw[if_pos rfl];have hG:=g rfl;have hit:=kS hG b (IntKind.u64.wrap a);refine ze (EJ ?_);refine aC (EJ ?_);refine λc=>((d [] i _ EA hG).mono ?_).v;rintro _ _ rfl;refine⟨_,_,rfl,zS c ?_⟩;refine EJ ?_;refine λc=>((Ey a xP).mono ?_).v;rintro _ _ ⟨v3,rfl,rfl⟩;refine⟨_,_,jP _,zS c ?_⟩;refine ze (EJ ?_);have hz:Qz x n b i (IntKind.u64.wrap a) 0=[]++[i]:=rfl;generalize IntKind.u64.wrap a=s0 at *;refine zn (xC (σ:=Nat) (λk=>k<=r) (λk=>[(2,.fn (.func fn) [] cs),(3,.ptr nx v0 0),(4,.ptr (nx+1) v1 0),(7,.ptr (nx+2) v2 0),(9,.ptr (nx+3) v3 0),(27,I r),(28,I k)]) (λk=>St (Qz x n b i s0 k)) (λk=>[.cells v0 25 (zE x),.cells v1 68 (X6 a r b cl),.cells v2 31 [L (vB x n b i s0 k).1],.cells v3 205 (wv (vB x n b i s0 k).2)]) (λk=>r-k) (zY 0 [] EA EA (by rw[ZwQ]) (by simp[vB])) ?_);rintro k hk;have w:=hit k;have y:=hit (k+1);have l:=λ(S:Store) (id v:Nat) hS=>ZwP w o (vB x n b i s0 k).2 b hb (S:=S) (id:=id) (v:=v) hS;have z:Q7 x n (vB x n b i s0 k).1 (vB x n b i s0 k).2 b=(vB x n b i s0 (k+1)).1:=rfl;have m:X5 x (vB x n b i s0 k).2=(vB x n b i s0 (k+1)).2:=rfl;have a0:=EO x n b i s0 k;have a1:=ZwR x n b i s0 k;rw[z,m]at l;refine EJ ?_;refine ze (zA rfl (λhc=>?_) (λhc=>?_));simp at hc;refine zk (aA (EJ ?_));refine λc=>((l _ (nx+3) v3 (by rw[zZ];rfl)).mono ?_).v;rintro _ _ ⟨rfl,rfl⟩;refine⟨_,_,yu _ D9 EA,zS c ?_⟩;try simp only[AJ,AM,AR]
 refine zg ?_;refine λc=>((d _ _ _ D9 y).mono ?_).v;rintro _ _ rfl;refine⟨_,_,rfl,zS c ?_⟩;refine zg ?_;exact zv (k+1) [] hc D9 (by simp[zy k D9]) (by rw[a0]) EA;simp at hc;obtain rfl:k=r:=D9;refine zB (EJ ?_);exact zj ⟨_,_,rfl,⟨by simp[zr],rfl⟩,ye (f _)⟩
def ZwT(p:zG){id v:Nat}{old:PV}(b:S id=.cells v 31 [old]):SP 103 [.agg [L p],.ptr id v 0] S (λ_ S'=>S'=S.set id (.cells v 31 [L p])):=by refine i' func103 λnx c=>?_;have a:id<nx:=qA c b EA;have d:=λobs=>(zL (S:=S) (obs:=obs) a).trans b;have g1:¬nx<=id:=D9;refine EJ ?_;intro v0;refine zi [] (zq d g1) ?_;exact⟨_,_,rfl,by simp,ye (Qy c a _)⟩
def bn(h:List zG):PV:=match h.getLast? with
 |none=>yI
 |some p=>L p
def EP(h:List zG)(p:zG):bn (h++[p])=L p:=by unfold bn;rw[List.getLast?_append];rfl
def ZwU(x:Inst)(n:Nat)(b:Int)(p:zG)(s:Int)(k:Nat):bn (Qz x n b p s k)=L (vB x n b p s k).1:=by
 cases k with
 |zero=>rfl
 |succ k=>rw[EO,EP]
def Q8(x:Inst)(n:Nat)(seed:Int)(r:Nat)(b:Int):zG × Int :=
 if (xW x b).2=0 then ((vB x n b (xW x b).1 (IntKind.u64.wrap seed) r).1,0) else ([],(xW x b).2)
def ZwV{x:Inst}(w:InstA x n)(q:0<n)(f:∀b,(xW x b).2=0->PlanG x n (xW x b).1)(a:Int)(r:Nat)(y:r<=1000)(b:Int)(hb:b<=9223372036854775807)(cl:Int):
  PP 62 [.agg (zE x),.agg (X6 a r b cl)] (.tup [.agg [L (Q8 x n a r b).1],I (Q8 x n a r b).2]):=by
 have t:=λ(S:Store) fn cs St h1 h2 h3=>ZwS w q f a r y b hb cl fn cs (S:=S) St h1 h2 h3;have c:Q8 x n a r b=if (xW x b).2=0 then ((vB x n b (xW x b).1 (IntKind.u64.wrap a) r).1,0) else ([],(xW x b).2):=rfl;have hl:=λp s=>ZwU x n b p s r;generalize xW x b=st at *;obtain⟨p0,e⟩:=st;simp only at t c;generalize IntKind.u64.wrap a=s0 at *;refine c9 func62 λS nx u=>?_;intro v0 v1 z;refine EJ ?_;intro v3;obtain⟨S1,g⟩:∃S1,S1=ext S nx [.cells v0 25 (zE x),.cells v1 68 (X6 a r b cl),.cells z 31 [yI],.cells v3 31 [yI]]:=⟨_,rfl⟩;have h1:S1 (nx+3)=.cells v3 31 [yI]:=by rw[g,zZ];rfl
 have j:=t S1 103 [.ptr (nx+3) v3 0] (λh=>S1.set (nx+3) (.cells v3 31 [bn h])) (by
   funext i;by_cases hi:i=nx+3;subst hi;rw[q11];exact h1.symm;exact q10 _ _ _ _ hi) (λk d h=>Qy d (qA d h1 EA) _) (λk d h p obs _ _=>by
   have l:nx+3<k:=qA d h1 EA;refine(ZwT p (id:=nx+3) (v:=v3) (old:=bn h) (by rw[zL l];exact q11 _ _ _)).mono ?_;rintro _ _ rfl;rw[qI _ l,set_set,EP])
 rw[g]at j;refine EJ ?_;refine λm=>(j.mono ?_).v;rintro _ _ ⟨rfl,rfl⟩;refine⟨_,_,yu _ D9 EA,zS m ?_⟩;try simp only[AJ,AM,AR]
 by_cases o:e=0;rw[if_pos o]at c;rw[c];simp only[if_pos o,hl];subst o;refine EJ ?_;exact EK u;rw[if_neg o]at c;rw[c];simp only[if_neg o];show PW _ _ _ _ _ _ _ (ext _ _ _);refine EJ ?_;refine z8 2 0 rfl rfl ?_;exact EK u
def yA(l:List Int)(i:Nat):Int:=if 1000<l.getD i 0 then 1000 else if l.getD i 0<0 then 0 else l.getD i 0
def Vp(l:List Int)(i:Nat):0<=yA l i/\yA l i<=1000:=by unfold yA;split;omega;split<;>omega
def kT(l:List Int)(i:Nat)(hi:i<=100):PP 104 [L l,I i] (I (yA l i)):=by
 refine c9 func104 λS nx d=>?_;by_cases h1:i<l.length;obtain⟨z,tl,f,g,a3,c⟩:=zH rfl l i h1;have e:l.getD i 0=z:=by rw[Aa,f];rfl
 have a:1<=l.length-i:=D9;have b:¬l.length<=i:=D9;unfold yA;rw[e];by_cases h2:z<0;rw[if_neg D9,if_pos h2];refine ze (aF [(4,9)] (yp c h1 b a h2) ?_);refine zo rfl (EJ ?_);exact zj (zm d rfl rfl);by_cases h3:1000<z;rw[if_pos h3];refine ze (aF [(4,9)] (yp c h1 b a h2) ?_);refine zp rfl (zk ?_);refine ze (aF [] (zD c h1 a) ?_);refine zo (by simp[h3]) ?_;refine EJ ?_;exact zj (zm d rfl rfl);rw[if_neg h3,if_neg h2];refine ze (aF [(4,9)] (yp c h1 b a h2) ?_);refine zp rfl (zk ?_);refine ze (aF [] (zD c h1 a) ?_);refine zp ED ?_;refine zk (aF [] (zD c h1 a) ?_);exact zj (zm d rfl rfl);have e:l.getD i 0=0:=by rw[Aa,An D9];rfl
 unfold yA;rw[e,if_neg EG,if_neg EG];have b:l.length<=i:=D9;refine ze (aF [(4,9)] (zq b zz) ?_);refine zo rfl (EJ ?_);exact zj (zm d rfl rfl)
def ww(l:List Int):Int:=l.getD 0 0
def ZwW(l:List Int):PP 63 [L l] (.agg (X6 (ww l) (yA l 1) (yA l 2) (yA l 3))):=by
 have g:=kT l 1 D9;have i:=kT l 2 D9;have t3:=kT l 3 D9;generalize yA l 1=r at *;generalize yA l 2=b at *;generalize yA l 3=c at *;refine c9 func63 λS nx e=>?_;intro v0;refine EJ ?_;refine zu g ?_;refine zu i ?_;refine zu t3 ?_;intro v1;by_cases h:0<l.length;obtain⟨z,tl,j,k,a3,f⟩:=zH rfl l 0 h;have a:ww l=z:=by unfold ww;rw[Aa,j];rfl
 have d:1<=l.length:=h;rw[DA]at f;rw[a];refine ze (EJ ?_);refine zo (by simp[h]) ?_;refine zi [] (zD f h d) ?_;refine EJ ?_;exact EK e;have a:ww l=0:=by unfold ww;rw[Aa,An D9];rfl
 rw[a];have hl:l=[]:=Ct.1 D9;subst hl;refine ze (EJ ?_);refine aC (EJ ?_);exact EK e
def ZwX(l:List Int):PP 36 [L l] (.agg (X6 (ww l) (yA l 1%9) (yA l 2%21) (yA l 3%13))):=by have a:=ZwW l;have b1:=Vp l 1;have b2:=Vp l 2;have b3:=Vp l 3;have d:(yA l 1).tmod 9=yA l 1%9:=Be D9;have w2:(yA l 2).tmod 21=yA l 2%21:=Be D9;have e:(yA l 3).tmod 13=yA l 3%13:=Be D9;generalize yA l 1=r at *;generalize yA l 2=b at *;generalize yA l 3=c at *;generalize ww l=s at *;refine c9 func36 λS nx f=>?_;intro v0;refine EJ ?_;refine zu a ?_;intro v1;refine aF [] d ?_;refine aF [] w2 ?_;refine aF [] e ?_;refine EJ ?_;exact EK f
def ex(id ver b:Nat):Rd:=⟨none,λC S w=>Rel C S w (.ptr id ver 0) (.pointer (some ⟨b,0,none⟩)),λst h=>Rel.mono st h⟩
variable {N e:Nat}{cs:List PV}
def ZwY{c:Code}{Q:Exit->(Nat->PV)->Store->Prop}{x id ver:Nat}(g:F x=.ptr id ver 0)(hs:S id=.cells ver e cs)
  (h:∀b,PW P (ex id ver b) n N c Q F S):PW P jM n N c Q F S:=by
 intro C w a st;have d:=st.fr x;rw[g]at d;generalize hv:a.tmps.getD x undef=v at d;cases d with
 |ptr h1 h2 h3 =>
 obtain⟨b,k,hl,rfl⟩:=(h3 ver (by rw[hs];rfl)).2 rfl;have:=h b C w a ⟨st.sim,st.size,st.fr,.ptr h1 h2 h3⟩;exact wpIn_mono this λe a' w' ⟨F',S',C',i,f,j,l⟩=>⟨F',S',C',i,⟨f.sim,f.size,f.fr,trivial⟩,j,l⟩
def ZwZ{t m id ver b j:Nat}(ho:o.op=.slice t x none none none)(k:P.underlying t=some (.array m e))(hc:P.cellsOf e≠0)(hx:ev F x=.ptr id ver 0)(hs:S id=.cells ver j cs)
  (l:K (.sc (.slice (some ⟨b,0,none⟩) m m)) S):PO P (ex id ver b) n o F S K:=by
 intro G p C w a N st next Q' d;have h:=st.ev x;rw[(p x (by simp[ho,Op.operands])).trans hx]at h;have e2:Rel C S w (.ptr id ver 0) (.pointer (some ⟨b,0,none⟩)):=st.v;have i:∀c,o.op≠.defer c:=by intro c hc;rw[ho]at hc;cases hc
 generalize hv:a.eval x=v at h;cases h with
 |ptr h1 h2 h3 =>
 obtain⟨b1,k1,hl,rfl⟩:=(h3 ver (by rw[hs];rfl)).2 rfl;cases e2 with
 |ptr i1 i2 i3 =>
 obtain⟨b2,q,f,hb⟩:=(i3 ver (by rw[hs];rfl)).2 rfl;rw[hl]at f;cases f;cases hb;have g:(execOp a.eval o).run P w=.ok (.value (.slice (some ⟨b,0,none⟩) m m)) w:=by unfold execOp;simp[ho,hv,Instr.sliceAt,run_underlying k,Instr.sureAddr,Instr.sliceBounds,ue hc];intro _;rfl
 exact qx i g (d _ _ _ _ _ l (.sc _) st.sim (Step.refl _ _ _))
def bo{s:Operand}{t:TypeId}{a:Act}{w w':World}{v:Value}(ho:o.op=.call { callee:=.builtin .copy,args:=#[s,x],argTypes:=#[t,t] })
  (h:(Builtin.copy_ #[t,t] o.type #[a.eval s,a.eval x]).run P w=.ok v w'):(execOp a.eval o).run P w=.ok (.value v) w':=by
 unfold execOp;grind[resolve,invoke,builtin,Sem.run_bind,Sem.run_pure,Result.andThen_ok]
def Zw0{s:Operand}{t b m id ver:Nat}{l:List PV}(ho:o.op=.call { callee:=.builtin .copy,args:=#[s,x],argTypes:=#[t,t] })(ht:P.underlying t=some (.slice e))(f:(P.info? e).map (·.size)=some 1)
  (hs:ev F s=.sc (.slice (some ⟨b,0,none⟩) m m)) (hx:ev F x=.lst l.length l) (hid:S id=.cells ver nx cs) (hm:cs.length=m)
  (hK:K (I (min l.length m:Nat)) (S.set id (.cells ver nx (l.take m++cs.drop (min l.length m))))):PO P (ex id ver b) n o F S K:=by
 intro G hG C w a N st next Q' h;have e1:=st.ev s;rw[(hG s (by grind[Op.operands,Call.operands])).trans hs]at e1;have e2:=st.ev x;rw[(hG x (by grind[Op.operands,Call.operands])).trans hx]at e2;have e3:Rel C S w (.ptr id ver 0) (.pointer (some ⟨b,0,none⟩)):=st.v;have a5:∀c,o.op≠.defer c:=by intro c hc;rw[ho]at hc;cases hc
 generalize hv:a.eval s=v at e1;cases e1;generalize hu:a.eval x=u at e2;cases e3 with
 |ptr i1 i2 i3 =>
 obtain⟨b2,k,hl,hb⟩:=(i3 ver (by rw[hid];rfl)).2 rfl;cases hb;obtain⟨hn,_⟩|⟨b',k',c,g1,g2,g3,g4,g5,g6⟩:=st.sim.cells id ver nx cs hid;rw[hn]at hl;cases hl;rw[hl]at g1;cases g1;have a6:∀(vs:List Value) (a':Addr) (cap:Nat),u=.slice (some a') l.length cap->vs.length=min l.length m->(∀j v,vs[j]?=some v->w.cell? (a'.add j)=some v)->(∀v∈vs,v.oneCell'=true)->(∀(i:Nat) (p:PV) (v:Value),(l.take m)[i]?=some p->vs[i]?=some v->Rel C S w p v)->o.wpIn (Fe (ex id ver b)) n P a w next Q':=by
  intro vs a' cap c6 r a0 y a7;have g:=run_copy_row P w t t o.type e b 0 m m a' l.length cap c nx vs ht f g2 (by rw[r]) a0 D9 y;have d:=bo (P:=P) (a:=a) (w:=w) ho (by rw[hv,hu,c6];exact g);simp only[C8,AK,AV]at d;generalize a8:w.setRow b (vs++c.toList.drop vs.length).toArray=w' at d;have a1:w'.heap[b]?=some (.cells (vs++c.toList.drop vs.length).toArray nx (0,0)):=by rw[<-a8];exact setRow_heap w b c _ nx _ g2
  have c7:w.grownBy w' (some b)/\w.drawn<=w'.drawn:=by rw[<-a8];exact⟨⟨rfl,rfl,rfl,by simp,λj q c8=>setRow_other w b j _ (λe=>c8 (by rw[e]))⟩,Ag _⟩
  have a2:(vs++c.toList.drop vs.length).toArray.size=k:=ED;have a3:(l.take m).length=vs.length:=by rw[AA,r];omega
  obtain⟨t1,t2⟩:=st.sim.turn (l:=C.loc id) (ver':=ver) (cs':=l.take m++cs.drop (min l.length m)) hid (Ag _) (λ_=>rfl) (by rw[hl];exact c7)
   (.inr ⟨b,k,_,hl,.inr (by rw[hl];rfl),a1,a2,by rw[length_append,A7,a3];omega,λi z hi f=>by
     rw[AH]at f;by_cases q1:i<vs.length;rw[Au q1]at f;exact y z (Ab f);rw[Ao D9,AL]at f;rw[length_append,A7,a3]at hi;have e9:vs.length+(i-vs.length)=i:=D9;rw[e9]at f;exact g5 i z D9 (by rw[<-Array.getElem?_toList];exact f),
    λi p z hp f=>by rw[AH]at f;by_cases q1:i<vs.length;rw[Au q1]at f;rw[Au D9]at hp;exact a7 i p z hp f;rw[Ao D9,AL]at f;rw[Ao D9,AL,a3,<-r]at hp;have e9:vs.length+(i-vs.length)=i:=D9;rw[e9]at f hp;exact g6 i p z hp (by rw[<-Array.getElem?_toList];exact f)⟩)
  have a9:goInt vs.length=Value.int .i64 ((min l.length m:Nat):Int):=by rw[r];rfl
  exact qx a5 d (h _ _ _ _ _ hK (by rw[a9];exact .sc _) t1 t2)
 generalize hk:l.length=kk at e2;cases e2 with
 |lst0 =>
 rename_i cap a';have g:(Builtin.copy_ #[t,t] o.type #[a.eval s,a.eval x]).run P w=.ok (goInt 0) w:=by
  rw[hv,hu];cases hq:P.info? e with
  |none=>simp[hq]at f
  |some i =>
  cases a'<;>simp[Builtin.copy_,run_underlying ht,Builtin.lenOf,Builtin.firstCells,sizeOf,typeInfo,hq,storeCells,loadCells,loadCellsFrom]
 have d:=bo (P:=P) (a:=a) (w:=w) ho g;have eS:S.set id (.cells ver nx cs)=S:=by funext i;by_cases hi:i=id;grind[q11];grind[q10]
 simp only[Aj,Nat.zero_min,DJ,DA,AK,eS]at hK;exact qx a5 d (h _ _ _ _ _ hK (.sc _) st.sim (Step.refl _ _ _))
 |lst1 hn d4 hb hM d0 h1 h2 =>
 rename_i cap b' o' c' e' fz;subst hk;have b7:∀j,(⟨b',o',none⟩:Addr).add j=⟨b',o'+j,none⟩:=by intro j;unfold Addr.add;split<;>simp_all
 have a4:∀(j:Nat) (v:Value),((c'.toList.drop o').take (min l.length m))[j]?=some v->j<min l.length m/\c'[o'+j]?=some v:=λj v q=>by rw[BT]at q;split at q;rename_i d1;rw[AL,Array.getElem?_toList]at q;exact⟨d1,q⟩;cases q
 refine a6 ((c'.toList.drop o').take (min l.length m)) ⟨b',o',none⟩ cap rfl ?_ ?_ ?_ ?_;rw[AA,A7];have e9:c'.toList.length=c'.size:=Array.length_toList;by_cases b8:l=[];subst b8;simp;have:=d0 b8;omega;intro j v q;obtain⟨q1,q2⟩:=a4 j v q;rw[b7];simp[World.cell?,hb,q2];intro v d2;obtain⟨j,q⟩:=Cg d2;obtain⟨q1,q2⟩:=a4 j v q;exact h1 j v D9 q2;intro i p v hp d3;obtain⟨q1,q2⟩:=a4 i v d3;rw[AP D9]at hp;exact h2 i p v hp q2
def Zw1(l:List Int)(i:Nat):min (max (l.getD i 0) 0) 1000=yA l i:=by unfold yA;split;omega;split<;>omega
def Zw2(l:List Int):(l.flatMap enc:List PV).take 4++[I 0,I 0,I 0,I 0].drop (min (l.flatMap enc:List PV).length 4)=[I (l.getD 0 0),I (l.getD 1 0),I (l.getD 2 0),I (l.getD 3 0)]:=by
 match l with
 |[]=>rfl
 |[a]=>simp
 |[a,b]=>simp
 |[a,b,c]=>simp
 |a::b::c::d::r =>
 have:min (((a::b::c::d::r).flatMap enc:List PV).length) 4=4:=by rw[ju];simp[Enc.sz]
 rw[this];simp
def EQ(l:List Int):PP 31 [L l] (.agg (X6 (ww l) (yA l 1) (yA l 2) (yA l 3))):=by
 have c1:=WY (l.getD 1 0) 0 1000;have c2:=WY (l.getD 2 0) 0 1000;have c3:=WY (l.getD 3 0) 0 1000;rw[Zw1]at c1 c2 c3;have d:=Zw2 l;have e:L l=.lst (l.flatMap enc:List PV).length (l.flatMap enc):=by show PV.lst l.length _=_;congr 1;rw[ju];simp[Enc.sz]
 have c:ww l=l.getD 0 0:=rfl;rw[c,e];generalize l.getD 0 0=z0 at *;generalize l.getD 1 0=z1 at *;generalize l.getD 2 0=z2 at *;generalize l.getD 3 0=z3 at *;generalize yA l 1=t1 at *;generalize yA l 2=t2 at *;generalize yA l 3=t3 at *;generalize (l.flatMap enc:List PV)=cs at *;refine c9 func31 λS nx f=>?_;intro v0;refine EJ ?_;intro v1;refine ZwY (x:=3) (id:=nx+1) (ver:=v1) rfl (by rw[zZ];rfl) λb=>?_;refine EJ ?_;refine λa=>ZwZ rfl underlying111 EA rfl (by rw[zZ];rfl) ?_;refine⟨_,_,rfl,zS a ?_⟩;refine λa=>Zw0 (id:=nx+1) (ver:=v1) rfl underlying26 EC rfl rfl (by rw[zZ];rfl) rfl ?_;rw[d];refine⟨_,_,yu _ D9 EA,zS a ?_⟩;try simp only[AJ,AM,AR]
 refine ze (EJ ?_);refine zn (zF (λk:Nat=>1<=k/\k<=4) (λk=>[(2,.ptr nx v0 0),(3,.ptr (nx+1) v1 0),(4,I k)]) (λk=>[.cells v0 68 [I 0,I 0,I 0,I 0],.cells v1 111 [I z0,I (if 1<k then t1 else z1),I (if 2<k then t2 else z2),I (if 3<k then t3 else z3)]]) (λk=>4-k) 1 [] EA EA EA ?_);rintro k ⟨g,h⟩;refine ze (EJ ?_);refine zA rfl (λhc=>?_) (λhc=>?_);simp at hc;refine zk (aA ?_);obtain rfl|rfl|rfl:k=1\/k=2\/k=3:=D9;refine zg ?_;refine zu c1 ?_;refine zg ?_;exact zv 2 [] D9 D9 (by simp;exact wr 2 D9 D9) rfl EA;refine zg ?_;refine zu c2 ?_;refine zg ?_;exact zv 3 [] D9 D9 (by simp;exact wr 3 D9 D9) rfl EA;refine zg ?_;refine zu c3 ?_;refine zg ?_;exact zv 4 [] D9 D9 (by simp;exact wr 4 D9 D9) rfl EA;simp at hc;obtain rfl:k=4:=D9;refine zB (EJ ?_);exact EK f
def Vq(x:Inst)(bd:Int)(p:zG)(e c:Int):Rep:=if Zy e c=0 then ⟨4,bd,qW x p,W (qe x p x.y.length),yX x p,p⟩ else ⟨3,bd,0,0,[],[]⟩
def ER(e:Int):Rep:=⟨if e=2 then 1 else 2,0,0,0,[],[]⟩
structure Below21 (x:Inst) (l:List Int) (bd:Int) (p:zG) (e c:Int):Prop where
 climb:∃a b,PP 61 [.agg (zE x),I (ww l),I (yA l 3)] (.tup [.agg [a,b],I bd])
 run:PP 62 [.agg (zE x),.agg [I (ww l),I (yA l 1),I (yA l 2),I (yA l 3)]] (.tup [.agg [L p],I e])
 chk:e=0->PP 45 [.agg (zE x),.agg [L p]] (I c)
 cost:Zy e c=0->PP 46 [.agg (zE x),.agg [L p]] (I (qW x p))
 Y:Zy e c=0->PP 47 [.agg (zE x),.agg [L p]] (I (W (qe x p x.y.length)))
 days:Zy e c=0->PP 49 [.agg (zE x),.agg [L p]] (L (yX x p))
def Zw3(u:List UInt8)(hl:u.length<=1048576)(l:List Int)(f:(yn u).2≠0):PP 7 [T (bs u),L l] (.agg (Vh (ER (yn u).2))):=by
 have d:=EQ l;have a:=λ(S:Store) (id v:Nat) (s0 s1 s2 s3 x0 x1 x2 x3 x4 x5 r0 r1 r2 r3 r4 r5:PV) hS=>Er (S:=S) (id:=id) (v:=v) (s0:=s0) (s1:=s1) (s2:=s2) (s3:=s3) (x0:=x0) (x1:=x1) (x2:=x2) (x3:=x3) (x4:=x4) (x5:=x5) (r0:=r0) (r1:=r1) (r2:=r2) (r3:=r3) (r4:=r4) (r5:=r5) u hl hS;simp only[if_neg f]at a;have b:ER (yn u).2=⟨if (yn u).2=2 then 1 else 2,0,0,0,[],[]⟩:=rfl;rw[b];generalize (if (yn u).2=2 then (1:Int) else 2)=o at *;generalize (yn u).2=e at *;generalize ww l=s0 at *;generalize yA l 1=s1 at *;generalize yA l 2=s2 at *;generalize yA l 3=s3 at *;refine c9 func7 λS nx g=>?_;intro v0;refine EJ ?_;refine zu d ?_;intro v1;refine ze (EJ ?_);refine zn (zF (λk:Nat=>k=0) (λ_=>[(4,.ptr nx v0 0),(5,.ptr (nx+1) v1 0),(21,.lst 4 [.fn (.func 32) [.ptr (nx+1) v1 0] [],.fn (.func 33) [.ptr (nx+1) v1 0] [],.fn (.func 34) [.ptr (nx+1) v1 0] [],.fn (.func 35) [.ptr (nx+1) v1 0] []]),(22,I 4),(23,I 0)])
  (λ_=>[.cells v0 33 [I 0,I 0,I 0,I 0,yi,yi],.cells v1 71 [T (bs u),I s0,I s1,I s2,I s3,I 0,I 0,I 0,I 0,yi,yi,I 0,I 0,I 0,I 0,yi,yi]]) (λs=>s) 0 [] rfl (by simp[qr]) EA ?_)
 rintro k rfl;refine EJ ?_;refine ze (aD ?_);refine zk (aA (EJ ?_));refine EJ ?_;refine λc=>((a _ _ _ _ _ _ _ _ _ _ _ _ _ _ _ _ _ _ _ (by rw[zZ];rfl)).mono ?_).v;rintro _ _ ⟨rfl,rfl⟩;refine⟨_,_,yu _ D9 EA,zS c ?_⟩;refine zo (by simp[f]) ?_;refine zB (EJ ?_);refine z8 0 4 rfl rfl ?_;refine z8 0 5 rfl rfl ?_;exact zj (zm g EB (by simp[zr]))
def Zw4(u:List UInt8)(hl:u.length<=1048576)(l:List Int){bd:Int}{e c:Int}(j:(yn u).2=0)(n:Below21 (yn u).1 l bd p e c):PP 7 [T (bs u),L l] (.agg (Vh (Vq (yn u).1 bd p e c))):=by
 have h:=EQ l;have f:=λ(S:Store) (id v:Nat) (s0 s1 s2 s3 x0 x1 x2 x3 x4 x5 r0 r1 r2 r3 r4 r5:PV) hS=>Er (S:=S) (id:=id) (v:=v) (s0:=s0) (s1:=s1) (s2:=s2) (s3:=s3) (x0:=x0) (x1:=x1) (x2:=x2) (x3:=x3) (x4:=x4) (x5:=x5) (r0:=r0) (r1:=r1) (r2:=r2) (r3:=r3) (r4:=r4) (r5:=r5) u hl hS;simp only[if_pos j]at f;obtain⟨⟨a,b,b1⟩,b2,b3,b4,b5,b6⟩:=n;have i:Vq (yn u).1 bd p e c=if Zy e c=0 then ⟨4,bd,qW (yn u).1 p,W (qe (yn u).1 p (yn u).1.y.length),yX (yn u).1 p,p⟩ else ⟨3,bd,0,0,[],[]⟩:=rfl;rw[i];generalize (yn u).2=e0 at *;generalize (yn u).1=y at *;subst j;generalize qW y p=co at *;generalize W (qe y p y.y.length)=ho at *;generalize yX y p=ds at *;generalize ww l=s0 at *;generalize yA l 1=s1 at *;generalize yA l 2=s2 at *;generalize yA l 3=s3 at *;refine c9 func7 λS nx m=>?_;intro v0;refine EJ ?_;refine zu h ?_;intro v1;refine ze (EJ ?_);refine zn (zF (λk:Nat=>k<=4/\(3<=k->Zy e c=0)) (λk=>[(4,.ptr nx v0 0),(5,.ptr (nx+1) v1 0),(21,.lst 4 [.fn (.func 32) [.ptr (nx+1) v1 0] [],.fn (.func 33) [.ptr (nx+1) v1 0] [],.fn (.func 34) [.ptr (nx+1) v1 0] [],.fn (.func 35) [.ptr (nx+1) v1 0] []]),(22,I 4),(23,I k)])
  (λk=>[.cells v0 33 [I 0,I 0,I 0,I 0,yi,yi],.cells v1 71 [T (bs u),I s0,I s1,I s2,I s3,if k=0 then I 0 else I y.days,if k=0 then I 0 else I y.U,if k=0 then I 0 else I y.R,if k=0 then I 0 else I y.len,if k=0 then yi else L y.y,if k=0 then yi else L y.J,
   if k<=1 then I 0 else if k=2 then I 3 else I 4,if k<=1 then I 0 else I bd,if k<=3 then I 0 else I co,if k<=3 then I 0 else I ho,if k<=3 then yi else L ds,if k<=2 then yi else L p]]) (λs=>4-s) 0 [] EA (by simp[qr]) EA ?_)
 rintro k ⟨o,g⟩;refine EJ ?_;refine ze (zA rfl (λhc=>?_) (λhc=>?_));simp at hc;refine zk (aA ?_);obtain rfl|rfl|rfl|rfl:k=0\/k=1\/k=2\/k=3:=D9;refine EJ ?_;refine EJ ?_;refine λd=>((f _ _ _ _ _ _ _ _ _ _ _ _ _ _ _ _ _ _ _ (by rw[zZ];rfl)).mono ?_).v;rintro _ _ ⟨rfl,rfl⟩;refine⟨_,_,yu _ D9 EA,zS d ?_⟩;refine aC (zg ?_);exact zv 1 [] EA D9 (by simp;exact wr 1 D9 D9) rfl EA;refine EJ ?_;refine EJ ?_;refine λd=>((Zwy b1 (by rw[zZ];rfl)).mono ?_).v;rintro _ _ ⟨rfl,rfl⟩;refine⟨_,_,yu _ D9 EA,zS d ?_⟩;refine aC (zg ?_);exact zv 2 [] EA D9 (by simp;exact wr 2 D9 D9) rfl EA;by_cases hf:Zy e c=0;refine EJ ?_;refine EJ ?_;refine λd=>((Es b2 b3 (by rw[zZ];rfl)).mono ?_).v;rintro _ _ ⟨rfl,rfl⟩;simp only[hf,if_true];refine⟨_,_,yu _ D9 EA,zS d ?_⟩;refine aC (zg ?_);exact zv 3 [] ⟨by omega,λ_=>by first|exact hf|trivial⟩ D9 (by simp;exact wr 3 D9 D9) rfl EA;rw[if_neg hf];refine EJ ?_;refine EJ ?_;refine λd=>((Es b2 b3 (by rw[zZ];rfl)).mono ?_).v;rintro _ _ ⟨rfl,rfl⟩;simp only[if_neg hf];refine⟨_,_,yu _ D9 EA,zS d ?_⟩;refine zo (by simp[hf]) ?_;refine zB (EJ ?_);refine z8 0 4 rfl rfl ?_;refine z8 0 5 rfl rfl ?_;exact zj (zm m EB (by simp[zr]));have hf:=g D9;refine EJ ?_;refine EJ ?_;refine λd=>((Zwz (b4 hf) (b5 hf) (b6 hf) (by rw[zZ];rfl)).mono ?_).v;rintro _ _ ⟨rfl,rfl⟩;refine⟨_,_,yu _ D9 EA,zS d ?_⟩;refine aC (zg ?_);exact zv 4 [] ⟨by omega,λ_=>hf⟩ D9 (by simp;exact wr 4 D9 D9) rfl EA;simp at hc;obtain rfl:k=4:=D9;rw[if_pos (g D9)];refine zB (EJ ?_);exact zj (zm m EB (by simp[zr]))
def Q9(a b:Int):Int:=if a.tmod b≠0/\¬a<0 then W (W (a.tdiv b)+1) else W (a.tdiv b)
def YR(c:Cust)(n:Int):Int:=jU (W (W (c.H*n)-c.Q)) 0
def ES(c:Cust)(n:Int):PP 222 [.agg (yf c),I n] (I (YR c n)):=by refine c9 func222 λS nx a=>?_;intro v0;refine EJ ?_;exact zj (zm a EB (by simp[zr,YR]))
def X7(c:Cust):Nat->Int × Int
 |0=>(0,c.Q)
 |k+1=>(W ((X7 c k).1+jU (W ((X7 c k).2-c.H)) 0),W ((X7 c k).2-c.H))
def ey(c:Cust)(n:Nat):Int:=W (c.Y*(X7 c n).1)
def Zw5(c:Cust)(n:Nat)(hn:n<=1000):PP 227 [.agg (yf c),I n] (I (ey c n)):=by refine c9 func227 λS nx e=>?_;intro v0;refine aG (some [nx]) U5 n' ?_;refine ze (EJ ?_);refine zn (zF (λs:Nat × Int × Int=>s.1<=n/\s.2=X7 c s.1) (λ(k,a,b)=>[(1,I n),(2,.ptr nx v0 0),(5,I a),(6,I b),(9,I n),(10,I k)]) (λ_=>[.cells v0 59 (yf c)]) (λs=>n-s.1) (0,0,c.Q) [] ⟨by simp,rfl⟩ EA EA ?_);rintro⟨k,a,b⟩ ⟨f,hs⟩;simp only at f hs ⊢;have d:a=(X7 c k).1:=congrArg Prod.fst hs;have hb:b=(X7 c k).2:=congrArg Prod.snd hs;refine EJ ?_;refine ze (zA rfl (λhc=>?_) (λhc=>?_));simp at hc;refine zk (aA (EJ ?_));refine zg ?_;refine zg ?_;exact zv (k+1,W (a+jU (W (b-c.H)) 0),W (b-c.H)) [] ⟨hc,by rw[d,hb];rfl⟩ ED (by simp[zy k D9]) rfl EA;simp at hc;obtain rfl:k=n:=D9;refine zB (EJ ?_);exact zj (zm e EB (by simp[zr,ey,d]))
def ET(a b:Int)(hb:0<b):PP 174 [I a,I b] (.tup [I (Q9 a b),B true]):=by
 have h0:¬b=0:=D9;have h1:¬b=-1:=D9;have h2:¬b<0:=D9;have e:Q9 a b=if a.tmod b≠0/\¬a<0 then W (W (a.tdiv b)+1) else W (a.tdiv b):=rfl;rw[e];refine c9 func174 λS nx d=>?_;obtain⟨q,hm⟩:∃q:Prop,(a=-9223372036854775808)=q:=⟨_,rfl⟩;by_cases f:q;all_goals
  refine ze (aF [(2,9),(5,12)] (yp h0 h1 hm f zz) ?_);refine aC (aF [] h0 ?_);by_cases h3:a.tmod b=0;rw[if_neg (by simp[h3])];refine ze (aF [(4,24)] (zD h0 h3 zz) ?_);refine aC (EJ ?_);exact EK d;by_cases c:a<0;rw[if_neg (by simp[c])];refine ze (aF [(4,24)] (zM h0 h3 c h2) ?_);refine aC (EJ ?_);exact EK d;rw[if_pos ⟨h3,c⟩];refine ze (aF [(4,24)] (zM h0 h3 c h2) ?_);refine aD ?_;refine zg ?_;refine EJ ?_;exact EK d
def Ja(a b:Int):Int × Bool:=if a=0\/b=0 then (0,true) else if ¬W ((W (a*b)).tdiv b)=a\/(a=-9223372036854775808/\b=-1) then (0,false) else (W (a*b),true)
def Zw6(a b:Int):PP 140 [I a,I b] (.tup [I (Ja a b).1,B (Ja a b).2]):=by unfold Ja;by_cases h0:a=0;rw[if_pos (.inl h0)];refine c9 func140 λS nx c=>?_;refine ze (aF [(2,9)] (zq h0 zz) ?_);refine aD ?_;refine EJ ?_;exact EK c;by_cases h1:b=0;rw[if_pos (.inr h1)];refine c9 func140 λS nx c=>?_;refine ze (aF [(2,9)] (zq h0 h1) ?_);refine aD ?_;refine EJ ?_;exact EK c;rw[if_neg (by simp[h0,h1])];by_cases h2:W ((W (a*b)).tdiv b)=a;by_cases h3:a=-9223372036854775808;by_cases d:b=-1;rw[if_pos (.inr ⟨h3,d⟩)];refine c9 func140 λS nx c=>?_;refine ze (aF [(2,9)] (zq h0 h1) ?_);refine aC (EJ ?_);refine ze (aF [(5,21),(8,24)] (zM h1 h2 (eq_true h3) (eq_true d)) ?_);refine aD ?_;refine EJ ?_;exact EK c;rw[if_neg (by simp[h2,d])];refine c9 func140 λS nx c=>?_;refine ze (aF [(2,9)] (zq h0 h1) ?_);refine aC (EJ ?_);refine ze (aF [(5,21),(8,24)] (zM h1 h2 (eq_true h3) d) ?_);refine aC (EJ ?_);exact EK c;rw[if_neg (by simp[h2,h3])];refine c9 func140 λS nx c=>?_;refine ze (aF [(2,9)] (zq h0 h1) ?_);refine aC (EJ ?_);refine ze (aF [(5,21),(8,24)] (zM h1 h2 h3 zz) ?_);refine aC (EJ ?_);exact EK c;rw[if_pos (.inl h2)];refine c9 func140 λS nx c=>?_;refine ze (aF [(2,9)] (zq h0 h1) ?_);refine aC (EJ ?_);refine ze (aF [(5,21),(8,24)] (zD h1 h2 zz) ?_);refine aD ?_;refine EJ ?_;exact EK c
def J9(x:Int):Int :=
 let u:=IntKind.u64.wrap;let a:=bits BinOp.and IntKind.u64;let x1:=u (a (x.fdiv (2^1)) 6148914691236517205+a x 6148914691236517205);let x2:=u (a (x1.fdiv (2^2)) 3689348814741910323+a x1 3689348814741910323);let x3:=a (u (x2.fdiv (2^4)+x2)) 1085102592571150095;let x4:=u (x3+x3.fdiv (2^8));let x5:=u (x4+x4.fdiv (2^16));let x6:=u (x5+x5.fdiv (2^32))
 bits BinOp.and i64 (W x6) 127
def Zw7(n:Nat):PP 296 [U n] (I (J9 n)):=by refine c9 func296 λS nx a=>?_;refine EJ ?_;refine EJ ?_;refine EJ ?_;refine EJ ?_;refine EJ ?_;refine EJ ?_;refine EJ ?_;exact zj (zm a EB (by simp[zr,J9,IntKind.bits]))
def Zw8(n:Nat):PP 276 [U n] (I (J9 n)):=by have h:=Zw7 n;refine c9 func276 λS nx a=>?_;refine EJ ?_;refine zu h ?_;exact EK a
def ez(i:Nat)(least:Int)(p:Nat):Int:=if i=0\/J9 p<least then J9 p else least
def Z4(ps:List Nat):Nat->Int
 |0=>0
 |k+1=>ez k (Z4 ps k) (ps.getD k 0)
def Zw9(ps:List Nat)(hl:ps.length<=1048576):PP 255 [L ps] (I (Z4 ps ps.length)):=by
 refine c9 func255 λS nx c=>?_;refine EJ ?_;refine ze (EJ ?_);refine zn (zF (λk:Nat=>k<=ps.length) (λk=>[(3,I (Z4 ps k)),(7,L ps),(8,I ps.length),(9,I k)]) (λ_=>[]) (λk=>ps.length-k) 0 [] EA (by simp[Z4]) EA ?_);rintro k g;refine EJ ?_;refine ze (zA rfl (λhc=>?_) (λhc=>?_));simp at hc;obtain⟨p,tl,d,h,a3,e⟩:=zH rfl ps k hc;have f:ps.getD k 0=p:=by rw[Aa,d];rfl
 have a:Z4 ps (k+1)=ez k (Z4 ps k) p:=by rw[<-f];rfl
 have b:=Zw8 p;refine zk (aA (aF [] (zq e hc) ?_));refine EJ ?_;refine zu b ?_;unfold ez at a;generalize Z4 ps k=f0 at *;generalize J9 p=o at *
 by_cases h0:k=0;rw[if_pos (.inl h0)]at a;refine aF [(2,18)] (zq (eq_true h0) zz) ?_;refine aD ?_;refine zg ?_;refine zg ?_;exact zv (k+1) [] hc D9 (by simp[zy k D9,a]) rfl EA;by_cases h1:o<f0;rw[if_pos (.inr h1)]at a;refine aF [(2,18)] (zq h0 h1) ?_;refine aD ?_;refine zg ?_;refine zg ?_;exact zv (k+1) [] hc D9 (by simp[zy k D9,a]) rfl EA;rw[if_neg (by simp only[not_or];exact⟨h0,h1⟩)]at a;refine aF [(2,18)] (zq h0 h1) ?_;refine aC (zg ?_);exact zv (k+1) [] hc D9 (by simp[zy k D9,a]) rfl EA;simp at hc;obtain rfl:k=ps.length:=D9;refine zB (EJ ?_);exact EK c
def Zf(c:Cust)(n cap:Int):Int :=
 if c.kind=1 then Z4 c.D c.D.length else if YR c n=0 then 0 else if xk cap c.size<1 then n else xk (Q9 (YR c n) (xk cap c.size)) n
def EU(c:Cust)(n cap:Int)(e:c.D.length<=1048576):PP 221 [.agg (yf c),I n,I cap] (I (Zf c n cap)):=by
 have hf:=Zw9 c.D e;have d:=ES c n;unfold Zf;generalize Z4 c.D c.D.length=fz at *;generalize YR c n=wz at *
 by_cases a:c.kind=1;rw[if_pos a];refine c9 func221 λS nx b=>?_;intro v0;refine ze (aF [] a ?_);refine zo (by simp[a]) ?_;refine EJ ?_;refine zu hf ?_;exact EK b;rw[if_neg a];by_cases h0:wz=0;rw[if_pos h0];refine c9 func221 λS nx b=>?_;intro v0;refine ze (aF [] a ?_);refine zp (by simp[a]) ?_;refine zk (EJ ?_);refine zu d ?_;refine ze (aF [] h0 ?_);refine zo (by simp[h0]) ?_;refine EJ ?_;exact EK b;rw[if_neg h0];by_cases h1:xk cap c.size<1;rw[if_pos h1];refine c9 func221 λS nx b=>?_;intro v0;refine ze (aF [] a ?_);refine zp (by simp[a]) ?_;refine zk (EJ ?_);refine zu d ?_;refine ze (aF [] h0 ?_);refine zp (by simp[h0]) ?_;refine zk (EJ ?_);refine ze (aF [] h1 ?_);refine zo (by simp[h1]) ?_;refine EJ ?_;exact EK b;rw[if_neg h1];have hc:=ET wz (xk cap c.size) D9;generalize Q9 wz (xk cap c.size)=q at *;refine c9 func221 λS nx b=>?_;intro v0;refine ze (aF [] a ?_);refine zp (by simp[a]) ?_;refine zk (EJ ?_);refine zu d ?_;refine ze (aF [] h0 ?_);refine zp (by simp[h0]) ?_;refine zk (EJ ?_);refine ze (aF [] h1 ?_);refine zp (by simp[h1]) ?_;refine zk (EJ ?_);refine zu hc ?_;refine EJ ?_;exact EK b
def vE(f:Nat->Int):Nat->Int
 |0=>0
 |k+1=>vQ (vE f k) (f k)
def kU(a b:Int):zU (vQ a b):=by unfold vQ zU;split<;>(try split)<;>omega
def EV(f:Nat->Int)(k:Nat):zU (vE f k):=by
 cases k with
 |zero=>show zU 0;exact⟨by decide,by decide⟩
 |succ k=>exact kU _ _
def kV(x:Inst)(g:FuncId)(ps:List PV)(f:Nat->Int)(hx:x.y.length<=1048576)(hf:∀k,zU (f k))
  (h:∀k,k<x.y.length->∀T:Store,(∀o,S o≠.dead->T o=S o)->Spec prog g (ps++[I k]) T (λq S'=>q=I (f k)/\S'=T)) :
  SP 143 [.agg (zE x),.fn (.func g) ps []] S (λq S'=>q=I (vE f x.y.length)/\S'=S):=by
 refine i' func143 λnx c=>?_;have d:∀obs o,S o≠.dead->ext S nx obs o=S o:=λobs o ho=>by apply zL;obtain q|q:=Bc o nx;exact q;exact absurd (c o q) ho
 refine EJ ?_;intro v0;refine EJ ?_;refine ze (EJ ?_);refine zn (zF (λs:Nat × Nat=>s.1<=x.y.length) (λ(k,v)=>[(1,.fn (.func g) ps []),(2,.ptr nx v 0),(5,I (vE f k)),(9,I x.y.length),(10,I k)]) (λ(k,v)=>[.cells v 25 (zE x)]) (λs=>x.y.length-s.1) (0,v0) [] EA (by simp[vE]) EA ?_);rintro⟨k,v⟩ e;simp only at e ⊢;refine EJ ?_;refine ze (zA rfl (λhc=>?_) (λhc=>?_));simp at hc;have b:=dr (vE f k) (f k) (EV f k) (hf k);refine zk (aA (EJ ?_));refine zg ?_;refine λa=>((h k hc _ (d _)).mono ?_).v;rintro _ _ ⟨rfl,rfl⟩;refine⟨_,_,rfl,zS a ?_⟩;refine λa=>((b _).mono ?_).v;rintro _ _ ⟨rfl,rfl⟩;refine⟨_,_,rfl,zS a ?_⟩;refine zg ?_;exact zv (k+1,v) [] hc ED (by simp[zy k D9];rfl) rfl EA;simp at hc;obtain rfl:k=x.y.length:=D9;refine zB (EJ ?_);exact EK c
abbrev Yl(x:Inst)(pa pb ch:PV):List PV:=[I x.days,I x.U,I x.R,I x.len,L x.y,L x.J,pa,pb,ch]
def kW{id ver:Nat}(x:Inst)(pa d e:PV)(k:Nat){c:Cust}(f:S id=.cells ver 208 (Yl x pa d e))(hx:x.y.length<=1048576)(hc:x.y[k]?=some c)(i:c.D.length<=1048576):
  SP 173 [.ptr id ver 0,I k] S (λq S'=>q=I (Zf c x.days x.R)/\S'=S):=by
 have a:=EU c x.days x.R i;have g:k<x.y.length:=(Af.1 hc).1;obtain⟨t,tl,b1,b2,b3,j,l⟩:=el 8 rfl x.y k g;obtain rfl:t=c:=by rw[hc]at b1;exact(inj b1).symm
 refine i' func173 λnx h=>?_;have b:id<nx:=jD h f EA;have x1:∀obs,ext S nx obs id=.cells ver 208 (Yl x pa d e):=λobs=>(zL b).trans f;refine EJ ?_;refine aG (some [id]) Rc (zM x1 g j l) ?_;refine zK (a) n' ?_;exact EK h
def Zxa{id ver:Nat}(x:Inst)(pa d:PV)(b:List Int)(k:Nat){c:Cust}{a:Int}(g:S id=.cells ver 208 (Yl x pa d (L b)))(hx:x.y.length<=1048576)(hc:x.y[k]?=some c)(m:c.D.length<=1048576)(i:b[k]?=some a):
  SP 181 [.ptr id ver 0,I k] S (λq S'=>q=I (W (a*Zf c x.days x.R))/\S'=S):=by
 have e:=λS (h:S id=_)=>kW (S:=S) (id:=id) (ver:=ver) x pa d (L b) k h hx hc m;have j:k<b.length:=(Af.1 i).1;obtain⟨t,tl,b1,b2,b3,n⟩:=zH rfl b k j;obtain rfl:t=a:=by rw[i]at b1;exact(inj b1).symm
 refine i' func181 λnx l=>?_;have f:id<nx:=jD l g EA;have x1:∀obs,ext S nx obs id=.cells ver 208 (Yl x pa d (L b)):=λobs=>(zL f).trans g;refine EJ ?_;refine aG (some [id]) (pures [0,1,2,3,4,5,6,7,8] (.alt 9 (pures [10,11] .done) .stop)) (zD x1 j n) ?_;refine(Spec.mono (e _ (x1 [])) ?_).v;rintro _ _ ⟨rfl,rfl⟩;refine⟨by simp[y8],xE n' ?_⟩;exact EK l
def YS(c:Cust)(n cap:Int):Int:=if c.kind=1 then W (Zf c n cap*c.O) else YR c n
def Zxb{id ver:Nat}(x:Inst)(pa b d:PV)(k:Nat){c:Cust}(j:S id=.cells ver 208 (Yl x pa b d))(hx:x.y.length<=1048576)(hc:x.y[k]?=some c)(m:c.D.length<=1048576):
  SP 175 [.ptr id ver 0,I k] S (λq S'=>q=I (YS c x.days x.R)/\S'=S):=by
 have e:=λS (h:S id=_)=>kW (S:=S) (id:=id) (ver:=ver) x pa b d k h hx hc m;have f:=ES c x.days;have l:k<x.y.length:=(Af.1 hc).1;obtain⟨t,tl,b1,b2,b3,n,o⟩:=el 8 rfl x.y k l;obtain rfl:t=c:=by rw[hc]at b1;exact(inj b1).symm
 refine i' func175 λnx g=>?_;have i:id<nx:=jD g j EA;have x1:∀obs,ext S nx obs id=.cells ver 208 (Yl x pa b d):=λobs=>(zL i).trans j;refine EJ ?_;refine aF [] (zM x1 l n o) ?_;intros;refine ze (EJ ?_);by_cases a:t.kind=1;refine zo (by simp[a]) ?_;refine aG (some [id,nx]) (pures [0,1,3,4] (.alt 2 U9 .stop)) x1 ?_;refine(Spec.mono (e _ (x1 _)) ?_).v;rintro _ _ ⟨rfl,rfl⟩;refine⟨by simp[y8],xE n' ?_⟩
 trace_state
 exact zj (zm g EB (by simp[YS,a,zr]));refine zp (by simp[a]) ?_;refine zk (aG (some [id,nx]) Rh x1 ?_);refine zK (f) n' ?_;exact zj (zm g EB (by simp[YS,a,zr]))
def X8(price:List Int):Nat->Int
 |0=>QZ price 0
 |k+1=>xk (X8 price k) (QZ price k)
def eA(n:Nat)(cap:Int)(c:Cust)(price:List Int):Int :=
 if c.kind=2 then W (W (Zf c n cap*X8 price n)+ey c n) else W (Zf c n cap*X8 price n)
def Xa(n:Nat)(cap:Int)(c:Cust)(price:List Int):Int :=
 if (c.kind=1\/c.X=1)/\(jp n cap c price).2=true then Qp c n price (jp n cap c price).1 else eA n cap c price
def Zxc{o:PV}(c:Cust)(n:Nat)(cap:Int)(p:RowOf S o ns)(hp:∀z∈ns,zU z)(a0:ns.length<=1000)(hm:CustMade c n)(a1:c.D.length<=1000)(hn:n<=60)(a2:CustFits c)(hv:VisOk (jp n cap c ns).1):
  SP 179 [.agg (yf c),I n,I cap,o] S (λq S'=>q=I (Xa n cap c ns)/\S'=S):=by
 have a3:=EU c n cap D9;have a4:=Zw5 c n D9;have r:=λS (p:RowOf S o ns)=>ks (S:=S) c n cap p hp a0 hm a1 hn;have t:=λS (p:RowOf S o ns)=>ko (S:=S) c n (jp n cap c ns).1 p a2 hv;have w:=λS (p:RowOf S o ns) (d:Int)=>ki (S:=S) d p;obtain⟨i,b⟩:∃i,i=Xa n cap c ns:=⟨_,rfl⟩;rw[<-b];unfold Xa at b;generalize jp n cap c ns=az at *;obtain⟨av,f⟩:=az;simp only at b r t;have g:(c.kind=1\/c.X=1)->f=true->i=Qp c n ns av:=λh1 h2=>by rw[b,if_pos ⟨h1,h2⟩]
 have m:¬((c.kind=1\/c.X=1)/\f=true)->i=eA n cap c ns:=λh=>by rw[b,if_neg h]
 clear b;unfold eA at m;generalize Qp c n ns av=cv at *;generalize Zf c n cap=fo at *;generalize ey c n=ke at *;refine i' func179 λnx x=>?_;have e:=λobs=>p.ext x obs;refine EJ ?_;intro v0;refine ze (qg (nx:=nx) (σ:=Unit) (λ_=>¬((c.kind=1\/c.X=1)/\f=true)) (λ_=>[(1,I n),(2,I cap),(3,o),(4,.ptr nx v0 0)]) (λ_=>S) (λ_=>[.cells v0 59 (yf c)]) ?_ ?_);by_cases u:c.kind=1
 .refine aF [(3,17)] (zq u zz) ?_;refine aD ?_;refine EJ ?_;refine λa=>((r _ (e _)).mono ?_).v;rintro _ _ ⟨rfl,rfl⟩;refine⟨_,_,rfl,zS a ?_⟩;refine EJ ?_;cases f with
  |true =>
  refine aD ?_;refine EJ ?_;refine λa=>((t _ (e _)).mono ?_).v;rintro _ _ ⟨rfl,rfl⟩;refine⟨_,_,rfl,zS a ?_⟩;exact zj (zm x EB (by rw[g (.inl u) rfl];rfl))
  |false =>
  refine aE ?_;exact zk (zY () [] EA EA rfl EA)
 by_cases j:c.X=1
 .refine aF [(3,17)] (zq u j) ?_;refine aD ?_;refine EJ ?_;refine λa=>((r _ (e _)).mono ?_).v;rintro _ _ ⟨rfl,rfl⟩;refine⟨_,_,rfl,zS a ?_⟩;refine EJ ?_;cases f with
  |true =>
  refine aD ?_;refine EJ ?_;refine λa=>((t _ (e _)).mono ?_).v;rintro _ _ ⟨rfl,rfl⟩;refine⟨_,_,rfl,zS a ?_⟩;exact zj (zm x EB (by rw[g (.inr j) rfl];rfl))
  |false =>
  refine aE ?_;exact zk (zY () [] EA EA rfl EA)
 refine aF [(3,17)] (zq u j) ?_;refine aE ?_;exact zk (zY () [] (λh=>h.1.elim u j) EA rfl EA);rintro _ hl;have y:=m hl;refine EJ ?_;refine λa=>((w _ (e _) 0).mono ?_).v;rintro _ _ ⟨rfl,rfl⟩;refine⟨_,_,rfl,zS a ?_⟩;refine ze (EJ ?_);refine zn (zF (λs:Nat × Nat=>s.1<=n) (λ(k,v)=>[(1,I n),(2,I cap),(3,o),(4,.ptr nx v 0),(11,I (X8 ns k)),(38,I n),(39,I k)]) (λ(k,v)=>[.cells v 59 (yf c)]) (λs=>n-s.1) (0,v0) [] EA (by simp[X8]) EA ?_);rintro⟨k,v⟩ u;simp only at u ⊢;refine EJ ?_;refine ze (zA rfl (λhc=>?_) (λhc=>?_));simp at hc;refine zk (aA (EJ ?_));refine zg ?_;refine λa=>((w _ (e _) k).mono ?_).v;rintro _ _ ⟨rfl,rfl⟩;refine⟨_,_,rfl,zS a ?_⟩;refine zg ?_;exact zv (k+1,v) [] hc ED (by simp[zy k D9,X8]) rfl EA;simp at hc;obtain rfl:k=n:=D9;generalize X8 ns k=lp at *;refine zB (EJ ?_);refine zu a3 ?_;refine ze (EJ ?_);by_cases l:c.kind=2;rw[if_pos l]at y;refine zo (by simp[l]) ?_;refine zg ?_;refine zu a4 ?_;refine EJ ?_;exact zj (zm x EB (by rw[y];rfl));rw[if_neg l]at y;refine zp (by simp[l]) ?_;refine zk (EJ ?_);exact zj (zm x EB (by rw[y];rfl))
def Zxd(x:Inst)(a b:List Int)(k:Nat)(n:k<x.y.length)(hn:x.y.length<=1048576)(o:a.length=x.y.length+1)(hb:b.length=x.y.length+1):
  PP 178 [.agg (zE x),.agg [L a,L b],I k] (I (W (a.getD (k+1) 0+b.getD (k+1) 0))):=by
 obtain⟨t,tl,b1,b2,b3,f⟩:=zH rfl a (k+1) D9;obtain⟨u,i,c1,c2,c3,g⟩:=zH rfl b (k+1) D9;have j:a.getD (k+1) 0=t:=by rw[Aa,b1];rfl
 have e2:b.getD (k+1) 0=u:=by rw[Aa,c1];rfl
 rw[j,e2];have c:k+1<a.length:=D9;have d:k+1<b.length:=D9;have h0:¬(k:Int)<0:=D9;have h1:¬(x.y.length:Int)<=k:=D9;have h:i64.wrap ((k:Int)+1)=((k+1:Nat):Int):=zy k D9;obtain⟨k1,e⟩:∃m,m=k+1:=⟨_,rfl⟩;rw[<-e]at f g c d h;refine c9 func178 λS nx l=>?_;intro v0 v1;refine ze (aF [(2,9)] (zq h0 h1) ?_);refine aC (aG (some [nx,nx+1]) Rj (yp h f g c d) ?_);exact EK l
def Z5(x:Inst)(c:Nat):Nat->Int
 |0=>arc x 0 c
 |k+1=>if k≠c then xk (Z5 x c k) (arc x k c) else Z5 x c k
def Jb(x:Inst)(c:Nat):Nat->Int
 |0=>arc x c 0
 |k+1=>if k≠c then xk (Jb x c k) (arc x c k) else Jb x c k
def wW(x:Inst):List Int:=(range x.y.length).map λi=>Z5 x (i+1) (x.y.length+1)
def X9(x:Inst):List Int:=(range x.y.length).map λi=>Jb x (i+1) (x.y.length+1)
def Zxe(x:Inst)(k:Nat)(h:k<x.y.length):(wW x).take (k+1)=(wW x).take k++[Z5 x (k+1) (x.y.length+1)]:=by rw[Ax];congr 1;unfold wW;rw[Ai,Bg h];rfl
def Zxf(x:Inst)(k:Nat)(h:k<x.y.length):(X9 x).take (k+1)=(X9 x).take k++[Jb x (k+1) (x.y.length+1)]:=by rw[Ax];congr 1;unfold X9;rw[Ai,Bg h];rfl
def Zxg(x:Inst)(hn:x.y.length<=1048576):PP 180 [.agg (zE x)] (.tup [L (wW x),L (X9 x)]):=by
 have b:=ul x;have w:=Zxe x;have y:=Zxf x;have f:(wW x).length=x.y.length:=by simp[wW]
 have g:(X9 x).length=x.y.length:=by simp[X9]
 generalize wW x=A at *;generalize X9 x=B at *;refine c9 func180 λS nx z=>?_;intro v0;refine EJ ?_;refine qa 4 3 1 rfl λv1=>?_;refine qa 5 3 1 rfl λv2=>?_;refine ze (EJ ?_);refine zn (zF (λs:Nat × Nat × Nat × Nat=>s.1<=x.y.length) (λ(k,v,d,w2)=>[(1,.ptr nx v 0),(4,.sl (nx+1) d 1 0 k),(5,.sl (nx+2) w2 1 0 k),(13,I x.y.length),(14,I k)]) (λ(k,v,d,w2)=>[.cells v 25 (zE x),.cells d 3 ((A.take k).flatMap enc),.cells w2 3 ((B.take k).flatMap enc)]) (λs=>x.y.length-s.1) (0,v0,v1,v2) [] EA EA EA ?_);rintro⟨k,v,d,w2⟩ hk;simp only at hk ⊢;refine EJ ?_;refine ze (zA rfl (λhc=>?_) (λhc=>?_));simp at hc;have u:i64.wrap ((k:Int)+1)=((k+1:Nat):Int):=zy k D9;obtain⟨a,c⟩:∃m,m=k+1:=⟨_,rfl⟩;rw[<-c]at u;have h:=w k hc;have i:=y k hc;rw[<-c]at h i;refine zk (aA (EJ ?_));refine aF [] u ?_;refine aG (some [nx]) Rh n' ?_;refine zK (b 0 a) n' ?_;refine zK (b a 0) n' ?_;have wn:i64.wrap ((x.y.length:Int)+1)=(x.y.length:Int)+1:=by rw[AD];omega
 refine ze (aF [] wn ?_);refine zn (zF (λs:Nat × Nat=>s.1<=x.y.length+1) (λ(j,v)=>[(1,.ptr nx v 0),(4,.sl (nx+1) d 1 0 k),(5,.sl (nx+2) w2 1 0 k),(7,I a),(8,I (Z5 x a j)),(9,I (Jb x a j)),(13,I x.y.length),(14,I k),(28,I ((x.y.length:Int)+1)),(29,I j)]) (λ(j,v)=>[.cells v 25 (zE x),.cells d 3 ((A.take k).flatMap enc),.cells w2 3 ((B.take k).flatMap enc)]) (λs=>x.y.length+1-s.1) (0,v) [] EA (by simp[Z5,Jb]) EA ?_);rintro⟨j,v⟩ hj;simp only at hj ⊢;refine EJ ?_;by_cases a0:j<x.y.length+1;have a1:(j:Int)<(x.y.length:Int)+1:=D9;refine ze (zo ED ?_);refine zk (aA (EJ ?_));refine EJ ?_;by_cases e:j=a;have l:i64.wrap ((a:Int)+1)=(a:Int)+1:=by rw[AD];omega
 refine zp (by simp[e]) ?_;refine zk (zg ?_);exact zv (j+1,v) [] ED ED (by simp[l,Z5,Jb,e]) rfl EA;refine zo ED ?_;refine EJ ?_;refine zu (b j a) ?_;refine zg ?_;refine zu (b a j) ?_;refine zg ?_;exact zv (j+1,v) [] ED ED (by simp[zy j D9,Z5,Jb,e]) rfl EA;obtain rfl:j=x.y.length+1:=D9;refine ze (aE ?_);refine zB ?_;have n:((A.take k).flatMap enc).length=k:=by rw[jV];simp;omega
 have o:((B.take k).flatMap enc).length=k:=by rw[jV];simp;omega
 have p:List.take k ((A.take k).flatMap enc)=(A.take k).flatMap enc:=Ad (by rw[n];exact Ag _);have q:List.take k ((B.take k).flatMap enc)=(B.take k).flatMap enc:=Ad (by rw[o];exact Ag _);have r:(A.take (k+1)).flatMap enc=(A.take k).flatMap enc++[I (Z5 x a (x.y.length+1))]:=by rw[<-c,h,Ap];rfl
 have t:(B.take (k+1)).flatMap enc=(B.take k).flatMap enc++[I (Jb x a (x.y.length+1))]:=by rw[<-c,i,Ap];rfl
 refine zi [] (zq p q) ?_;refine⟨by omega,by omega,?_⟩;refine zg ?_;exact zv (k+1,v,d+1,w2+1) [] hc ED (by simp[zy k D9]) rfl (by simp only[r,t,Ay]);simp at hc;obtain rfl:k=x.y.length:=D9;rw[show A.take x.y.length=A from Ad D9,show B.take x.y.length=B from Ad D9];refine zB (yc 1 rfl ?_);refine yc 2 rfl ?_;refine aF [] (zq f g) ?_;exact zj (zm z EB (by simp[zr,f,g]))
end Go.Proofs.YtdjbbndbalhekaaGreatDoor.Pv
