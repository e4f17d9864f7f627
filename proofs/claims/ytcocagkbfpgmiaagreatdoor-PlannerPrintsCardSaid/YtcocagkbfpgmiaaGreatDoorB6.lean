/- Part of a proof, packed. -/
import Derived.Test.YtcocagkbfpgmiaaGreatDoorB5
open Go.Proofs.Tryz
set_option maxRecDepth 100000
set_option maxHeartbeats 3200000
namespace Go.Proofs.YtcocagkbfpgmiaaGreatDoor.Pv
open Go Go.Proofs
abbrev wl(ls:List (List (List UInt8))):List (List ByteArray):=ls.map (·.map bs)
def Jh(o:Option (List (List (List UInt8)))):PV:=match o with
 | none=>.tup [yU,I 2]
 | some ls=>.tup [L (wl ls),I 0]
theorem vQ(a:ByteArray):yC .neq a a=some (.bool false):=by simp[yC]
theorem Zbl{a b:ByteArray}(h:a≠b):yC .neq a b=some (.bool true):=by
 have h2:¬a.toList=b.toList:=λe=>h (ZdQ e)
 simp[yC,h2]
theorem Ztk(t:List UInt8)(hl:t.length<=1048576):Pure prog 101 [T (bs t)] (Jh (jf t)):=by
 refine zx func101 ntmps101 results101 λS nx hd=>?_
 refine DY ?_;refine DY ?_;refine ze (q9 4 81 1 rfl λv1=>?_);refine zn (zK (λs:List UInt8 × List (List (List UInt8)) × Nat=>s.1.length<=t.length/\s.2.1.length+s.1.length<=t.length/\jf t=(jf s.1).map (s.2.1++·)) (λ(r,ls,v)=>[(0,T (bs r)),(4,.sl nx v 1 0 ls.length)]) (λ(r,ls,v)=>[.cells v 81 ((wl ls).flatMap Enc.enc)]) (λs=>s.1.length) (t,[],v1) [] ⟨Ag _,by simp,by simp⟩ DP DP ?_);rintro⟨r,ls,v1⟩ ⟨hr,a2,l⟩;simp only at hr a2 l ⊢;have a6:r.length<=1048576:=DO
 by_cases h0:r=[]
 ·subst h0
  repeat apply ze
  refine zi [] vQ ?_;refine zp DP ?_;refine zC (yh 0 rfl ?_);refine DY ?_;rw[X8]at l;exact zj (zm hd DQ (by simp[zr,l,Jh]))
 ·have a3:bs r≠bs []:=λh=>h0 (Zio.1 h)
  have c:=Ztg r 10 DO;unfold Zec at c
  repeat apply ze
  refine zi [] (Zbl a3) ?_;refine zo DP ?_;refine zk (zn ?_);cases d:xV 10 r with
  | none =>
   rw[d]at c;simp only[]at c;refine DY ?_;refine zv c ?_
   repeat apply ze
   refine zg ?_;refine zo DP ?_;refine DY ?_;exact zj (zm hd DQ (by rw[l,Zij h0 d];rfl))
  | some p =>
   obtain⟨a,b⟩:=p;rw[d]at c;simp only[]at c;have g:=Za7 d;obtain⟨m,a7⟩:=J3 d;have a8:a.length+b.length+1=r.length:=by rw[m];simp;omega
   have e:=Ztj a 32 DO;have a4:=ZrG 32 a;have n:∀w∈yT 32 a,w.length<=1048576:=λw f=>by have:=ZrH 32 a w f;omega
   obtain⟨ws,o⟩:∃ws,ws=yT 32 a:=⟨_,rfl⟩;rw[<-o]at g e a4 n;refine DY ?_;refine zv c ?_
   repeat apply ze
   refine zg ?_;refine zp DP ?_;refine zk (DY ?_);refine zv e ?_
   repeat apply ze
   refine zg ?_;refine zn (zK (λk:Nat=>k<=ws.length/\∀w∈ws.take k,um w=true) (λk=>[(4,.sl nx v1 1 0 ls.length),(6,T (bs b)),(8,L (ws.map bs)),(23,L (ws.map bs)),(24,I ws.length),(25,I k)]) (λ_=>[.cells v1 81 ((wl ls).flatMap Enc.enc)]) (λk=>ws.length-k) 0 [] DP DP DP ?_);rintro k ⟨hk,i⟩;refine DY ?_;refine ze (zA rfl (λhc=>?_) (λhc=>?_))
   ·simp at hc;obtain⟨t',tl,b1,b2,b3,f0⟩:=zN rfl (ws.map bs) k (by simpa using hc);obtain⟨u,hu,rfl⟩:∃u,ws[k]?=some u/\bs u=t':=by rw[Aj]at b1;simpa using b1
    have q:k<ws.length:=by simpa using hc
    have j:=ZrO u (by have:=n u (Ab hu);omega);refine zk (ze (zn (ze (zi [] (zq f0 q) ?_))));refine DY ?_;refine zv j ?_;cases y:um u with
    | false =>
     refine zo DP ?_;refine DY ?_;have z:jf r=none:=ZrJ d (k:=k) (w:=u) (by rw[<-o];exact hu) y;exact zj (zm hd DQ (by rw[l,z];rfl))
    | true =>
     refine zp DP ?_;refine zk (zg ?_);exact zu (k+1) [] ⟨q,by
      rw[AC,hu];intro w f;rw[AB]at f;rcases f with f | f
      ·exact i w f
      ·obtain rfl:w=u:=by simpa using f
       exact y⟩ DO (by simp[zy k (by omega)]) rfl DP
   ·simp at hc;obtain rfl:k=ws.length:=DO
    rw[Ai]at i;rw[if_pos (Aw.2 i)]at g;refine zC ?_;have a0:(wl ls).length=ls.length:=DP
    have a5:((wl ls).flatMap Enc.enc).take ls.length=(wl ls).flatMap Enc.enc:=by rw[<-a0];exact ZlN _
    refine ze (zi [] a0 ?_);refine⟨by omega,?_⟩;refine zg ?_;rw[a5];have a1:b.length<r.length:=DO
    exact zu (b,ls++[ws],v1+1) [] ⟨AF (DE a1) hr,by simp;omega,by rw[l,g,Option.map_map];congr 1;funext x;simp⟩ a1 DP rfl DP
open Go Go.Proofs Go.RowKit Go.Shelf
theorem Ztl{C:Ctx}{S:Store}{w:World}{b:UInt8}{v:Value}(h:Rel C S w (U8 b) v):v=.int .u8 (b.toNat:Int):=by cases h;rfl
theorem Ztm(k:Nat)(a:2<=k):liesAt prog prog.depth 113 (k / prog.cellsOf 113) 0 113 1=true:=by
 have hc:prog.cellsOf 113=2:=DR
 have hl:sameLayout prog prog.depth 113 113=true:=DR
 obtain⟨d,b⟩:∃d,prog.depth=d+1:=⟨prog.depth-1,by kernel_rfl⟩;have h1:1<=k / 2:=DO
 simp_all[liesAt,rowAt]
theorem Ztn(b k:Nat)(w:World)(h0:w.cell? ⟨b,0,none⟩=some (.pointer none))(a:w.shape? b=some (113,k))(f:2<=k)(g:w.frozen? ⟨b,0,none⟩=false):
  Calls prog 98 #[.pointer (some ⟨b,0,none⟩)] w λe w'=>e=.returned (.tuple #[])/\w'=w.setCell ⟨b,0,none⟩ (.pointer (some ⟨b,0,none⟩)):=by
 obtain⟨j,d,c⟩:∃j,prog.info? 113=some j/\j.size=2:=by
  have:(prog.info? 113).map (·.size)=some 2:=DR
  exact Ap.1 this
 go_enter func98,ntmps98
 go_wp2
 rw[Lib.run_to_unsafe w ⟨b,0,none⟩ underlying110 underlying191 d (by rw[c];decide) a (by show 0<k;omega)];simp only[Result.andThen];rw[Oper.upon_value]
 go_wp2
 rw[run_callFunc_extern func134 DR DR DR (e:=Extern.AbiNoEscape.same) DR];rw[Lib.run_noEscape];simp only[Result.andThen];rw[Oper.upon_value]
 go_wp2
 rw[Lib.run_from_unsafe w ⟨b,0,none⟩ underlying191 underlying110 d a (Ztm k f)];simp only[Result.andThen];rw[Oper.upon_value]
 go_wp2
 go_end0
 simp
theorem YN(S:Store)(o:Nat)(x:Ob)(h:S o=x):S.set o x=S:=by grind[Store.set]
theorem Zed{vs:Array Value}(h:1=vs.size):∃v,vs=#[v]:=by
 match vs,h with
 | ⟨[v]⟩,_=>simp
theorem Zjd{vs:Array Value}(h:2=vs.size):∃u v,vs=#[u,v]:=by
 match vs,h with
 | ⟨[u,v]⟩,_=>simp
theorem Zee{C:Ctx}{S:Store}{w:World}(a:Sim C S w){id v e:Nat}{p s:PV}(h:S id=.cells v e [p,s]):∃(b k:Nat) (c:Array Value) (c0 c1:Value),C.loc id=some (b,k)/\w.heap[b]?=some (.cells c e (0,0))/\c.size=k/\2<=k/\c[0]?=some c0/\c[1]?=some c1/\Rel C S w p c0/\Rel C S w s c1 /\
  (∀(i:Nat) (u:Value),i<2->c[i]?=some u->u.oneCell'=true):=by
 rcases a.cells id v e _ h with ⟨_,hn⟩ | ⟨b,k,c,g1,d,g3,g4,f,g⟩
 ·cases hn
 ·simp only[Ae,Ah]at g4;have j:c[0]?=some (c[0]' DO):=AY DO
  grind
theorem Zje{S:Store}{id v:Nat}{p s:PV}(f:S id=.cells v 113 [p,s])(r:p=.sc (.pointer none)\/p=.ptr id v 0):
  Spec prog 98 [.ptr id v 0] S (λ_ S'=>S'=S.set id (.cells v 113 [.ptr id v 0,s])):=by
 refine⟨qx func98 DU rfl,?_⟩;intro C w vs h hl t;obtain⟨u,rfl⟩:=Zed hl;have g:=t 0 _ u rfl rfl;cases g with
 | ptr h1 h2 h3 =>
  obtain⟨b,k,a,rfl⟩:=(h3 v (by rw[f];rfl)).2 rfl;obtain⟨b',k',c,c0,c1,g1,o,g3,g4,x,e1,r0,r1,g5⟩:=Zee h f;rw[a]at g1;cases g1;have d:w.cell? ⟨b,0,none⟩=some c0:=by simp[World.cell?,o,x]
  have m:Rel C S w (.ptr id v 0) (.pointer (some ⟨b,0,none⟩)):=.ptr h1 h2 h3;rcases r with rfl | rfl
  ·cases r0;refine(Ztn b k w d (by simp_all[World.shape?]) g4 (by simp_all[World.frozen?])).mono ?_;rintro e w' ⟨rfl,rfl⟩;have y:(w.setCell ⟨b,0,none⟩ (.pointer (some ⟨b,0,none⟩))).heap[b]?=some (.cells (c.setIfInBounds 0 (.pointer (some ⟨b,0,none⟩))) 113 (0,0)):=by
    simp[World.setCell,BB,o]
   obtain⟨z,t2⟩:=h.turn (l:=C.loc id) (ver':=v) (cs':=[.ptr id v 0,s]) f (Ag _) (λ_=>rfl) (w':=w.setCell ⟨b,0,none⟩ (.pointer (some ⟨b,0,none⟩)))
    (by rw[a];exact⟨⟨rfl,rfl,rfl,by simp,λj _ hj=>by grind[World.setCell]⟩,Ag _⟩)
    (.inr ⟨b,k,_,a,.inr (by rw[a];rfl),y,by simp[g3],g4,λi u hi g=>by
      match i,hi with
      | 0,_=>rw[B0 DO]at g;cases g;rfl
      | 1,_=>grind,
     λi q u hq g=>by grind⟩)
   exact⟨.junk,_,_,_,rfl,rfl,.junk _,z,t2⟩
  ·have n:c0=.pointer (some ⟨b,0,none⟩):=by
    cases r0 with
    | ptr i1 i2 i3 =>
     obtain⟨b2,k2,a0,rfl⟩:=(i3 v (by rw[f];rfl)).2 rfl
     simp_all
   subst n;refine(Any.Builder_copyCheck_used { lays156 with } Builder_Extra_156.toX72 b w d).mono ?_;rintro e w' ⟨rfl,rfl⟩;exact⟨.junk,_,_,_,rfl,(YN S id _ f).symm,.junk _,h,.refl _ _ _⟩
theorem Sim.lose{C:Ctx}{S:Store}{w w':World}{id:Nat}(h:Sim C S w)(g:S id≠.dead)(a:w.grownBy w' ((C.loc id).map (·.1))/\w.drawn<=w'.drawn):Sim C (S.set id .dead) w'/\Step C S w C (S.set id .dead) w':=by
 have hold:∀o,(S.set id .dead) o≠.dead->o≠id/\(S.set id .dead) o=S o:=by
  intro o ho
  by_cases e:o=id
  ·simp_all
  ·simp_all[q10]
 have d:∀i b k,i≠id->S i≠.dead->C.loc i=some (b,k)->some b≠(C.loc id).map (·.1):=by
  intro i b k hi r hb j;cases ho:C.loc id with
  | none=>simp_all
  | some x =>
   obtain⟨b2,q⟩:=x;rw[ho]at j;cases j;exact hi (h.dist i id _ _ _ r g hb ho)
 have st:Step C S w C (S.set id .dead) w':=by
  refine⟨a.1.os,⟨a.1.tape,a.2⟩,a.1.output,a.1.size,Ag _,Ag _,λb n hM=>⟨a.1.block b n λe=>?_,?_⟩,λo v1 hv=>?_⟩
  ·cases ho:C.loc id with
   | none=>simp_all
   | some x =>
    obtain⟨b2,q⟩:=x;rw[ho]at e;cases e;exact hM ⟨id,q,g,ho⟩
  ·rintro⟨o,k,ho,hl⟩;obtain⟨f,e2⟩:=hold o ho;rw[e2]at ho;exact hM ⟨o,k,ho,hl⟩
  ·obtain⟨f,e2⟩:=hold o (by intro e;rw[e]at hv;cases hv)
   simp_all
 refine⟨⟨λo ho=>?_,λo v hv=>?_,λo o' b k k' h1 h2 h3 s=>?_,λo v e cs ho=>?_,λo v es ho=>?_⟩,st⟩
 ·obtain⟨f,e2⟩:=hold o ho;rw[e2]at ho;exact h.lt o ho
 ·obtain⟨f,e2⟩:=hold o (by intro e;rw[e]at hv;cases hv);rw[e2]at hv;exact h.clk o v hv
 ·obtain⟨f,e2⟩:=hold o h1;obtain⟨e3,t⟩:=hold o' h2;rw[e2]at h1;rw[t]at h2;exact h.dist o o' b k k' h1 h2 h3 s
 ·obtain⟨f,e2⟩:=hold o (by rw[ho];simp);rw[e2]at ho;rcases h.cells o v e cs ho with hn | ⟨b,k,c,g1,l,g3,g4,y,z⟩
  ·exact .inl hn
  ·exact .inr ⟨b,k,c,g1,(a.1.block b (qN l) (d o b k f (by rw[ho];simp) g1)).trans l,g3,g4,y,λi p u hp hu=>(z i p u hp hu).mono st⟩
 ·obtain⟨f,e2⟩:=hold o (by rw[ho];simp);rw[e2]at ho;obtain⟨b,k,ms,cl,g1,l,g3,g4⟩:=h.maps o v es ho;exact⟨b,k,ms,cl,g1,(a.1.block b (qN l) (d o b k f (by rw[ho];simp) g1)).trans l,g3,λi x m j hm=>⟨(g4 i x m j hm).1,(g4 i x m j hm).2.mono st⟩⟩
theorem Zto(b g cap:Nat)(c cur:Array Value)(l:List UInt8)(w:World)(f:w.heap[b]?=some (.cells c 113 (0,0)))(h1:c[1]?=some (.slice (some ⟨g,0,none⟩) l.length cap))(h0:l≠[])(i:l.length<=140737488355328)
  (m:w.heap[g]?=some (.cells cur 5 (0,0))) (d:l.length<=cur.size) (k:l.length<=cap) (a:∀(j:Nat) (x:UInt8),l[j]?=some x->cur[j]?=some (.int .u8 (x.toNat:Int))) :
  Calls prog 64 #[.pointer (some ⟨b,0,none⟩)] w λe w'=>e=.returned (.string (bs l))/\w'=w.drew.freeze ⟨g,0,none⟩ l.length:=by
 have n:l.length≠0:=by simpa using h0
 have c1:w.drew.cell? ⟨b,1,none⟩=some (.slice (some ⟨g,0,none⟩) l.length cap):=by
  have:w.drew.heap[b]?=some (.cells c 113 (0,0)):=f;rw[Lib.cell_of_heap this];exact h1
 have h:w.drew.heap[g]?=some (.cells cur 5 (0,0)):=m;have o:(Builtin.unsafeSliceData_ #[111] 161 #[.slice (some ⟨g,0,none⟩) l.length cap]).run prog w.drew=.ok (.pointer (some ⟨g,0,none⟩)) w.drew :=
  Lib.run_unsafeSliceData_row _ _ _ _ _ _ DO
 have p:(Builtin.unsafeString_ #[161,3] 9 #[.pointer (some ⟨g,0,none⟩),.int .i64 l.length]).run prog w.drew=.ok (.string (bs l)) (w.drew.freeze ⟨g,0,none⟩ l.length):=by
  refine Lib.run_unsafeString_row w.drew 161 3 9 5 underlying161 DP g cur.size (by simp_all[World.shape?]) l h0 d DO ?_;intro j x hx;rw[Addr.add_plain,AS];simp[World.cell?,h,a j x hx]
 go_enter func64,ntmps64
 go_wp2
 go_region
 all_goals (go_wp2;go_ret;simp)
theorem Zef{S:Store}{id v ib w0:Nat}{p:PV}(l:List UInt8)(o:S id=.cells v 113 [p,.sl ib w0 1 0 l.length])(h:S ib=.cells w0 5 (l.map U8))(h0:l≠[])(d:l.length<=140737488355328):
  Spec prog 64 [.ptr id v 0] S (λq S'=>q=T (bs l)/\S'=S.set ib .dead):=by
 refine⟨qx func64 DU rfl,?_⟩;intro C w vs m hl t;obtain⟨u,rfl⟩:=Zed hl;have y:=t 0 _ u rfl rfl;have n:l.length≠0:=by simpa using h0
 cases y with
 | ptr h1 h2 h3 =>
  obtain⟨b,k,f,rfl⟩:=(h3 v (by rw[o];rfl)).2 rfl;obtain⟨b',k',c,c0,c1,g1,z,g3,g4,e0,e1,r0,r1,g5⟩:=Zee m o;rw[f]at g1;cases g1;cases r1 with
  | sl i1 i2 i3 =>
   rcases (i3 w0 (by rw[h];rfl)).2 rfl with ⟨_,q,_⟩ | ⟨g,kg,ad,cap,hlg,rfl,hq0,hq1⟩
   ·omega
   obtain⟨rfl,hq⟩:=hq0 rfl;obtain⟨a1,cp,e2,c3,_⟩:=i1;cases e2;rcases m.cells ib w0 _ _ h with ⟨hn,_⟩ | ⟨b2,k2,cur,r,f2,f3,f4,f5,f6⟩
   ·simp_all
   rw[hlg]at r;cases r;rw[List.length_map]at f4;have a:∀(j:Nat) (x:UInt8),l[j]?=some x->cur[j]?=some (.int .u8 (x.toNat:Int)):=by
    intro j x hx;have s:=(Ad.1 hx).1;have hc:=AY (xs:=cur) (i:=j) DO;rw[hc,Ztl (f6 j (U8 x) _ DW hc)]
   refine(Zto b g cap c cur l w z e1 h0 d f2 DO c3 a).mono ?_;rintro e w' ⟨rfl,rfl⟩;obtain⟨t1,t2⟩:=m.lose (id:=ib) (w':=w.drew.freeze ⟨g,0,none⟩ l.length) (by rw[h];simp) (by
    rw[hlg];unfold World.freeze;rw[if_neg n];exact⟨⟨rfl,rfl,rfl,by simp,λj _ s=>by
     rw[BB,if_neg (λe=>s (by rw[<-e];rfl))];rfl⟩,CO _⟩)
   exact⟨_,_,_,_,rfl,⟨rfl,rfl⟩,.sc _,t1,t2⟩
open Go Go.Proofs Go.RowKit Go.Shelf
theorem Ztp{w:Wd}{i:Nat}{c:UInt8}(h:w[i]?=some c)(h1:¬(c.toNat=48\/c.toNat=49)):ju w=false:=by
 unfold ju;have:w.all (λc=>decide (c.toNat=48\/c.toNat=49))=false:=by
  rw[Bm];exact⟨c,Ab h,by simpa using h1⟩
 rw[this,CA]
theorem Ztq{w:Wd}{i:Nat}{c:UInt8}(h:w[i]?=some c):jT w (i+1)=if c=49 then jo (jT w i) i else jT w i:=by
 have:w.getD i 0=c:=by rw[Aa,h];rfl
 show (if w.getD i 0=49 then jo (jT w i) i else jT w i)=_
 rw[this]
def qM(w:Wd):Nat × Int:=if ju w=true then if 64<w.length then (0,3) else (jT w w.length,0) else (0,2)
theorem Ztr(n d:Nat)(hn:n<2 ^ 64)(w:World):Calls prog 226 #[.int .u64 n,.int .i64 d] w λe w'=>e=.returned (.int .u64 (jo n d))/\w'=w:=by
 go_enter func226,ntmps226
 by_cases h:(d:Int)<64
 ·have h3:=ZhR d DO;have b:bits BinOp.or IntKind.u64 (n:Int) (2 ^ d)=((n ||| 2 ^ d:Nat):Int):=by
   have:=bits_or_u64_nat n (2 ^ d) DO (by have:(2:Nat) ^ d<2 ^ 64:=Cz (by decide) (by omega);omega);simpa using this
  have a:jo n d=n ||| 2 ^ d:=by unfold jo;rw[if_pos ⟨by omega,h⟩];rfl
  go_wp2
  go_ret
  exact⟨by show Ending.returned (.int .u64 ((n ||| 2 ^ d:Nat):Int))=_;rw[a],rfl⟩
 ·have a:jo n d=n:=by unfold jo;rw[if_neg DO]
  go_wp2
  go_ret
  exact⟨rfl,rfl⟩
theorem Zts(s:Wd)(hl:s.length<=1048576)(w:World):Calls prog 191 #[.string (bs s)] w λe w'=>e=.returned (.tuple #[.int .u64 (qM s).1,.int .i64 (qM s).2])/\∃i,w'=w.iter (bs s) i:=by
 have a0:=xU s
 go_enter func191,ntmps191
 go_wp2
 go_loopg [4,5] s.length (λg s4 s5 wx=>∃i:Nat,i+g=s.length/\s4=.int .u64 (jT s i)/\s5=.int .i64 i/\wx=w.iter (bs s) i/\∀c∈s.take i,c.toNat=48\/c.toNat=49)
 case atStart=>exact⟨0,by omega,rfl,rfl,rfl,by simp⟩
 case round =>
  obtain⟨i,a2,rfl,rfl,rfl,k⟩:=hrel;have l:Aside (∀c∈s.take i,c.toNat=48\/c.toNat=49):=k;clear k;cases gk with
  | zero =>
   obtain rfl:i=s.length:=DO
   have b:=λty=>run_next_end (P:=prog) w (bs s) s.length ty (by rw[a0];omega)
   have m:s≠[]->ju s=true:=λh0=>by
    unfold ju;rw[decide_eq_true h0,CJ,Aw];have h9:=l.out;rw[Ai]at h9;exact λc hc=>decide_eq_true (h9 c hc)
   by_cases h0:s=[]
   ·subst h0;clear m;simp only[Ah]at b
    go_wp2
    go_ret2
    exact⟨rfl,_,rfl⟩
   ·have p:=m h0;clear m;have q:¬(s.length:Int)=0:=by intro h;exact h0 (Av DO)
    rcases Bh 64 s.length with t | t
    ·have u:(64:Int)<s.length:=DO
     have j:qM s=(0,3):=by unfold qM;rw[if_pos p,if_pos t]
     go_wp2
     go_ret2
     exact⟨by rw[j];rfl,_,rfl⟩
    ·have u:¬(64:Int)<s.length:=DO
     have j:qM s=(jT s s.length,0):=by unfold qM;rw[if_pos p,if_neg DO]
     go_wp2
     go_ret2
     exact⟨rfl,_,rfl⟩
  | succ g =>
   have hi:i<s.length:=DO
   obtain⟨x,hx⟩:∃x:UInt8,s[i]?=some x:=⟨_,Ac hi⟩;have hb:i<(bs s).size:=DO
   have d:(bs s)[i]'hb=x:=by
    have:=Ad.1 hx;exact this.2
   have Hx:Aside (s[i]?=some x):=hx;have a:=Ztq hx;clear hx;have v:=Vq s i
   by_cases n:x.toNat=48
   ·have b:=λty=>run_next_ascii (P:=prog) w (bs s) i ty hb (by rw[d,n];decide)
    rw[d,n]at b;have q:¬x=49:=by rintro rfl;exact absurd n DV
    rw[if_neg q]at a
    go_wp2
    go_roundg g
    case measure=>omega
    case rel =>
     refine⟨i+1,by omega,by rw[a],by simp,rfl,?_⟩;rw[AC,Hx.out];intro c hc;rw[AB]at hc;rcases hc with hc | hc
     ·exact l.out c hc
     ·obtain rfl:c=x:=by simpa using hc
      exact .inl n
   ·by_cases o:x.toNat=49
    ·have a1:x=49:=UInt8.toNat_inj.1 o;have b:=λty=>run_next_ascii (P:=prog) w (bs s) i ty hb (by rw[d,o];decide)
     rw[d,o]at b;rw[if_pos a1]at a;have y:=Ztr (jT s i) i v
     go_wp2_with fail
     refine(y _).mono ?_;rintro _ _ ⟨rfl,rfl⟩;rw[<-a];clear y
     go_wp2
     go_roundg g
     case measure=>omega
     case rel =>
      refine⟨i+1,by omega,by rw[a],by simp,rfl,?_⟩;rw[AC,Hx.out];intro c hc;rw[AB]at hc;rcases hc with hc | hc
      ·exact l.out c hc
      ·obtain rfl:c=x:=by simpa using hc
       exact .inr o
    ·have j:qM s=(0,2):=by unfold qM;rw[if_neg (by rw[Ztp Hx.out (λh=>h.elim n o)];simp)]
     have b:=λty=>run_next_any (P:=prog) w (bs s) i ty hb
     have f:(Utf8.decode (bs s) i).1≠48/\(Utf8.decode (bs s) i).1≠49:=by
      by_cases z:x.toNat<128
      ·rw[decode_ascii (bs s) i hb (by rw[d];exact z),d];exact⟨n,o⟩
      ·have:=(decode_high (bs s) i hb (by rw[d];omega)).1;omega
     obtain⟨r,hr⟩:∃r,r=Utf8.decode (bs s) i:=⟨_,rfl⟩;rw[<-hr]at b f;have q2:¬(r.1:Int)=48:=by have:=f.1;omega
     have q3:¬(r.1:Int)=49:=by have:=f.2;omega
     clear hr f a
     go_wp2
     go_ret2
     exact⟨by rw[j];rfl,_,rfl⟩
theorem Ztt(s:Wd)(hl:s.length<=1048576):Pure prog 191 [T (bs s)] (.tup [U (qM s).1,I (qM s).2]):=by
 intro S;refine⟨Zl8,λC w us b a d=>?_⟩;obtain⟨e,rfl⟩:=Zed a;have r0:=d 0 _ e rfl rfl;cases r0;refine(Zts s hl w).mono ?_;rintro _ _ ⟨rfl,i,rfl⟩;obtain⟨f,g,_⟩:=b.alloc (.stringIter (bs s) i);refine⟨_,_,S,C,rfl,⟨rfl,rfl⟩,.tup rfl λj c v h1 h2=>?_,f,g⟩
 match j,h1,h2 with
 | 0,h1,h2=>cases h1;cases h2;exact .sc _
 | 1,h1,h2=>cases h1;cases h2;exact .sc _
open Go Go.Proofs
theorem Vs(l:Ln)(hl:l.length<=1048576)(j:∀w∈l,w.length<=1099511627776):Pure prog 74 [L (l.map bs)] (jH (yI l)):=by
 obtain⟨zs,d⟩:∃zs:List Int,zs=l.map yo:=⟨_,rfl⟩;have m:zs.length=l.length:=by rw[d,List.length_map]
 have a0:(l.map bs).length=l.length:=DP
 have o:∀(k:Nat) (w:List UInt8),l[k]?=some w->zs[k]?=some (yo w)/\(l.map bs)[k]?=some (bs w):=λk n e=>⟨by rw[d,Aj,e];rfl,by rw[Aj,e];rfl⟩
 have f:(∀w∈l,(y8 w).isSome=true)->yI l=some zs:=λh=>by rw[Wf h,d]
 generalize l.map bs=ws at *;refine zx func74 ntmps74 results74 λS nx y=>?_
 (repeat apply ze);refine zg ?_;intros
 (repeat apply ze);refine zg ?_;intros
 refine q9 4 3 1 rfl λw0=>?_
 (repeat apply ze);refine zg ?_;intros
 repeat apply ze
 refine zn (zK (λs:Nat × Nat=>s.1<=zs.length/\∀w∈l.take s.1,(y8 w).isSome=true) (λ(k,w)=>[(0,L ws),(4,.sl nx w 1 0 k),(5,I k)]) (λ(k,w)=>[.cells w 3 ((zs.take k).flatMap Enc.enc)]) (λs=>zs.length-s.1) (0,w0) [] DP DP DP ?_);rintro⟨k,w⟩ ⟨hk,b⟩;simp only at hk b ⊢
 (repeat apply ze);refine zg ?_;intros
 repeat apply ze
 refine zA rfl (λhc=>?_) (λhc=>?_)
 ·simp at hc;obtain⟨u,c⟩:∃u,l[k]?=some u:=⟨_,Ac DO⟩;obtain⟨g1,z⟩:=o k u c;obtain⟨t,tl,b1,b2,b3,f0⟩:=zN rfl ws k hc;obtain rfl:t=bs u:=by rw[b1]at z;exact Option.some.inj z
  have a:=ZrR u (j u (Ab c));refine zk (ze (zn ?_));cases g:y8 u with
  | none =>
   rw[g]at a;simp only[Z3]at a
   repeat apply ze
   refine zi [] (zq f0 hc) ?_;refine zv a ?_;intros
   (repeat apply ze);refine zg ?_;intros
   repeat apply ze
   refine zo DP ?_
   (repeat apply ze);refine zg ?_;intros
   repeat apply ze
   exact zj (zm y DQ (by rw[Zi6 c g];rfl))
  | some n =>
   rw[g]at a;simp only[Z3]at a;have p:yo u=n:=by unfold yo;rw[g];rfl
   rw[p]at g1;have r:((zs.take k).flatMap Enc.enc:List PV).length=k:=by rw[jL];simp;omega
   have v:List.take k ((zs.take k).flatMap Enc.enc:List PV)=(zs.take k).flatMap Enc.enc:=Af (by rw[r];exact Ag _);have x:(zs.take (k+1)).flatMap Enc.enc=(zs.take k).flatMap Enc.enc++[I n]:=by rw[AC,g1,Aq];rfl
   have i:∀w∈l.take (k+1),(y8 w).isSome=true:=by
    rw[AC,c];intro w j;rcases AB.1 j with q | q
    ·exact b w q
    ·simp at q;subst q;rw[g];rfl
   repeat apply ze
   refine zi [] (zq f0 hc) ?_;refine zv a ?_;intros
   (repeat apply ze);refine zg ?_;intros
   repeat apply ze
   refine zp DP ?_;refine zk ?_
   repeat apply ze
   refine zi [] v ?_;refine⟨by omega,?_⟩;intros
   (repeat apply ze);refine zg ?_;intros
   exact zu (k+1,w+1) [] ⟨by omega,i⟩ DT (by simp[zy k (by omega)]) rfl (by simp only[x,AH])
 ·simp at hc;obtain rfl:k=zs.length:=DO
  rw[m,Ai]at b;rw[Ai,f b];refine zC (yh 0 rfl ?_)
  (repeat apply ze);refine zg ?_;intros
  repeat apply ze
  exact DZ y
theorem Ztu(w:Wd):(List.range 64).map (λi=>if i<w.length/\w.getD i 0=49 then (1:Int) else 0)=qh (jT w w.length):=by
 unfold qh;refine AM λi hi=>?_
 have a:=AK.1 hi;have h1:=Vp w i w.length;rw[X3]at h1;have h2:=XC (jT w w.length) i
 by_cases h:i<w.length/\w.getD i 0=49
 ·rw[if_pos h];have e:(decide (i<w.length/\i<64) && decide (w.getD i 0=49))=true:=by simp only[Ar,decide_eq_true_eq];exact⟨⟨h.1,a⟩,h.2⟩
  rw[e,decide_eq_true_eq]at h1;rw[h1];rfl
 ·rw[if_neg h];have e:(decide (i<w.length/\i<64) && decide (w.getD i 0=49))=false:=by
   rw[C4]
   by_cases q:i<w.length
   ·exact .inr (decide_eq_false λe=>h ⟨q,e⟩)
   ·exact .inl (decide_eq_false λe=>q e.1)
  rw[e,decide_eq_false_iff_not]at h1;have:yL (jT w w.length) i=0:=DO
  rw[this];rfl
theorem Ztv{n:Nat}(h:n<2 ^ 64):jZ (qh n)=(n:Int):=by
 have a:∀b∈qh n,b=0\/b=1:=λb hb=>by
  obtain⟨i,-,rfl⟩:=Al.1 hb;have:=XC n i;omega
 have h1:=Zas _ a;have h2:=ZdC _ a;have:(jZ (qh n)).toNat=n:=by
  apply C9;intro i;rw[h2 i]
  by_cases hi:i<64
  ·have:(qh n)[i]?=some ((yL n i:Nat):Int):=by unfold qh;simp[hi]
   rw[this,X3];rw[decide_eq_decide];constructor
   ·intro h;have:=Option.some.inj h;omega
   ·intro h;rw[h];rfl
  ·have:(qh n)[i]?=none:=Ao (by rw[QN];omega);rw[this];rw[Cv (Bj h (BH DV DO))];simp
 omega
theorem Ztw(l:List Int)(k:Nat)(z:Int):((l.flatMap Enc.enc:List PV)).set k (I z)=(l.set k z).flatMap Enc.enc:=by
 induction l generalizing k with
 | nil=>rfl
 | cons a l b =>
  cases k with
  | zero=>rfl
  | succ k=>simpa using b k
def wF(w:Wd)(k:Nat):List Int:=(List.range 64).map λi=>if i<k/\w.getD i 0=49 then (1:Int) else 0
theorem Ztx{w:Wd}{k:Nat}{c:UInt8}(h:w[k]?=some c)(f:k<64)(hc:c.toNat=48\/c.toNat=49):(wF w k).set k ((c.toNat:Int)-48)=wF w (k+1):=by
 have d:w.getD k 0=c:=by rw[Aa,h];rfl
 apply A3
 ·simp[wF]
 ·intro i h1 h2;rw[CB]
  by_cases e:k=i
  ·subst e;rw[if_pos rfl];simp only[wF,Cd,Ch,d];rcases hc with q | q
   ·rw[if_neg (by rintro⟨-,e⟩;rw[e]at q;exact absurd q (by decide))];omega
   ·have:c=49:=UInt8.toNat_inj.1 q;rw[if_pos ⟨by omega,this⟩];omega
  ·rw[if_neg e];simp only[wF,Cd,Ch];have:(i<k/\w.getD i 0=49)<->(i<k+1/\w.getD i 0=49):=by constructor<;>(rintro⟨a,b⟩;exact⟨by omega,b⟩)
   simp only[this]
theorem Zty(w:Wd)(hl:w.length<=1048576):Pure prog 117 [T (bs w)] (.tup [U (qM w).1,I (qM w).2]):=by
 by_cases m:w=[]
 ·subst m;have he:bs []=ByteArray.empty:=rfl;refine zx func117 ntmps117 results117 λS nx n=>?_
  (repeat apply ze);refine zg ?_;intros
  repeat apply ze
  refine zi [] he ?_;intros
  repeat apply ze
  refine zo DP ?_
  (repeat apply ze);refine zg ?_;intros
  repeat apply ze
  exact DZ n
 have a4:¬w.length=0:=λh=>m (Av h)
 obtain⟨B,hB⟩:∃B,B=bs w:=⟨_,rfl⟩;have f:B.size=w.length:=by rw[hB,xU]
 have hg:∀k,B[k]?=w[k]?:=λk=>by rw[hB];exact Vf w k
 rw[<-hB];refine zx func117 ntmps117 results117 λS nx n=>?_
 (repeat apply ze);refine zg ?_;intros
 repeat apply ze
 refine zi [] f ?_;intros
 repeat apply ze
 refine zp (by simp[m]) ?_;refine zk ?_
 (repeat apply ze);refine zg ?_;intros
 repeat apply ze
 refine zn (zK (λk:Nat=>k<=w.length/\∀c∈w.take k,c.toNat=48\/c.toNat=49) (λk=>[(0,T B),(4,I k)]) (λ_=>[]) (λk=>w.length-k) 0 [] DP DP DP ?_);rintro k ⟨hk,v⟩
 repeat apply ze
 refine zi [] f ?_;intros
 repeat apply ze
 refine zA rfl (λhc=>?_) (λhc=>?_)
 ·simp at hc;obtain⟨c,a⟩:∃c,w[k]?=some c:=⟨_,Ac hc⟩;have g:=(hg k).trans a;refine zk (ze (zn ?_))
  by_cases h3:c.toNat=48
  ·have o:(c.toNat:Int)=48:=DO
   repeat apply ze
   refine zi [(4,20)] (zS g h3 o zB) ?_;intros
   repeat apply ze
   refine zp (by simp[*]) ?_;refine zk ?_;have r:∀d∈w.take (k+1),d.toNat=48\/d.toNat=49:=by rw[AC,a];intro d n;rcases AB.1 n with q | q;exact v d q;simp at q;subst q;exact .inl h3
   (repeat apply ze);refine zg ?_;intros
   exact zu (k+1) [] ⟨hc,r⟩ DO (by simp[zy k (by omega)]) rfl DP
  have o:¬(c.toNat:Int)=48:=DO
  by_cases h4:c.toNat=49
  ·have s:(c.toNat:Int)=49:=DO
   repeat apply ze
   refine zi [(4,20)] (yr g h3 o h4 s) ?_;intros
   repeat apply ze
   refine zp (by simp[*]) ?_;refine zk ?_;have r:∀d∈w.take (k+1),d.toNat=48\/d.toNat=49:=by rw[AC,a];intro d n;rcases AB.1 n with q | q;exact v d q;simp at q;subst q;exact .inr h4
   (repeat apply ze);refine zg ?_;intros
   exact zu (k+1) [] ⟨hc,r⟩ DO (by simp[zy k (by omega)]) rfl DP
  have s:¬(c.toNat:Int)=49:=DO
  repeat apply ze
  refine zi [(4,20)] (yr g h3 o h4 s) ?_;intros
  repeat apply ze
  refine zo (by simp[*]) ?_
  (repeat apply ze);refine zg ?_;intros
  have j:qM w=(0,2):=by
   have:ju w=false:=by
    unfold ju;rw[C4];exact .inr (Bm.2 ⟨c,Ab a,by simp;omega⟩)
   unfold qM;rw[if_neg (by rw[this];simp)]
  repeat apply ze
  exact zj (zm n DQ (by rw[j];rfl))
 ·simp at hc;obtain rfl:k=w.length:=DO
  rw[Ai]at v;have x:ju w=true:=by
   unfold ju;simp only[Ar,decide_eq_true_eq,Aw];exact⟨m,λc hc=>by simpa using v c hc⟩
  refine zC ?_
  by_cases p:64<w.length
  ·have j:qM w=(0,3):=by unfold qM;rw[if_pos x,if_pos p]
   repeat apply ze
   refine zi [] (zq f p) ?_;intros
   repeat apply ze
   refine zo (by simp[*];try omega) ?_
   (repeat apply ze);refine zg ?_;intros
   repeat apply ze
   exact zj (zm n DQ (by rw[j];rfl))
  ·have j:qM w=(jT w w.length,0):=by unfold qM;rw[if_pos x,if_neg p]
   have t:=ZfG (wF w w.length) (by simp[wF]) (λb hb=>by
    obtain⟨i,-,rfl⟩:=Al.1 hb;split<;>simp)
   have a0:jZ (wF w w.length)=(jT w w.length:Int):=by
    show jZ ((List.range 64).map _)=_
    rw[Ztu];exact Ztv (Vq w _)
   rw[a0]at t;rw[j];generalize jT w w.length=st at *
   repeat apply ze
   refine zi [] (zq f p) ?_;intros
   repeat apply ze
   refine zp (by simp[*];try omega) ?_;refine zk ?_
   repeat apply ze
   refine zg ?_;intro v0
   (repeat apply ze);refine zg ?_;intros
   repeat apply ze
   refine zn (zK (λk:Nat=>k<=w.length) (λk=>[(0,T B),(5,.sl nx v0 1 0 64),(6,I k)]) (λk=>[.cells v0 3 ((wF w k).flatMap Enc.enc)]) (λk=>w.length-k) 0 [] DP DP (by simp[wF,qa];try rfl) ?_);rintro k a5
   repeat apply ze
   refine zi [] f ?_;intros
   repeat apply ze
   refine zA rfl (λhc=>?_) (λhc=>?_)
   ·simp at hc;obtain⟨c,a⟩:∃c,w[k]?=some c:=⟨_,Ac hc⟩;have g:=(hg k).trans a;have a1:=v c (Ab a);have y:=Ztx a DO a1;have l:k<64:=DO
    have w2:IntKind.u8.wrap ((c.toNat:Int)-48)=(c.toNat:Int)-48:=by
     have e:IntKind.u8.wrap ((c.toNat:Int)-48)=((c.toNat:Int)-48) % 256:=by simp[IntKind.wrap,IntKind.bits,IntKind.signed]
     rw[e];omega
    have w3:W ((c.toNat:Int)-48)=(c.toNat:Int)-48:=by simp only[W,AA];omega
    have z:((wF w k).flatMap Enc.enc:List PV).length=64:=by rw[jL];simp[wF]
    have a2:yk ((wF w k).flatMap Enc.enc:List PV) k [I ((c.toNat:Int)-48)]=(wF w (k+1)).flatMap Enc.enc:=by
     rw[<-y,<-Ztw];unfold yk;rw[AE,if_pos (by rw[z];exact l)];simp
    refine zk (ze (zn ?_));have u:(k:Int)<64:=DO
    have a6:k+1<=64:=l
    repeat apply ze
    refine zi [] (zW g w2 w3 l u (zq z a2)) ?_;refine⟨by simp[wF];omega,?_⟩;intros
    (repeat apply ze);refine zg ?_;intros
    exact zu (k+1) [] hc DO (by simp[zy k (by omega)]) rfl rfl
   ·simp at hc;obtain rfl:k=w.length:=DO
    refine zC (yh 0 rfl ?_);have a3:PV.lst 64 ((wF w w.length).flatMap Enc.enc)=L (wF w w.length):=by show _=PV.lst (wF w w.length).length _;simp[wF]
    rw[<-a3]at t
    repeat apply ze
    refine zg ?_;refine zv t ?_;intros
    repeat apply ze
    exact DZ n
open Go Go.Proofs Go.RowKit Go.Shelf
theorem Ztz(b n:Nat)(c:Array Value)(w:World)(a:w.heap[b]?=some (.cells c 113 (0,0)))(h1:c[1]?=some (.slice none 0 0))(hn:n<=281474976710656):
  Calls prog 188 #[.pointer (some ⟨b,0,none⟩),.int .i64 n] w λe w'=>e=.returned (.tuple #[])/\∃cs:Array Value,(n<=maxLen->cs.size<=maxLen)/\w'=((w.alloc (.cells cs 5)).setCell ⟨b,1,none⟩ (.slice (some ⟨w.heap.size,0,none⟩) 0 cs.size)).drew.drew.drew:=by
 obtain⟨cs,f,k,g⟩:=Lib.run_makeNoZero (P:=prog) w.drew #[3] 111 5 underlying111 n hn;have j:IntKind.i64.wrap (n:Int)=n:=by
  rw[AA];omega
 have h:(callFunc 221 #[.int .i64 (IntKind.i64.wrap (n:Int))]).run prog w.drew=.ok (.value (.slice (some ⟨w.drew.heap.size,0,none⟩) n cs.size)) (w.drew.drew.drew.alloc (.cells cs 5)):=by
  rw[j,run_callFunc_extern func221 DR DR DR (e:=Extern.BytealgMakeNoZero.makeNoZero #[3] #[111]) DR,f];rfl
 have d:b<w.heap.size:=qN a;have c1:w.drew.cell? ⟨b,1,none⟩=some (.slice none 0 0):=by
  have:w.drew.heap[b]?=some (.cells c 113 (0,0)):=a;rw[Lib.cell_of_heap this];exact h1
 have c2:(w.alloc (.cells cs 5)).cell? ⟨b,1,none⟩=some (.slice none 0 0):=by
  rw[Lib.cell_of_heap ((Lib.alloc_old w _ b d).trans a)];exact h1
 have l:(w.alloc (.cells cs 5)).frozen? ⟨b,1,none⟩=false:=Lib.frozen_of_heap ((Lib.alloc_old w _ b d).trans a) 1;have i:∀W:World,(Builtin.copy_ #[111,111] 3 #[.slice (some ⟨w.heap.size,0,none⟩) 0 cs.size,.slice none 0 0]).run prog W=.ok (goInt 0) W :=
  λW=>run_copy_none W 111 111 3 5 _ _ 0 cs.size 0 0 underlying111 DR rfl
 clear j d
 go_enter func188,ntmps188
 go_wp2
 go_region
 all_goals (go_wp2;go_end0;exact⟨rfl,cs,g,rfl⟩)
theorem ZtA{S:Store}{id v nx:Nat}{p:PV}(n:Nat)(hn:n<=140737488355328)(t:S id=.cells v 113 [p,.sc (.slice none 0 0)])(x:S nx=.dead):
  Spec prog 188 [.ptr id v 0,I n] S (λ_ S'=>∃w0,S'=(S.set nx (.cells w0 5 [])).set id (.cells v 113 [p,.sl nx w0 1 0 0])):=by
 refine⟨qx func188 DU rfl,?_⟩;intro C w vs hC hl hr;obtain⟨u,u2,rfl⟩:=Zjd hl;have d:=hr 0 _ u rfl rfl;have y:=hr 1 _ u2 rfl rfl;cases y;cases d with
 | ptr h1 h2 h3 =>
  obtain⟨b,k,f,rfl⟩:=(h3 v (by rw[t];rfl)).2 rfl;obtain⟨b',k',c,c0,c1,g1,z,g3,g4,e0,e1,r0,r1,g5⟩:=Zee hC t;rw[f]at g1;cases g1;cases r1;refine(Ztz b n c w z e1 DO).mono ?_;rintro e w' ⟨rfl,cs,m,rfl⟩;have a0:b<w.heap.size:=qN z;have r:id≠nx:=by rintro rfl;rw[t]at x;cases x
  obtain⟨a1,a2⟩:=hC.object' (o:=nx) (ver:=C.clock) ⟨x,.inr (Ag _)⟩ 5 cs [] (Cj _) (λi u hi=>absurd hi (Nat.not_lt_zero _)) (λi q u g=>by simp at g);have a3:(S.set nx (.cells C.clock 5 [])) id=.cells v 113 [p,.sc (.slice none 0 0)]:=(q10 _ _ _ _ r).trans t;have a:(C.put nx C.clock (some (w.heap.size,cs.size))).loc id=some (b,k):=by simp[Ctx.put,r,f]
  have a4:(w.alloc (.cells cs 5)).heap[b]?=some (.cells c 113 (0,0)):=(Zr w _ b a0).trans z;have a5:Rel (C.put nx C.clock (some (w.heap.size,cs.size))) (S.set nx (.cells C.clock 5 [])) (w.alloc (.cells cs 5)) (.sl nx C.clock 1 0 0) (.slice (some ⟨w.heap.size,0,none⟩) 0 cs.size):=by
   refine .sl ⟨_,_,rfl,Cj _,Cj _,m (by unfold maxLen;omega),λh=>absurd rfl h⟩ ⟨by simp only[Ctx.put];omega,by simp only[Ctx.put];omega⟩ λv0 s=>?_
   rw[q11]at s;cases s;exact⟨Ag _,λ_=>.inr ⟨w.heap.size,cs.size,_,_,by simp[Ctx.put],rfl,λ_=>⟨rfl,BO _⟩,λ_=>rfl⟩⟩
  have hh:((w.alloc (.cells cs 5)).setCell ⟨b,1,none⟩ (.slice (some ⟨w.heap.size,0,none⟩) 0 cs.size)).heap[b]?=some (.cells (c.setIfInBounds 1 (.slice (some ⟨w.heap.size,0,none⟩) 0 cs.size)) 113 (0,0)):=by
   simp only[World.setCell,BB,if_true,a4,A4];rfl
  obtain⟨t1,t2⟩:=a1.turn (l:=(C.put nx C.clock (some (w.heap.size,cs.size))).loc id) (ver':=v) (cs':=[p,.sl nx C.clock 1 0 0]) a3 (Ag _) (λ_=>rfl) (w':=(w.alloc (.cells cs 5)).setCell ⟨b,1,none⟩ (.slice (some ⟨w.heap.size,0,none⟩) 0 cs.size))
   (by rw[a];exact⟨⟨rfl,rfl,rfl,by simp[World.setCell],λj _ hj=>by
      show ((w.alloc (.cells cs 5)).heap.modify b _)[j]?=_
      rw[BB,if_neg (λe=>hj (by rw[<-e];rfl))]⟩,Ag _⟩)
   (.inr ⟨b,k,_,a,.inr (by rw[a];rfl),hh,by simp[g3],g4,λi u hi d=>by
     match i,hi with
     | 0,_=>rw[CV DO]at d;exact g5 0 u DO d
     | 1,_=>rw[B0 DO]at d;cases d;rfl,
    λi q u g d=>by
     match i,g with
     | 0,g=>cases g;rw[CV DO,e0]at d;cases d;exact r0.mono a2
     | 1,g=>cases g;rw[B0 DO]at d;cases d;exact a5⟩)
  obtain⟨d1,d2⟩:=t1.drew;obtain⟨d3,d4⟩:=d1.drew;obtain⟨d5,d6⟩:=d3.drew;exact⟨.junk,_,_,_,rfl,⟨_,rfl⟩,.junk _,d5,(((a2.trans t2).trans d2).trans d4).trans d6⟩
theorem ZtB{P:Program}{r:Rd}{n:Nat}{F:Nat->PV}{S:Store}{o:Oper}{x:Operand}{t e:TypeId}{K:PV->Store->Prop}(ho:o.op=.call { callee:=.builtin .cap,args:=#[x],argTypes:=#[t] })(h:P.underlying t=some (.slice e))(hx:ev F x=.sc (.slice none 0 0))(i:K (I 0) S):PO P r n o F S K:=by
 intro G j C w a N st next Q' b;have f:=st.ev x;rw[(j x (by simp[ho,Op.operands,Call.operands])).trans hx]at f;have g:∀c,o.op≠.defer c:=by intro c hc;rw[ho]at hc;cases hc
 generalize hv:a.eval x=v at f;cases f;have d:(execOp a.eval o).run P w=.ok (.value (.int .i64 0)) w:=by
  unfold execOp;simp[ho,resolve,invoke,builtin,hv,Builtin.cap_,goInt,run_underlying h]
 exact qg g d (b _ _ _ _ _ i (.sc _) st.sim (Step.refl _ _ _))
open Go Go.Proofs
theorem jh{S:Store}{nx id:Nat}{o:Ob}(b:yd nx S)(h:S id=o)(a:o≠.dead):id<nx:=by
 rcases Bh id nx with q | q
 ·exact q
 ·rw[b id q]at h;exact absurd h.symm a
theorem qX{S:Store}{nx id:Nat}(a:yd nx S)(b:id<nx)(o:Ob):yd nx (S.set id o):=λi hi=>by rw[q10 _ _ _ _ DO];exact a i hi
theorem ZtC(l:List UInt8):((bs l).data.toList.map λb=>(.sc (.int .u8 (b.toNat:Int)):PV))=l.map U8:=rfl
abbrev YO(id v ib w n:Nat):List PV:=[.ptr id v 0,.sl ib w 1 0 n]
theorem Zeg{S:Store}{id v ib w0:Nat}{p:PV}(l m:List UInt8)(i:S id=.cells v 113 [p,.sl ib w0 1 0 l.length])(t:p=.sc (.pointer none)\/p=.ptr id v 0)(g:S ib=.cells w0 5 (l.map U8))(r:l.length+m.length<=140737488355328):
  Spec prog 61 [.ptr id v 0,T (bs m)] S (λq S'=>q=.tup [I m.length,.sc .nilIface]/\S'=(S.set ib (.cells (w0+1) 5 ((l++m).map U8))).set id (.cells v 113 (YO id v ib (w0+1) (l++m).length))):=by
 have c:id≠ib:=by rintro rfl;rw[i]at g;cases g
 have d:=xU m;have j:=λS (h:S id=_)=>Zje (S:=S) (id:=id) (v:=v) (p:=p) (s:=.sl ib w0 1 0 l.length) h t
 refine yt func61 ntmps61 results61 λnx k=>?_
 have a:id<nx:=jh k i DP;have b:ib<nx:=jh k g DP;refine DY ?_;refine DY ?_;refine λe=>((j _ ((zJ a).trans i)).mono ?_).v
 rintro _ _ rfl;refine⟨_,_,qq _ a,zR e ?_⟩;obtain⟨A,n⟩:∃A,A=Ob.cells v 113 [.ptr id v 0,.sl ib w0 1 0 l.length]:=⟨_,rfl⟩;have x1:∀obs,ext (S.set id A) nx obs id=.cells v 113 [.ptr id v 0,.sl ib w0 1 0 l.length]:=λobs=>by rw[zJ a,q11,n]
 have x2:∀obs,ext (S.set id A) nx obs ib=.cells w0 5 (l.map U8):=λobs=>(zJ b).trans ((q10 _ _ _ _ (Ne.symm c)).trans g)
 have x3:∀B obs,ext ((S.set id A).set ib B) nx obs id=.cells v 113 [.ptr id v 0,.sl ib w0 1 0 l.length]:=λB obs=>by rw[zJ a,q10 _ _ _ _ c,q11,n]
 rw[<-n];have g1:¬nx<=id:=DO
 have u:¬nx<=ib:=DO
 have g3:m.length<=9223372036854775807:=DO
 have o:(l.map U8).take l.length=l.map U8:=Af DP;refine ze (zi [] (zW x1 x2 x3 d g1 (zF u g3 ZtC)) ?_);refine⟨by omega,?_⟩;refine ze (zi [] d ?_);have f:((S.set id A).set ib (.cells (w0+1) 5 (l.map U8++m.map U8))).set id (.cells v 113 [.ptr id v 0,.sl ib (w0+1) 1 0 (l.length+m.length)])=(S.set ib (.cells (w0+1) 5 ((l++m).map U8))).set id (.cells v 113 (YO id v ib (w0+1) (l++m).length)):=by
  rw[List.map_append,Am,<-Store.set_comm S ib id _ _ (c),Store.set_set]
 refine zj ⟨_,_,by simp;rfl,⟨by simp[zr],by rw[o];exact f⟩,yb ?_⟩;exact qX (qX (qX k a _) b _) a _
theorem ZtD{S:Store}{id v nx:Nat}(n:Nat)(h0:0<n)(hn:n<=140737488355328)(f:S id=.cells v 113 [.sc (.pointer none),.sc (.slice none 0 0)])(c:yd nx S):
  Spec prog 133 [.ptr id v 0,I n] S (λ_ S'=>∃w0,S'=(S.set nx (.cells w0 5 [])).set id (.cells v 113 (YO id v nx w0 0))):=by
 have a:id<nx:=jh c f DP;have d:=λS (h:S id=_)=>Zje (S:=S) (id:=id) (v:=v) (p:=.sc (.pointer none)) (s:=.sc (.slice none 0 0)) h (.inl rfl)
 refine Zv c func133 ntmps133 results133 ?_;refine DY ?_;refine λb=>((d _ ((zJ a).trans f)).mono ?_).v
 rintro _ _ rfl;refine⟨_,_,qq _ a,zR b ?_⟩;obtain⟨A,g⟩:∃A,A=Ob.cells v 113 [.ptr id v 0,.sc (.slice none 0 0)]:=⟨_,rfl⟩;have x1:∀obs,ext (S.set id A) nx obs id=.cells v 113 [.ptr id v 0,.sc (.slice none 0 0)]:=λobs=>by rw[zJ a,q11,g]
 rw[<-g];have g1:¬nx<=id:=DO
 repeat apply ze
 refine zg ?_;refine zp DP ?_;refine zk ?_;have e:=λS (h:S id=_) (c:S nx=.dead)=>ZtA (S:=S) (id:=id) (v:=v) (nx:=nx) (p:=.ptr id v 0) n hn h c
 refine ze (zD (some [id]) (Row.pures [0,1,2,3,5,6,7,8,9,11] (.alt 4 (Row.pures [10,12] .done) .stop)) mixed (zq x1 g1) ?_);refine⟨by rfl,(ZtB rfl underlying111 DP ?_)⟩;refine⟨by simp[yR],jY trivial ?_⟩;refine zo DT ?_;refine zg ?_;refine λb=>((e _ (x1 []) (Zt (nx:=nx) (obs:=[]))).mono ?_).v
 rintro _ _ ⟨w0,rfl⟩;have i:id≠nx:=DO
 have j:((ext (S.set id A) nx []).set nx (.cells w0 5 [])).set id (.cells v 113 [.ptr id v 0,.sl nx w0 1 0 0])=ext (S.set id (.cells v 113 [.ptr id v 0,.sl nx w0 1 0 0])) nx [.cells w0 5 []]:=by
  have:=jr (S:=S.set id A) (nx:=nx) (obs:=[]) (.cells w0 5 []);simp only[Ah,By,AQ]at this;rw[this,qq _ a,Store.set_set]
 refine⟨_,_,j,zR b ?_⟩;have e2:(S.set nx (.cells w0 5 [])).set id (.cells v 113 (YO id v nx w0 0))=ext (S.set id (.cells v 113 [.ptr id v 0,.sl nx w0 1 0 0])) nx [.cells w0 5 []]:=by
  have:=jr (S:=S) (nx:=nx) (obs:=[]) (.cells w0 5 []);simp only[Ah,By,AQ,qZ c]at this;rw[this,qq _ a]
 exact⟨_,_,rfl,⟨w0,e2.symm⟩,λo=>.inl rfl⟩
theorem Vt:∀ws:List (List UInt8),(zQ ws).length=(ws.map List.length).sum+(ws.length-1)
 | []=>rfl
 | [w]=>by simp[zQ]
 | w :: v :: ws=>by
  have:=Vt (v :: ws);rw[X6,Am,Ae,this];simp only[AD,BR,Ae];omega
theorem Zjf(l:List Nat)(k:Nat):(l.take k).sum<=l.sum:=by
 conv=>rhs;rw[<-List.take_append_drop k l]
 rw[List.sum_append];omega
def Ya(ws:List (List UInt8))(k:Nat):Nat:=((ws.take k).map List.length).sum
theorem Zjg(ws:List (List UInt8))(k:Nat):Ya ws k<=(ws.map List.length).sum:=by unfold Ya;rw[List.map_take];exact Zjf _ k
theorem ZtE{ws:List (List UInt8)}{k:Nat}{u:List UInt8}(h:ws[k]?=some u):Ya ws (k+1)=Ya ws k+u.length:=by unfold Ya;rw[AC,h];simp
theorem wr2{S:Store}{nx:Nat}{A B A2 B2:Ob}:((ext S nx [A,B]).set (nx+1) B2).set nx A2=ext S nx [A2,B2]:=by
 rw[yl _ DO DP,yl _ DO DP];simp
theorem Zbm:∀(w:List UInt8) (rs:List (List UInt8)),zQ (w :: rs)=w++(rs.map λu=>32 :: u).flatten
 | w,[]=>by simp[zQ]
 | w,v :: rs=>by rw[X6,Zbm v rs];simp
def uq(w0:List UInt8)(rs:List (List UInt8))(k:Nat):List UInt8:=w0++((rs.take k).map λu=>32 :: u).flatten
theorem ZtF(w0:List UInt8)(rs:List (List UInt8)):uq w0 rs 0=w0:=by simp[uq]
theorem ZtG{w0:List UInt8}{rs:List (List UInt8)}{k:Nat}{u:List UInt8}(h:rs[k]?=some u):uq w0 rs (k+1)=(uq w0 rs k++[32])++u:=by unfold uq;rw[AC,h];simp
theorem ZtH(w0:List UInt8)(rs:List (List UInt8)):uq w0 rs rs.length=zQ (w0 :: rs):=by unfold uq;rw[Ai,Zbm]
theorem ZtI(w0:List UInt8)(rs:List (List UInt8))(k:Nat):(uq w0 rs k).length<=(zQ (w0 :: rs)).length:=by
 rw[Zbm];unfold uq;simp;exact Zjf _ k
theorem ZtJ(ws:List (List UInt8))(hl:ws.length<=1048576)(f:(zQ ws).length<=140737488355328):Pure prog 97 [L (ws.map bs),T (bs [32])] (T (bs (zQ ws))):=by
 match ws,hl,f with
 | [],_,_ =>
  refine zx func97 ntmps97 results97 λS nx q=>?_
  refine DY ?_
  repeat apply ze
  refine zg ?_;refine zn (DY ?_);refine zo DP ?_;refine DY ?_;exact DZ q
 | [w],_,_ =>
  refine zx func97 ntmps97 results97 λS nx q=>?_
  refine DY ?_
  repeat apply ze
  refine zg ?_;refine zn (DY ?_);refine zp DP ?_;refine DY ?_;refine zo DP ?_;refine DY ?_;exact DZ q
 | w0 :: v0 :: r0,hl,f =>
 obtain⟨rs,r⟩:∃rs,rs=v0 :: r0:=⟨_,rfl⟩;obtain⟨ws,b⟩:∃ws,ws=w0 :: rs:=⟨_,rfl⟩;obtain⟨mm,hm⟩:∃mm,ws.length=mm+1:=⟨rs.length,by rw[b];rfl⟩;have d4:1<=mm:=by rw[b,r]at hm;simp at hm;omega
 have d5:rs.length=mm:=by rw[b]at hm;simpa using hm
 rw[<-r,<-b]at hl f ⊢;have s:=Vt ws;rw[hm]at hl s;have x:(bs [32]).size=1:=rfl;have w1:IntKind.i64.wrap ((ws.length:Int)-1)=(mm:Int):=by rw[AA];omega
 have q0:¬(mm:Int)=0:=DO
 have a7:¬mm=0:=DO
 have q1:¬IntKind.i64.wrap ((9223372036854775807:Int).tdiv mm)<=1:=by
  rw[BS DO];have h1:(9223372036854775807:Int) / mm<=9223372036854775807:=Int.ediv_le_self _ DO;have h2:2<=(9223372036854775807:Int) / mm:=(Int.le_ediv_iff_mul_le DO).2 DO;rw[AA];omega
 have w2:IntKind.i64.wrap (mm:Int)=mm:=wr _ DO DO;have a0:¬ws=[]:=by intro h;rw[h]at hm;simp at hm
 clear r;refine zx func97 ntmps97 results97 λS nx q=>?_
 refine DY ?_
 repeat apply ze
 refine zg ?_;refine zn (DY ?_);refine zp (by simp[a0]) ?_;refine DY ?_;refine zp DT ?_;refine zk (DY ?_)
 repeat apply ze
 refine zi [] x ?_;refine zo DP ?_
 repeat apply ze
 refine zi [] (yr x w1 q0 a7 q1) ?_;refine zp DP ?_;refine zk (zi [] (zF x w1 w2) ?_)
 repeat apply ze
 refine zg ?_;refine zn (zK (λk:Nat=>k<=ws.length) (λk=>[(0,L (ws.map bs)),(1,T (bs [32])),(5,I ((mm+Ya ws k:Nat):Int)),(39,L (ws.map bs)),(40,I ws.length),(41,I k)]) (λ_=>[]) (λk=>ws.length-k) 0 [] DP (by simp[Ya]) DP ?_)
 ·rintro k hk;have d6:=Zjg ws k;refine DY ?_;refine ze (zA rfl (λhc=>?_) (λhc=>?_))
  ·simp at hc;obtain⟨t,tl,b1,b2,b3,f0⟩:=zN rfl (ws.map bs) k (by simpa using hc);obtain⟨u,hu,rfl⟩:∃u,ws[k]?=some u/\bs u=t:=by rw[Aj]at b1;simpa using b1
   have a1:=Zjg ws (k+1);have g:=ZtE hu;have i:=xU u;rw[g]at a1;generalize Ya ws k=c0 at *;have d:k<ws.length:=by simpa using hc
   have d7:mm+c0+u.length<=140737488355328:=DO
   have v1:IntKind.i64.wrap (9223372036854775807-((mm:Int)+c0))=9223372036854775807-((mm:Int)+c0):=by rw[AA];omega
   have v2:¬(9223372036854775807-((mm:Int)+c0))<u.length:=DO
   have v3:IntKind.i64.wrap ((mm:Int)+c0+u.length)=(mm:Int)+c0+u.length:=by rw[AA];omega
   refine zk (ze (zn (ze (zi [] (zq f0 d) ?_))))
   repeat apply ze
   refine zi [] (zF i v1 v2) ?_;refine zp DP ?_;refine zk (zi [] (zq i v3) ?_);refine zg ?_;exact zu (k+1) [] d DO (by simp[zy k (by omega),g];try omega) rfl DP
  ·simp at hc;obtain rfl:k=ws.length:=DO
   refine zC ?_;have a8:Ya ws ws.length=(ws.map List.length).sum:=by unfold Ya;rw[Ai]
   obtain⟨c,a9⟩:∃c,c=mm+(ws.map List.length).sum:=⟨_,rfl⟩;have b7:((mm:Int)+(Ya ws ws.length:Int))=(c:Int):=by rw[a8,a9];rfl
   have b8:0<c:=DO
   have c6:c<=140737488355328:=DO
   have c7:=λ(v:Nat) S (h:S nx=.cells v 113 [.sc (.pointer none),.sc (.slice none 0 0)]) (q:yd (nx+1) S)=>ZtD (S:=S) (id:=nx) (v:=v) (nx:=nx+1) c b8 c6 h q
   refine ze (zi [] b7 ?_);intros;rename_i v;have g1:¬nx+1<=nx:=DO
   have c8:∀A,yd (nx+1) (ext S nx [A]):=λA=>xB (obs:=[A])
   refine DY ?_;refine λa=>((c7 v _ (by rw[uy];rfl) (c8 _)).mono ?_).v
   rintro _ _ ⟨e,rfl⟩;have e1:∀A B A',((ext S nx [A]).set (nx+1) B).set nx A'=ext S nx [A',B]:=λA B A'=>by
    have:=jr (S:=S) (nx:=nx) (obs:=[A]) B;simp only[Ba,C5]at this;rw[this,yl _ DO DP];simp
   refine⟨_,_,e1 _ _ _,zR a ?_⟩;obtain⟨t,tl,b1,b2,b3,f0⟩:=zN rfl (ws.map bs) 0 DT;obtain rfl:bs w0=t:=by rw[b]at b1;simpa using b1
   have a2:0<ws.length:=DO
   have y:∀(S:Store) (e:Nat) (l m:List UInt8),(zQ ws).length<=140737488355328->l.length+m.length<=(zQ ws).length->S nx=.cells v 113 (YO nx v (nx+1) e l.length)->S (nx+1)=.cells e 5 (l.map U8)->_:=λS e l m f hl h1 h2=>Zeg (S:=S) (id:=nx) (v:=v) (ib:=nx+1) (w0:=e) l m h1 (.inr rfl) h2 DO
   have a3:∀k,(uq w0 rs k).length<=(zQ ws).length:=λk=>by rw[b];exact ZtI w0 rs k
   have j:=ZtF w0 rs;have n:=a3 0;rw[j]at n;refine ze (zi [] (zq f0 a2) ?_);refine λa=>((y _ e [] w0 f (by simpa using n) (by rw[uy];rfl) (by rw[zY];rfl)).mono ?_).v
   rintro _ _ ⟨rfl,rfl⟩;refine⟨_,_,wr2,zR a ?_⟩;have a4:1<=ws.length:=a2;have d0:ws.length-1=rs.length:=by rw[b];rfl
   have d1:List.take rs.length (List.flatMap Enc.enc (ws.map bs)).tail=(rs.map bs).flatMap Enc.enc:=by
    have:(List.flatMap Enc.enc (ws.map bs)).tail=(rs.map bs).flatMap Enc.enc:=by rw[b];rfl
    rw[this];exact Af (by rw[js];simp[Enc.sz])
   have d2:(PV.lst rs.length ((rs.map bs).flatMap Enc.enc))=L (rs.map bs):=by unfold L;rw[List.length_map]
   repeat apply ze
   refine zi [] (zF a4 d0 d1) ?_;rw[<-j];refine zn (zK (λk:Nat=>k<=rs.length) (λk=>[(1,T (bs [32])),(8,.ptr nx v 0),(63,L (rs.map bs)),(64,I rs.length),(65,I k)]) (λk=>[.cells v 113 (YO nx v (nx+1) (e+1+2*k) (uq w0 rs k).length),.cells (e+1+2*k) 5 ((uq w0 rs k).map U8)]) (λk=>rs.length-k) 0 [] DP (by simp[d2]) DP ?_);rintro k hk;refine DY ?_;refine ze (zA rfl (λhc=>?_) (λhc=>?_))
   ·simp at hc;obtain⟨t,tl,b1,b2,b3,f0⟩:=zN rfl (rs.map bs) k (by simpa using hc);obtain⟨u,hu,rfl⟩:∃u,rs[k]?=some u/\bs u=t:=by rw[Aj]at b1;simpa using b1
    have d:k<rs.length:=by simpa using hc
    have z:=ZtG (w0:=w0) hu;have a5:=a3 (k+1);rw[z]at a5;simp only[Am,Ba]at a5;refine zk (ze (zn (ze (zi [] (zq f0 d) ?_))));refine DY ?_;refine λa=>((y _ _ (uq w0 rs k) [32] f DT (by rw[uy];rfl) (by rw[zY];rfl)).mono ?_).v
    rintro _ _ ⟨rfl,rfl⟩;obtain⟨mid,o⟩:∃mid,mid=uq w0 rs k++[32]:=⟨_,rfl⟩;rw[<-o]at z ⊢;have d3:mid.length=(uq w0 rs k).length+1:=by rw[o];simp
    refine⟨_,_,wr2,zR a ?_⟩;refine zg ?_;refine λa=>((y _ _ mid u f (by rw[d3];omega) (by rw[uy];rfl) (by rw[zY];rfl)).mono ?_).v
    rintro _ _ ⟨rfl,rfl⟩;rw[<-z];refine⟨_,_,wr2,zR a ?_⟩;refine zg ?_;exact zu (k+1) [] d DO (by simp[zy k (by omega)];try omega) rfl (by simp only[show e+1+2*(k+1)=e+1+2*k+1+1 by omega,AH])
   ·simp at hc;obtain rfl:k=rs.length:=DO
    refine zC ?_;rw[ZtH,<-b];have a6:zQ ws≠[]:=by intro h;rw[h]at s;simp only[Ah]at s;omega
    refine DY ?_;refine λa=>((Zef (id:=nx) (v:=v) (ib:=nx+1) (w0:=e+1+2*rs.length) (p:=.ptr nx v 0) (zQ ws) (by rw[uy];rfl) (by rw[zY];rfl) a6 f).mono ?_).v
    rintro _ _ ⟨rfl,rfl⟩;rw[yl _ DO DP];refine⟨_,_,rfl,zR a ?_⟩;exact DZ q
theorem Wi(ws:List (List UInt8))(hl:ws.length<=1048576)(c:(zQ ws).length<=1048576):Pure prog 59 [L (ws.map bs)] (T (bs (zQ ws++[10]))):=by
 have a:=ZtJ ws hl DO;have hs:=YG (zQ ws) [10] (by simp only[Ba];omega);refine zx func59 ntmps59 results59 λS nx b=>?_
 refine DY ?_;refine DY ?_;refine yW [] a hs ?_;exact DZ b
open Go Go.Proofs
theorem Ji{a b:List UInt8}:bs a=bs b<->a=b:=by
 constructor
 ·intro h;have:=congrArg (λx:ByteArray=>x.data.toList) h;exact this
 ·rintro rfl;rfl
theorem Wj(ws:Ln)(k:Nat)(h:k<ws.length):∃u tl,ws[k]?=some u/\List.drop k ((ws.map bs).flatMap Enc.enc)=Enc.enc (bs u)++tl:=by
 obtain⟨t,tl,b1,b2,b3,a⟩:=zN rfl (ws.map bs) k (by simpa using h);obtain⟨u,b,rfl⟩:∃u,ws[k]?=some u/\bs u=t:=by rw[Aj]at b1;simpa using b1
 exact⟨u,tl,b,a⟩
theorem Zjh(a b:Ln)(o:a.length<=1048576)(hb:b.length<=1048576):Pure prog 139 [L (a.map bs),L (b.map bs)] (B (decide (a=b))):=by
 refine zx func139 ntmps139 results139 λS nx f=>?_
 refine DY ?_
 by_cases hl:a.length=b.length
 ·repeat apply ze
  refine zi [] hl ?_;refine zp (by simp[hl]) ?_;refine zk ?_
  repeat apply ze
  refine zg ?_;refine zn (zK (λk:Nat=>k<=a.length/\a.take k=b.take k) (λk=>[(0,L (a.map bs)),(1,L (b.map bs)),(12,I a.length),(13,I k)]) (λ_=>[]) (λk=>a.length-k) 0 [] DP (by simp[hl]) DP ?_);rintro k ⟨p,g⟩;refine DY ?_;refine ze (zA rfl (λhc=>?_) (λhc=>?_))
  ·simp at hc;obtain⟨u,tl,j,l⟩:=Wj a k hc;obtain⟨v,n,hv,m⟩:=Wj b k DO;have e:k<b.length:=DO
   refine zk (ze (zn (DY ?_)))
   by_cases c:u=v
   ·subst c;refine ze (zD none (Row.pures [0,1,2,3,4,5,6,7,8] .done) mixed (yr l m hc e vQ) ?_);refine zp DP ?_;refine zk (zg ?_);exact zu (k+1) [] ⟨hc,by rw[AC,AC,j,hv,g]⟩ DO (by simp[zy k (by omega)]) rfl DP
   ·have i:=Zbl (λh=>c (Ji.1 h):bs u≠bs v);refine ze (zD none (Row.pures [0,1,2,3,4,5,6,7,8] .done) mixed (yr l m hc e i) ?_);refine zo DP ?_;refine DY ?_;have d:¬a=b:=by rintro rfl;rw[j]at hv;exact c (Option.some.inj hv)
    exact zj (zm f DQ (by simp[d,zr]))
  ·simp at hc;obtain rfl:k=a.length:=DO
   rw[Ai,hl,Ai]at g;subst g;refine zC (DY ?_);exact zj (zm f DQ DP)
 ·repeat apply ze
  refine zg ?_;refine zo DT ?_;refine DY ?_;have d:¬a=b:=by rintro rfl;exact hl rfl
  exact zj (zm f DQ (by simp[d,zr]))
structure Rdr where
 pos:Nat
 d:Int
 v:Int
 c:Int
 l:Int
 m:Int
 bad:Bool
abbrev Qn(ls:List Ln)(r:Rdr)(cs ds:PV):List PV:=[L (wl ls),I r.pos,I r.d,I r.v,I r.c,I r.l,cs,ds,I r.m,B r.bad]
def qf(ls:List Ln)(r:Rdr):Rdr:=if r.pos<ls.length then { r with pos:=r.pos+1 } else r
theorem Vu{S:Store}{id ver:Nat}(ls:List Ln)(r:Rdr)(cs ds:PV)(j:S id=.cells ver 164 (Qn ls r cs ds))(hl:ls.length<=1048576):
  Spec prog 140 [.ptr id ver 0] S (λq S'=>q=L ((zP ls r.pos).map bs)/\S'=S.set id (.cells ver 164 (Qn ls (qf ls r) cs ds))):=by
 obtain⟨pos,d,v,c,l,m,bad⟩:=r;have b:(wl ls).length=ls.length:=DP
 refine yt func140 ntmps140 results140 λnx k=>?_
 have e:id<nx:=jh k j DP;have g1:¬nx<=id:=DO
 have x1:∀obs,ext S nx obs id=.cells ver 164 (Qn ls ⟨pos,d,v,c,l,m,bad⟩ cs ds):=λobs=>(zJ e).trans j
 by_cases h:pos<ls.length
 ·have f:¬(ls.length:Int)<=pos:=DO
  refine DY ?_
  repeat apply ze
  refine zD (some [id]) (Row.pures [0,1,2,3,4,5,6,7,8,9] .done) mixed (zS x1 g1 b f) ?_;refine zp DP ?_;refine zk ?_;have o:IntKind.i64.wrap ((pos:Int)+1)=(pos:Int)+1:=by rw[AA];omega
  refine ze (zi [] (zF x1 g1 o) ?_);obtain⟨A,n⟩:∃A,A=Ob.cells ver 164 (Qn ls ⟨pos+1,d,v,c,l,m,bad⟩ cs ds):=⟨_,rfl⟩;have g:qf ls ⟨pos,d,v,c,l,m,bad⟩=⟨pos+1,d,v,c,l,m,bad⟩:=if_pos h;have i:ext (S.set id (.cells ver 164 [L (wl ls),I ((pos:Int)+1),I d,I v,I c,I l,cs,ds,I m,B bad])) nx []=ext (S.set id A) nx []:=by rw[n];rfl
  have x2:∀obs,ext (S.set id A) nx obs id=.cells ver 164 (Qn ls ⟨pos+1,d,v,c,l,m,bad⟩ cs ds):=λobs=>by rw[zJ e,q11,n]
  rw[i];obtain⟨t,tl,b1,b2,b3,p⟩:=zN rfl (wl ls) pos (by rw[b];exact h);have a:t=(zP ls pos).map bs:=by
   have:ls[pos]?=some (zP ls pos):=by unfold zP;rw[Aa,Ac h];rfl
   rw[Aj,this]at b1;exact(Option.some.inj b1).symm
  have w2:IntKind.i64.wrap (pos:Int)=(pos:Int):=by rw[AA];omega
  refine ze (zD (some [id]) (Row.pures [0,1,2,3,4,5,6,7,8,9,10,11] .done) mixed (zW x2 g1 w2 p b h) ?_);refine zj ⟨_,_,by simp;rfl,⟨by simp[zr,a],by rw[g,n]⟩,yb ?_⟩;exact qX k e _
 ·have f:(ls.length:Int)<=pos:=DO
  have g:qf ls ⟨pos,d,v,c,l,m,bad⟩=⟨pos,d,v,c,l,m,bad⟩:=if_neg h;have a:zP ls pos=[]:=by unfold zP;rw[Aa,Ao DO];rfl
  refine DY ?_
  repeat apply ze
  refine zD (some [id]) (Row.pures [0,1,2,3,4,5,6,7,8,9] .done) mixed (zS x1 g1 b f) ?_;refine zo DP ?_;refine DY ?_;refine Yp 2 rfl ?_;rw[g];simp only[a];rw[YN S id _ j];exact DZ k
def LnsOk(ls:List Ln):Prop:=ls.length<=1048576/\∀l∈ls,l.length<=1048576/\∀w∈l,w.length<=1048576
theorem LnsOk.at{ls:List Ln}(h:LnsOk ls)(k:Nat):(zP ls k).length<=1048576/\∀w∈zP ls k,w.length<=1048576:=by
 unfold zP;rw[Aa];cases a:ls[k]? with
 | none=>simp
 | some l=>exact h.2 l (Ab a)
theorem ZtK(l:Ln)(k:Nat):xJ l (k+1)=xJ l k++[l.getD (2*k+1) []]:=by simp[xJ,AO]
theorem Zbn(l:Ln)(k:Nat):(xJ l k).length=k:=by simp[xJ]
theorem ZtL{l:Ln}{k:Nat}(a:∀w∈l,w.length<=1048576):∀w∈xJ l k,w.length<=1048576:=by
 intro w hm;obtain⟨i,_,rfl⟩:=Al.1 hm;rw[Aa];cases b:l[2*i+1]? with
 | none=>simp
 | some u=>exact a u (Ab b)
theorem Vv{ws:Ln}{k:Nat}{u:Wd}(h:ws[k]?=some u):ws.getD k []=u:=by rw[Aa,h];rfl
theorem Zji{S:Store}{id ver:Nat}(ls:List Ln)(r:Rdr)(cs ds:PV)(b:Ln)(hS:S id=.cells ver 164 (Qn ls r cs ds))(hl:LnsOk ls)(hn:b.length<=1000):
  Spec prog 141 [.ptr id ver 0,L (b.map bs)] S (λq S'=>q=jH (qn (zP ls r.pos) b)/\S'=S.set id (.cells ver 164 (Qn ls (qf ls r) cs ds))):=by
 have d:=λS (h:S id=_)=>Vu (S:=S) (id:=id) (ver:=ver) ls r cs ds h hl.1
 obtain⟨b8,a4⟩:=hl.at r.pos;obtain⟨S1,g⟩:∃S1,S1=S.set id (.cells ver 164 (Qn ls (qf ls r) cs ds)):=⟨_,rfl⟩;rw[<-g];generalize zP ls r.pos=ln at *;refine yt func141 ntmps141 results141 λnx m=>?_
 have y:id<nx:=jh m hS DP;have g1:¬nx<=id:=DO
 have a5:yd nx S1:=by rw[g];exact qX m y _
 refine DY ?_;refine ze (xL [] DU DU λK Gc Gh hK j a0 X e hX=>?_);simp -implicitDefEqProofs [e,hX]
 try clear e hX X
 refine j _ _ _ _ _ _ _ λo=>((d _ ((zJ y).trans hS)).mono ?_).v
 rintro _ _ ⟨rfl,rfl⟩;refine⟨S1,[],by rw[qq _ y,<-g],?_⟩;clear j a0;clear Gc Gh;refine wK o (D:=[]) DU λGc Gh j a0 X e hX=>?_
 simp -implicitDefEqProofs [e,hX];clear e hX X;refine hK _ _ _ ?_;clear hK j a0;clear K Gc Gh;clear d o m g hS;have m:=a5;have w0:IntKind.i64.wrap (2*(b.length:Int))=2*b.length:=by rw[AA];omega
 by_cases p:ln.length=2*b.length
 ·have c0:(ln.length:Int)=2*b.length:=DO
  repeat apply ze
  refine zi [] (zq w0 c0) ?_;refine zp DP ?_;refine zk (DY ?_);refine ze (q9 7 9 1 rfl λv1=>?_);refine DY ?_;refine zn (zK (λs:Nat × Nat=>s.1<=b.length/\∀i,i<s.1->ln.getD (2*i) []=b.getD i []) (λ(k,v)=>[(6,L (ln.map bs)),(7,.sl nx v 1 0 k),(18,L (b.map bs)),(19,I b.length),(20,I k)]) (λ(k,v)=>[.cells v 9 (((xJ ln k).map bs).flatMap Enc.enc)]) (λs=>b.length-s.1) (0,v1) [] ⟨by simp,λi hi=>absurd hi (Nat.not_lt_zero _)⟩ DP (by simp[xJ]) ?_);rintro⟨k,v⟩ ⟨hk,hq⟩;simp only at hk hq ⊢;refine DY ?_;refine ze (zA rfl (λhc=>?_) (λhc=>?_))
  ·simp at hc;obtain⟨a,tl,ha,f0⟩:=Wj b k hc;obtain⟨u,c6,hu,f1⟩:=Wj ln (2*k) DO;obtain⟨x,c7,hx,f2⟩:=Wj ln (2*k+1) DO;have k1:2*k<ln.length:=DO
   have k2:2*k+1<ln.length:=DO
   have w1:IntKind.i64.wrap (2*(k:Int))=((2*k:Nat):Int):=by rw[AA];omega
   have w2:IntKind.i64.wrap (((2*k:Nat):Int)+1)=((2*k+1:Nat):Int):=zy _ DO;obtain⟨a6,l⟩:∃n,n=2*k:=⟨_,rfl⟩;obtain⟨a7,a1⟩:∃n,n=2*k+1:=⟨_,rfl⟩;rw[<-l]at f1 k1 w1 w2 hu;rw[<-a1]at f2 k2 hx;have a8:IntKind.i64.wrap ((a6:Int)+1)=(a7:Int):=by rw[w2,l,a1]
   refine zk (ze (zn (ze (zi [] (zq f0 hc) ?_))))
   by_cases a2:u=a
   ·subst a2
    repeat apply ze
    refine zi [] (zS f1 k1 w1 vQ) ?_;refine zp DP ?_;refine zk ?_;have a3:(xJ ln k).length=k:=Zbn ln k;refine zi [] (zS f2 k2 w1 a8) ?_;refine⟨by omega,?_⟩;refine zg ?_;have a9:((xJ ln (k+1)).map bs).flatMap Enc.enc=List.take k (((xJ ln k).map bs).flatMap Enc.enc)++[T (bs x)]:=by
     rw[Af (by rw[Za3,List.length_map,a3];exact Ag _),ZtK,<-a1,Vv hx,List.map_append,Aq];rfl
    exact zu (k+1,v+1) [] ⟨hc,λi hi=>by
     rcases Bh i k with q | q
     ·exact hq i q
     ·obtain rfl:i=k:=DO
      rw[<-l,Vv hu,Vv ha]⟩ DO (by simp[zy k (by omega)]) rfl (by simp only[a9,AH])
   ·have b7:=Zbl (λh=>a2 (Ji.1 h):bs u≠bs a)
    repeat apply ze
    refine zi [] (zS f1 k1 w1 b7) ?_;refine zo DP ?_;refine DY ?_;have f:qn ln b=none:=by
     unfold qn vg;rw[if_neg];rw[Ar,Aw];rintro⟨_,h2⟩;have:=of_decide_eq_true (h2 k (AK.2 hc));rw[<-l,Vv hu,Vv ha]at this;exact a2 this
    exact zj (zm m DQ (by rw[f];rfl))
  ·simp at hc;obtain rfl:k=b.length:=DO
   have f:qn ln b=yI (xJ ln b.length):=by
    unfold qn vg;rw[if_pos];rw[Ar,Aw];exact⟨decide_eq_true p,λi hi=>decide_eq_true (hq i (AK.1 hi))⟩
   have c:=Zeb (xJ ln b.length) (by rw[Zbn];omega) (λw hw=>by have:=ZtL a4 w hw;omega);have a3:(xJ ln b.length).length=b.length:=Zbn ln _;rw[f];generalize xJ ln b.length=od at *;refine zC (yh 0 rfl ?_);have t:=a3.symm;rw[show L (od.map bs)=.lst od.length ((od.map bs).flatMap Enc.enc) by unfold L;rw[List.length_map]]at c;cases hz:yI od with
   | none =>
    rw[hz]at c;simp only[jH]at c ⊢;refine ze (zi [] t ?_);refine zv c ?_;exact DZ m
   | some z =>
    rw[hz]at c;simp only[jH]at c ⊢;refine ze (zi [] t ?_);refine zv c ?_;exact DZ m
 ·have c0:¬(ln.length:Int)=2*b.length:=DO
  repeat apply ze
  refine zi [] (zq w0 c0) ?_;refine zo DP ?_;refine DY ?_;have f:qn ln b=none:=by unfold qn vg;rw[decide_eq_false p];rfl
  exact zj (zm m DQ (by rw[f];rfl))
open Go Go.Proofs
theorem Wl{l a:Ln}{z:List Int}(h:qn l a=some z):z.length=a.length:=by
 unfold qn at h;split at h
 ·rw[Zea h,Zbn]
 ·cases h
abbrev yq(ver:Nat)(ls:List Ln)(r:Rdr)(cs ds:PV):Ob:=.cells ver 164 (Qn ls r cs ds)
theorem ZtM{S:Store}{id ver:Nat}(ls:List Ln)(r:Rdr)(cs ds:PV)(f:S id=yq ver ls r cs ds)(hl:LnsOk ls):
  Spec prog 102 [.ptr id ver 0] S (λq S'=>q=B (decide (zP ls r.pos=[jG,[49]]))/\S'=S.set id (yq ver ls (qf ls r) cs ds)):=by
 have a:=λS (h:S id=_)=>Vu (S:=S) (id:=id) (ver:=ver) ls r cs ds h hl.1
 have g:=Zjh (zP ls r.pos) [jG,[49]] (hl.at r.pos).1 DP;obtain⟨S1,c⟩:∃S1,S1=S.set id (yq ver ls (qf ls r) cs ds):=⟨_,rfl⟩;rw[<-c];generalize zP ls r.pos=ln at *;refine yt func102 ntmps102 results102 λnx e=>?_
 have d:id<nx:=jh e f DP;have i:yd nx S1:=by rw[c];exact qX e d _
 refine DY ?_;refine DY ?_;refine λb=>((a _ ((zJ d).trans f)).mono ?_).v
 rintro _ _ ⟨rfl,rfl⟩;refine⟨S1,[],by rw[qq _ d,<-c],zR b ?_⟩;refine λb=>((g _).mono ?_).v
 rintro _ _ ⟨rfl,rfl⟩;refine⟨_,_,rfl,zR b ?_⟩;clear a e c f;have e:=i;exact DZ e
theorem ZtN{S:Store}{id ver:Nat}(ls:List Ln)(r:Rdr)(cs ds:PV)(n:S id=yq ver ls r cs ds)(hl:LnsOk ls):
  Spec prog 103 [.ptr id ver 0] S (λq S'=>match qn (zP ls r.pos) [qE,qG,qH,qI] with
   | some [d,v,c,l]=>q=B true/\S'=S.set id (yq ver ls { qf ls r with d:=d,v:=v,c:=c,l:=l } cs ds)
   | _=>q=B false/\S'=S.set id (yq ver ls (qf ls r) cs ds)):=by
 have a:=λS (h:S id=_)=>Zji (S:=S) (id:=id) (ver:=ver) ls r cs ds [qE,qG,qH,qI] h hl DP
 cases s:qn (zP ls r.pos) [qE,qG,qH,qI] with
 | none =>
  rw[s]at a;simp only[jH]at a ⊢;obtain⟨S1,e⟩:∃S1,S1=S.set id (yq ver ls (qf ls r) cs ds):=⟨_,rfl⟩;rw[<-e];refine yt func103 ntmps103 results103 λnx j=>?_
  have b:id<nx:=jh j n DP;have t:yd nx S1:=by rw[e];exact qX j b _
  refine DY ?_;refine ze (xL [] DU DU λK Gc Gh u i k X g o=>?_);simp -implicitDefEqProofs [g,o]
  try clear g o X
  refine i _ _ _ _ _ _ _ λf=>((a _ ((zJ b).trans n)).mono ?_).v
  rintro _ _ ⟨rfl,rfl⟩;refine⟨S1,[],by rw[qq _ b,<-e],?_⟩;clear i k;clear Gc Gh;refine wK f (D:=[]) DU λGc Gh i k X g o=>?_
  simp -implicitDefEqProofs [g,o];clear g o X;refine u _ _ _ ?_;clear u i k;clear K Gc Gh;clear a f j e n;have j:=t
  repeat apply ze
  refine zg ?_;refine zp DP ?_;refine zk (DY ?_);exact DZ j
 | some z =>
  obtain⟨d,v,c,l,rfl⟩:∃d v c l,z=[d,v,c,l]:=by
   have:=Wl s
   match z,this with
   | [d,v,c,l],_=>exact⟨d,v,c,l,rfl⟩
  rw[s]at a;simp only[jH]at a ⊢;generalize qf ls r=r1 at *;obtain⟨pos,w,v0,c0,x,m,bad⟩:=r1;refine yt func103 ntmps103 results103 λnx j=>?_
  have b:id<nx:=jh j n DP;refine DY ?_;refine DY ?_;refine λf=>((a _ ((zJ b).trans n)).mono ?_).v
  rintro _ _ ⟨rfl,rfl⟩;refine⟨_,[],qq _ b,zR f ?_⟩;obtain⟨S1,e⟩:∃S1,S1=S.set id (yq ver ls ⟨pos,w,v0,c0,x,m,bad⟩ cs ds):=⟨_,rfl⟩;rw[<-e];have g1:¬nx<=id:=DO
  have x1:∀obs,ext S1 nx obs id=yq ver ls ⟨pos,w,v0,c0,x,m,bad⟩ cs ds:=λobs=>by rw[zJ b,e,q11]
  repeat apply ze
  refine zg ?_;refine zo DP ?_;have x2:∀A obs,ext (S1.set id A) nx obs id=A:=λA obs=>by rw[zJ b,q11]
  refine zD (some []) (Row.pures [0,1,2,3,4,5,6,7,8,9,10,11,12,13,14,15,16,17,18] (.alt 19 (Row.pures [20,21,22] (.alt 23 (Row.pures [24,25,26] (.alt 27 (Row.pures [28,29,30] (.alt 31 (.done) .stop)) .stop)) .stop)) .stop)) mixed (zS x1 g1 x2 Store.set_set) ?_;have p:S1.set id (.cells ver 164 [L (wl ls),I pos,I d,I v,I c,I l,cs,ds,I m,B bad])=S.set id (yq ver ls ⟨pos,d,v,c,l,m,bad⟩ cs ds):=by rw[e,Store.set_set]
  rw[p];refine DY ?_;refine zj ⟨_,_,by simp;rfl,⟨by simp[zr],rfl⟩,yb ?_⟩;exact qX j b _
theorem ZtO{S:Store}{id ver:Nat}(ls:List Ln)(r:Rdr)(cs ds:PV)(n:S id=yq ver ls r cs ds)(hl:LnsOk ls):
  Spec prog 104 [.ptr id ver 0] S (λq S'=>match qn (zP ls r.pos) [qJ] with
   | some [m]=>q=B true/\S'=S.set id (yq ver ls { qf ls r with m:=m } cs ds)
   | _=>q=B false/\S'=S.set id (yq ver ls (qf ls r) cs ds)):=by
 have a:=λS (h:S id=_)=>Zji (S:=S) (id:=id) (ver:=ver) ls r cs ds [qJ] h hl DP
 cases s:qn (zP ls r.pos) [qJ] with
 | none =>
  rw[s]at a;simp only[jH]at a ⊢;obtain⟨S1,b⟩:∃S1,S1=S.set id (yq ver ls (qf ls r) cs ds):=⟨_,rfl⟩;rw[<-b];refine yt func104 ntmps104 results104 λnx j=>?_
  have e:id<nx:=jh j n DP;have t:yd nx S1:=by rw[b];exact qX j e _
  refine DY ?_;refine ze (xL [] DU DU λK Gc Gh u i k X g o=>?_);simp -implicitDefEqProofs [g,o]
  try clear g o X
  refine i _ _ _ _ _ _ _ λf=>((a _ ((zJ e).trans n)).mono ?_).v
  rintro _ _ ⟨rfl,rfl⟩;refine⟨S1,[],by rw[qq _ e,<-b],?_⟩;clear i k;clear Gc Gh;refine wK f (D:=[]) DU λGc Gh i k X g o=>?_
  simp -implicitDefEqProofs [g,o];clear g o X;refine u _ _ _ ?_;clear u i k;clear K Gc Gh;clear a f j b n;have j:=t
  repeat apply ze
  refine zg ?_;refine zp DP ?_;refine zk (DY ?_);exact DZ j
 | some z =>
  obtain⟨m,rfl⟩:∃m,z=[m]:=by
   have:=Wl s
   match z,this with
   | [m],_=>exact⟨m,rfl⟩
  rw[s]at a;simp only[jH]at a ⊢;generalize qf ls r=r1 at *;obtain⟨pos,d,v,c,l,w,bad⟩:=r1;refine yt func104 ntmps104 results104 λnx j=>?_
  have e:id<nx:=jh j n DP;refine DY ?_;refine DY ?_;refine λf=>((a _ ((zJ e).trans n)).mono ?_).v
  rintro _ _ ⟨rfl,rfl⟩;refine⟨_,[],qq _ e,zR f ?_⟩;obtain⟨S1,b⟩:∃S1,S1=S.set id (yq ver ls ⟨pos,d,v,c,l,w,bad⟩ cs ds):=⟨_,rfl⟩;rw[<-b];have g1:¬nx<=id:=DO
  have x1:∀obs,ext S1 nx obs id=yq ver ls ⟨pos,d,v,c,l,w,bad⟩ cs ds:=λobs=>by rw[zJ e,b,q11]
  repeat apply ze
  refine zg ?_;refine zo DP ?_;refine zi [] (zq x1 g1) ?_;have p:S1.set id (.cells ver 164 [L (wl ls),I pos,I d,I v,I c,I l,cs,ds,I m,B bad])=S.set id (yq ver ls ⟨pos,d,v,c,l,m,bad⟩ cs ds):=by rw[b,Store.set_set]
  rw[p];refine DY ?_;refine zj ⟨_,_,by simp;rfl,⟨by simp[zr],rfl⟩,yb ?_⟩;exact qX j e _
theorem ZtP{S:Store}{id ver:Nat}(ls:List Ln)(r:Rdr)(cs ds:PV)(e:S id=yq ver ls r cs ds):
  Spec prog 107 [.ptr id ver 0] S (λq S'=>q=B (decide (r.pos=ls.length))/\S'=S):=by
 obtain⟨pos,d,v,c,l,m,bad⟩:=r;have a:(wl ls).length=ls.length:=DP
 refine yt func107 ntmps107 results107 λnx f=>?_
 have b:id<nx:=jh f e DP;have g1:¬nx<=id:=DO
 have x1:∀obs,ext S nx obs id=yq ver ls ⟨pos,d,v,c,l,m,bad⟩ cs ds:=λobs=>(zJ b).trans e
 refine DY ?_;refine ze (zD (some [id]) (Row.pures [0,1,2,3,4,5,6,7,8,9,10] .done) mixed (zF x1 g1 a) ?_);exact zj (zm f DQ (by simp[zr,Int.natCast_inj]))
open Go Go.Proofs
def Yb(n:Int)(ps:Ln)(k:Nat):Bool:=!((ps.take k).all λw=>decide ((w.length:Int)=n))
theorem ZtQ(n:Int)(ps:Ln):Yb n ps 0=false:=by simp[Yb]
theorem ZtR{n:Int}{ps:Ln}{k:Nat}{w:Wd}(h:ps[k]?=some w):Yb n ps (k+1)=(Yb n ps k || !decide ((w.length:Int)=n)):=by
 unfold Yb;rw[AC,h];simp
theorem ZtS{w:Wd}(h:ju w=true):(qM w).1=qu w/\(qM w).2≠2:=by
 unfold qM qu;rw[if_pos h];split<;>simp
theorem ZtT{w:Wd}(h:ju w=false):(qM w).2=2:=by
 unfold qM;rw[if_neg (by rw[h];simp)]
theorem ZtU{S:Store}{id ver idC vC:Nat}(ls:List Ln)(r:Rdr)(cu:List Cust)(ds:PV)(l:Ln)(hS:S id=yq ver ls r (.sl idC vC 8 0 cu.length) ds)(hC:S idC=.cells vC 87 (cu.flatMap Enc.enc))(d6:cu.length<=1048576)(hl:l.length<=1048576/\∀w∈l,w.length<=1048576):
  Spec prog 142 [.ptr id ver 0,L (l.map bs)] S (λq S'=>match Z7 r.d l with
   | none=>q=B false/\∃b,S'=S.set id (yq ver ls { r with bad:=b } (.sl idC vC 8 0 cu.length) ds)
   | some (c,ok)=>q=B true/\S'=(S.set id (yq ver ls { r with bad:=r.bad || !ok } (.sl idC (vC+1) 8 0 (cu.length+1)) ds)).set idC (.cells (vC+1) 87 ((cu++[c]).flatMap Enc.enc))):=by
 have z:id≠idC:=by rintro rfl;rw[hS]at hC;simp at hC
 obtain⟨pos,d,v,c,ln,m,bad⟩:=r;rcases l with _ | ⟨dw,ps⟩
 ·simp only[Z7];refine yt func142 ntmps142 results142 λnx j=>?_
  refine DY ?_
  repeat apply ze
  refine zg ?_;refine zo DP ?_;refine DY ?_;refine zj ⟨_,_,by simp;rfl,⟨by simp[zr],bad,(YN S id _ hS).symm⟩,yb ?_⟩;exact j
 ·rw[Vo];have f:=Zip dw (by have:=hl.2 dw (by simp);omega);cases hz:y8 dw with
  | none =>
   rw[hz]at f;simp only[Z3,CI,AT,false_and,if_false]at f ⊢;refine yt func142 ntmps142 results142 λnx j=>?_
   refine DY ?_
   repeat apply ze
   refine zg ?_;refine zp DT ?_;refine zk (DY ?_);refine zv f ?_
   repeat apply ze
   refine zg ?_;refine zo DP ?_;refine DY ?_;refine zj ⟨_,_,by simp;rfl,⟨by simp[zr],bad,(YN S id _ hS).symm⟩,yb ?_⟩;exact j
  | some dn =>
   have a8:yo dw=dn:=by unfold yo;rw[hz];rfl
   rw[hz]at f;simp only[Z3]at f;refine yt func142 ntmps142 results142 λnx j=>?_
   have g:id<nx:=jh j hS DP;have p:idC<nx:=jh j hC DP;have g1:¬nx<=id:=DO
   refine DY ?_
   repeat apply ze
   refine zg ?_;refine zp DT ?_;refine zk (DY ?_);refine zv f ?_
   repeat apply ze
   refine zg ?_;refine zp DP ?_;refine zk (DY ?_);intro v0;refine jd 0 2 98 1 rfl rfl λv1=>?_
   obtain⟨o,ho⟩:∃o,o=(if (some dn).isSome=true/\(ps.all ju)=true then some (Zk dw ps,ps.all λw=>decide ((w.length:Int)=d)) else none):=⟨_,rfl⟩;rw[<-ho];have a9:List.take ps.length ((ps.map bs).flatMap Enc.enc)=(ps.map bs).flatMap Enc.enc:=Af (by rw[Za3,List.length_map];exact Ag _);obtain⟨a,e⟩:∃a:Nat->Store,∀k,a k=S.set id (yq ver ls ⟨pos,d,v,c,ln,m,bad || Yb d ps k⟩ (.sl idC vC 8 0 cu.length) ds):=⟨_,λ_=>rfl⟩;have b7:a 0=S:=by rw[e,ZtQ,Bool.or_false];exact YN S id _ hS
   have x1:∀k obs,ext (a k) nx obs id=yq ver ls ⟨pos,d,v,c,ln,m,bad || Yb d ps k⟩ (.sl idC vC 8 0 cu.length) ds:=λk obs=>by rw[zJ g,e,q11]
   have b8:∀k,yd nx (a k):=λk=>by rw[e];exact qX j g _
   have d7:ps.length<=1048576:=by have:=hl.1;simp at this;omega
   repeat apply ze
   refine zi [] a9 ?_;refine zn (jX (λs:Nat × Nat × Nat=>s.1<=ps.length/\∀w∈ps.take s.1,ju w=true) (λ(k,w0,w1)=>[(0,.ptr id ver 0),(7,.ptr nx w0 0),(27,L (ps.map bs)),(28,I ps.length),(29,I k)]) (λs=>a s.1) (λ(k,w0,w1)=>[.cells w0 87 [I 1,I dn,.sl (nx+1) w1 1 0 k,I 0,I 0,I 0,I 0,I 0],.cells w1 98 (((ps.map qu).take k).flatMap Enc.enc)]) (λs=>ps.length-s.1) (zZ (0,v0,v1) [] DP DP b7 DP) ?_);rintro⟨k,w0,w1⟩ ⟨hk,h⟩;simp only at hk h ⊢;refine DY ?_;refine ze (zA rfl (λhc=>?_) (λhc=>?_))
   ·simp at hc;obtain⟨w,tl,hw,f0⟩:=Wj ps k hc;have c6:w.length<=1048576:=hl.2 w (by simp[Ab hw]);have c7:=Ztt w c6;have a2:=xU w;refine zk (ze (zn (ze (zi [] (zq f0 hc) ?_))));refine DY ?_;refine zv c7 ?_;cases i:ju w with
    | false =>
     have hf:=ZtT i;have a0:o=none:=by
      rw[ho,if_neg];rintro⟨_,h2⟩;have:=Aw.1 h2 w (Ab hw);rw[i]at this;cases this
     repeat apply ze
     refine zi [] hf ?_;refine zo DP ?_;refine DY ?_;refine zj ⟨_,_,by simp;rfl,by rw[a0];exact⟨by simp[zr],_,e k⟩,yb (b8 k)⟩
    | true =>
     obtain⟨a3,c8⟩:=ZtS i;have t:∀u∈ps.take (k+1),ju u=true:=by
      rw[AC,hw];intro u hu;rw[AB]at hu;rcases hu with hu | hu
      ·exact h u hu
      ·obtain rfl:u=w:=by simpa using hu
       exact i
     have a4:((ps.map qu).take (k+1)).flatMap Enc.enc=((ps.map qu).take k).flatMap Enc.enc++[U (qu w)]:=by rw[AC,Aj,hw,Aq];rfl
     have d0:(((ps.map qu).take k).flatMap Enc.enc).length=k:=by rw[Zfv,Ax,List.length_map];omega
     have x:List.take k (((ps.map qu).take k).flatMap Enc.enc)=((ps.map qu).take k).flatMap Enc.enc:=Af (by rw[d0];exact Ag _);have a5:=ZtR (n:=d) hw
     repeat apply ze
     refine zi [] c8 ?_;refine zp DP ?_;refine zk ?_
     by_cases hq:(w.length:Int)=d
     ·have a1:a (k+1)=a k:=by rw[e,e,a5,decide_eq_true hq,Bool.not_true,Bool.or_false]
      repeat apply ze
      refine zi [] (zF x1 a2 hq) ?_;refine zp DP ?_;refine zk (zi [] (zq a3 x) ?_);refine⟨by omega,?_⟩;refine zg ?_;exact zu (k+1,w0,w1+1) [] ⟨hc,t⟩ DO (by simp[zy k (by omega)]) a1 (by simp only[a4,AH])
     ·have a1:(a k).set id (yq ver ls ⟨pos,d,v,c,ln,m,true⟩ (.sl idC vC 8 0 cu.length) ds)=a (k+1):=by rw[e,e,a5,decide_eq_false hq,Di,Bool.or_true,Bool.or_true,Store.set_set]
      repeat apply ze
      refine zi [] (zF x1 a2 hq) ?_;refine zo DP ?_;refine zi [] (zq x1 g1) ?_;have a6:(a k).set id (.cells ver 164 [L (wl ls),I pos,I d,I v,I c,I ln,.sl idC vC 8 0 cu.length,ds,I m,B true])=a (k+1):=a1;rw[a6];refine zi [] (zq a3 x) ?_;refine⟨by omega,?_⟩;refine zg ?_;exact zu (k+1,w0,w1+1) [] ⟨hc,t⟩ DO (by simp[zy k (by omega)]) rfl (by simp only[a4,AH])
   ·simp at hc;obtain rfl:k=ps.length:=DO
    rw[Ai]at h;refine zC ?_;have a0:o=some (Zk dw ps,ps.all λw=>decide ((w.length:Int)=d)):=by
     rw[ho,if_pos ⟨rfl,Aw.2 h⟩]
    have d1:Yb d ps ps.length=!(ps.all λw=>decide ((w.length:Int)=d)):=by unfold Yb;rw[Ai]
    have y:(ps.map qu).length=ps.length:=DP
    rw[show (ps.map qu).take ps.length=ps.map qu from Af DP];refine yh 1 rfl ?_;have d2:=x1 ps.length;have g2:¬nx<=idC:=DO
    have d3:∀obs,ext (a ps.length) nx obs idC=.cells vC 87 (cu.flatMap Enc.enc):=λobs=>by rw[zJ p,e,q10 _ _ _ _ (Ne.symm z),hC]
    have d4:∀A obs,ext ((a ps.length).set idC A) nx obs id=yq ver ls ⟨pos,d,v,c,ln,m,bad || Yb d ps ps.length⟩ (.sl idC vC 8 0 cu.length) ds:=λA obs=>by rw[zJ g,q10 _ _ _ _ z,e,q11]
    refine ze (zD (some [nx]) (Row.pures [0,1,2,3,4,6,7] (.alt 5 (.alt 8 (Row.pures [9,10,11] (.alt 12 (.done) .stop)) .stop) .stop)) mixed (zW d2 d3 d4 g1 g2 y) ?_);refine⟨by omega,?_⟩;have d5:(cu++[Zk dw ps]).flatMap Enc.enc=cu.flatMap Enc.enc++[I 1,I dn,.lst ps.length ((ps.map qu).flatMap Enc.enc),I 0,I 0,I 0,I 0,I 0]:=by
     rw[Aq];congr 1
     show yi (Zk dw ps)=_
     unfold Zk yi;rw[a8]
     show [I 1,I dn,.lst (ps.map qu).length ((ps.map qu).flatMap Enc.enc),I 0,I 0,I 0,I 0,I 0]=_
     rw[y]
    rw[<-d5];have a7:((a ps.length).set idC (.cells (vC+1) 87 ((cu++[Zk dw ps]).flatMap Enc.enc))).set id (.cells ver 164 [L (wl ls),I pos,I d,I v,I c,I ln,.sl idC (vC+1) 8 0 (cu.length+1),ds,I m,B (bad || Yb d ps ps.length)])=(S.set id (yq ver ls ⟨pos,d,v,c,ln,m,bad || !(ps.all λw=>decide ((w.length:Int)=d))⟩ (.sl idC (vC+1) 8 0 (cu.length+1)) ds)).set idC (.cells (vC+1) 87 ((cu++[Zk dw ps]).flatMap Enc.enc)):=by
     rw[<-d1,e,Store.set_comm _ idC id _ _ z,Store.set_set]
    rw[a7];refine DY ?_;refine zj ⟨_,_,by simp;rfl,by rw[a0];exact⟨by simp[zr],by rw[Aq];rfl⟩,yb ?_⟩;exact qX (qX j g _) p _
theorem Wm(a:ByteArray):yC .eql a a=some (.bool true):=by simp[yC]
theorem Zjj{l:Ln}(h:l.length≠5):uN l=none:=by
 match l,h with
 | [],_=>rfl
 | [_],_=>rfl
 | [_,_],_=>rfl
 | [_,_,_],_=>rfl
 | [_,_,_,_],_=>rfl
 | [_,_,_,_,_],h=>exact absurd rfl h
 | _ :: _ :: _ :: _ :: _ :: _ :: _,_=>rfl
theorem ZtV{S:Store}{id ver idC vC:Nat}(ls:List Ln)(r:Rdr)(cu:List Cust)(ds:PV)(l:Ln)(hS:S id=yq ver ls r (.sl idC vC 8 0 cu.length) ds)(hC:S idC=.cells vC 87 (cu.flatMap Enc.enc))(c8:cu.length<=1048576)(hl:l.length<=1048576/\∀w∈l,w.length<=1048576):
  Spec prog 143 [.ptr id ver 0,L (l.map bs)] S (λq S'=>match uN l with
   | none=>q=B false/\S'=S
   | some c=>q=B true/\S'=(S.set id (yq ver ls r (.sl idC (vC+1) 8 0 (cu.length+1)) ds)).set idC (.cells (vC+1) 87 ((cu++[c]).flatMap Enc.enc))):=by
 have i:id≠idC:=by rintro rfl;rw[hS]at hC;simp at hC
 obtain⟨pos,d,v,c,ln,m,bad⟩:=r
 by_cases h5:l.length=5
 ·obtain⟨a,b,e,n,h,rfl⟩:∃a b c d e,l=[a,b,c,d,e]:=by
   match l,h5 with
   | [a,b,c,d,e],_=>exact⟨a,b,c,d,e,rfl⟩
  obtain⟨o,ho⟩:∃o,o=uN [a,b,e,n,h]:=⟨_,rfl⟩;rw[<-ho];rw[Zbk]at ho;have f:=Zeb [a,b,e,h] DP (λw hw=>by
   have:=hl.2 w (by simp at hw ⊢;rcases hw with rfl | rfl | rfl | rfl<;>simp);omega)
  cases hz:yI [a,b,e,h] with
  | none =>
   rw[hz]at f;simp only[jH]at f;have g:o=none:=by rw[ho,hz];simp
   refine yt func143 ntmps143 results143 λnx y=>?_
   refine DY ?_
   repeat apply ze
   refine zg ?_;refine zp DP ?_;refine zk (ze (zD none (Row.pures [0,1,2,3,4,5,6,7,8,9,10,11,12,13,14,15,16,17,18] .done) mixed trivial ?_));refine zO (f) trivial ?_
   repeat apply ze
   refine zg ?_;refine zo DP ?_;refine DY ?_;refine zj ⟨_,_,by simp;rfl,by rw[g];exact⟨by simp[zr],rfl⟩,yb y⟩
  | some z =>
   have a9:z=[yo a,yo b,yo e,yo h]:=by
    unfold yI at hz;split at hz<;>cases hz;rfl
   subst a9;rw[hz]at f ho;simp only[jH]at f;obtain⟨s,b7⟩:∃x,x=yo a:=⟨_,rfl⟩;obtain⟨t,b8⟩:∃x,x=yo b:=⟨_,rfl⟩;obtain⟨ne,a7⟩:∃x,x=yo e:=⟨_,rfl⟩;obtain⟨u,c6⟩:∃x,x=yo h:=⟨_,rfl⟩;rw[<-b7,<-b8,<-a7,<-c6]at f ho;have a1:n=wE->yC .eql (bs n) ⟨#[102,105,108,108]⟩=some (.bool true):=λq=>by rw[q];exact Wm _
   have a0:n≠wE->yC .eql (bs n) ⟨#[102,105,108,108]⟩=some (.bool false):=λq=>Za9 λhh=>q (Ji.1 hh)
   have a8:n=vN->yC .eql (bs n) ⟨#[97,110,121]⟩=some (.bool true):=λq=>by rw[q];exact Wm _
   have a2:n≠vN->yC .eql (bs n) ⟨#[97,110,121]⟩=some (.bool false):=λq=>Za9 λhh=>q (Ji.1 hh)
   refine yt func143 ntmps143 results143 λnx y=>?_
   have k:id<nx:=jh y hS DP;have j:idC<nx:=jh y hC DP;have g1:¬nx<=id:=DO
   have g2:¬nx<=idC:=DO
   refine DY ?_
   repeat apply ze
   refine zg ?_;refine zp DP ?_;refine zk (ze (zD none (Row.pures [0,1,2,3,4,5,6,7,8,9,10,11,12,13,14,15,16,17,18] .done) mixed trivial ?_));refine zO (f) trivial ?_
   repeat apply ze
   refine zg ?_;refine zp DP ?_;refine zk (ze (zD (some []) (Row.pures [0,1,2,3,4,5,6,7,8,9,10,11,12] (.alt 13 (.alt 14 (.done) .stop) .stop)) mixed trivial ?_));intro v0;refine yn 0 2 rfl rfl ?_
   repeat apply ze
   refine zg ?_;refine zn ?_
   by_cases hf:n=wE
   ·have e1:=a1 hf;refine ze (zi [] e1 ?_);refine zo DP ?_;refine zg ?_;have g:o=some ⟨2,0,[],s,t,ne,1,u⟩:=by rw[ho,if_pos ⟨rfl,.inl hf⟩];unfold YM;rw[if_pos hf]
    have a3:∀obs,ext S nx obs id=yq ver ls ⟨pos,d,v,c,ln,m,bad⟩ (.sl idC vC 8 0 cu.length) ds:=λobs=>(zJ k).trans hS
    have a4:∀obs,ext S nx obs idC=.cells vC 87 (cu.flatMap Enc.enc):=λobs=>(zJ j).trans hC
    have a5:∀A obs,ext (S.set idC A) nx obs id=yq ver ls ⟨pos,d,v,c,ln,m,bad⟩ (.sl idC vC 8 0 cu.length) ds:=λA obs=>by rw[zJ k,q10 _ _ _ _ i,hS]
    refine ze (zD (some [nx]) (Row.pures [0,1,2,3,4,6,7] (.alt 5 (.alt 8 (Row.pures [9,10,11] (.alt 12 (.done) .stop)) .stop) .stop)) mixed (yr a3 a4 a5 g1 g2) ?_);refine⟨by omega,?_⟩;have a6:(cu++[(⟨2,0,[],s,t,ne,1,u⟩:Cust)]).flatMap Enc.enc=cu.flatMap Enc.enc++[I 2,I 0,.lst 0 [],I s,I t,I ne,I 1,I u]:=by rw[Aq];rfl
    have p:(S.set idC (.cells (vC+1) 87 (cu.flatMap Enc.enc++[I 2,I 0,.lst 0 [],I s,I t,I ne,I 1,I u]))).set id (.cells ver 164 [L (wl ls),I pos,I d,I v,I c,I ln,.sl idC (vC+1) 8 0 (cu.length+1),ds,I m,B bad])=(S.set id (yq ver ls ⟨pos,d,v,c,ln,m,bad⟩ (.sl idC (vC+1) 8 0 (cu.length+1)) ds)).set idC (.cells (vC+1) 87 ((cu++[(⟨2,0,[],s,t,ne,1,u⟩:Cust)]).flatMap Enc.enc)):=by
     rw[a6,Store.set_comm _ idC id _ _ i]
    rw[p];refine DY ?_;refine zj ⟨_,_,by simp;rfl,by rw[g];exact⟨by simp[zr],by rw[Aq];rfl⟩,yb ?_⟩;exact qX (qX y k _) j _
   ·have e1:=a0 hf;refine ze (zi [] e1 ?_);refine zp DP ?_
    by_cases hy:n=vN
    ·have e2:=a8 hy;refine ze (zi [] e2 ?_);refine zo DP ?_;refine zg ?_;have g:o=some ⟨2,0,[],s,t,ne,2,u⟩:=by rw[ho,if_pos ⟨rfl,.inr hy⟩];unfold YM;rw[if_neg hf]
     have a3:∀obs,ext S nx obs id=yq ver ls ⟨pos,d,v,c,ln,m,bad⟩ (.sl idC vC 8 0 cu.length) ds:=λobs=>(zJ k).trans hS
     have a4:∀obs,ext S nx obs idC=.cells vC 87 (cu.flatMap Enc.enc):=λobs=>(zJ j).trans hC
     have a5:∀A obs,ext (S.set idC A) nx obs id=yq ver ls ⟨pos,d,v,c,ln,m,bad⟩ (.sl idC vC 8 0 cu.length) ds:=λA obs=>by rw[zJ k,q10 _ _ _ _ i,hS]
     refine ze (zD (some [nx]) (Row.pures [0,1,2,3,4,6,7] (.alt 5 (.alt 8 (Row.pures [9,10,11] (.alt 12 (.done) .stop)) .stop) .stop)) mixed (yr a3 a4 a5 g1 g2) ?_);refine⟨by omega,?_⟩;have a6:(cu++[(⟨2,0,[],s,t,ne,2,u⟩:Cust)]).flatMap Enc.enc=cu.flatMap Enc.enc++[I 2,I 0,.lst 0 [],I s,I t,I ne,I 2,I u]:=by rw[Aq];rfl
     have p:(S.set idC (.cells (vC+1) 87 (cu.flatMap Enc.enc++[I 2,I 0,.lst 0 [],I s,I t,I ne,I 2,I u]))).set id (.cells ver 164 [L (wl ls),I pos,I d,I v,I c,I ln,.sl idC (vC+1) 8 0 (cu.length+1),ds,I m,B bad])=(S.set id (yq ver ls ⟨pos,d,v,c,ln,m,bad⟩ (.sl idC (vC+1) 8 0 (cu.length+1)) ds)).set idC (.cells (vC+1) 87 ((cu++[(⟨2,0,[],s,t,ne,2,u⟩:Cust)]).flatMap Enc.enc)):=by
      rw[a6,Store.set_comm _ idC id _ _ i]
     rw[p];refine DY ?_;refine zj ⟨_,_,by simp;rfl,by rw[g];exact⟨by simp[zr],by rw[Aq];rfl⟩,yb ?_⟩;exact qX (qX y k _) j _
    ·have e2:=a2 hy;have g:o=none:=by rw[ho,if_neg];rintro⟨_,q | q⟩;exact hf q;exact hy q
     refine ze (zi [] e2 ?_);refine zp DP ?_;refine DY ?_;refine zj ⟨_,_,by simp;rfl,by rw[g];exact⟨by simp[zr],rfl⟩,yb y⟩
 ·rw[Zjj h5];refine yt func143 ntmps143 results143 λnx y=>?_
  refine DY ?_;have c7:¬(l.length:Int)=5:=DO
  repeat apply ze
  refine zi [] c7 ?_;refine zo DP ?_;refine DY ?_;refine zj ⟨_,_,by simp;rfl,⟨by simp[zr],rfl⟩,yb y⟩
open Go Go.Proofs
abbrev Zjk:Cust:=⟨0,0,[],0,0,0,0,0⟩
def YP(n:Int)(ps:Ln):Bool:=ps.all λw=>decide (w.length<=64/\(w.length:Int)=n)
def uO(n:Int)(l:Ln):Bool:=match l with
 | w :: _ :: ps=>if w=qA then YP n ps else true
 | _=>true
def Yc(n:Int)(l:Ln):PV:=match qp n l with
 | none=>.tup [.agg (yi Zjk),B false,B false]
 | some (c,_)=>.tup [.agg (yi c),B true,B (uO n l)]
theorem ZtW(w:Wd):yI [w]=(y8 w).map (λn:Nat=>[(n:Int)]):=by
 unfold yI yo;cases h:y8 w<;>simp[h]
theorem ZtX{n:Int}{ps:Ln}{k:Nat}{w:Wd}(h:ps[k]?=some w):YP n (ps.take (k+1))=(YP n (ps.take k) && decide (w.length<=64/\(w.length:Int)=n)):=by
 unfold YP;rw[AC,h];simp
theorem ZtY{w:Wd}(h:(qM w).2=2):ju w=false:=by
 unfold qM at h;cases hs:ju w with
 | false=>rfl
 | true=>rw[if_pos hs]at h;split at h<;>simp at h
theorem ZtZ{w:Wd}(h:¬(qM w).2=2):ju w=true/\(qM w).1=qu w/\((qM w).2=0<->w.length<=64):=by
 unfold qM at h ⊢;unfold qu;cases hs:ju w with
 | false=>rw[hs]at h;exact absurd rfl h
 | true =>
  simp only[if_true];split<;>simp<;>omega
theorem Zt0(dw:Wd)(ps:Ln)(n:Int)(v:dw.length<=1048576)(hl:ps.length<=1048576)(hp:∀w∈ps,w.length<=1048576):Pure prog 75 [L ((qA :: dw :: ps).map bs),I n] (Yc n (qA :: dw :: ps)):=by
 have a:=Vs [dw] DP (by intro w hw;simp at hw;subst hw;omega);rw[ZtW]at a;have hv:yC .eql (bs qA) ⟨#[118,105,115,105,116]⟩=some (.bool true):=Wm _;have x:qp n (qA :: dw :: ps)=Z7 n (dw :: ps):=by simp[qp]
 have y:uO n (qA :: dw :: ps)=YP n ps:=by simp[uO]
 unfold Yc;rw[x,Vo,y];clear x y;have z:L ([dw].map bs)=.lst 1 [T (bs dw)]:=rfl;rw[z]at a;have f:(0:Int)<(ps.length:Int)+1+1:=DO
 have g:(2:Int)<=(ps.length:Int)+1+1:=DO
 cases hz:y8 dw with
 | none =>
  rw[hz]at a;simp only[Option.map_none,jH,CI,AT,false_and,if_false]at a ⊢;refine zx func75 ntmps75 results75 λS nx v=>?_
  repeat apply ze
  refine zg ?_;intro v0
  repeat apply ze
  refine zi [(4,23)] (zF hv f g) ?_;intros
  repeat apply ze
  refine zo DP ?_
  repeat apply ze
  refine zi [] (zq f g) ?_;refine zv a ?_;intros
  (repeat apply ze);refine zg ?_;intros
  repeat apply ze
  refine zo DP ?_
  (repeat apply ze);refine zg ?_;intros
  refine yn 0 2 rfl rfl ?_
  repeat apply ze
  exact DZ v
 | some dn =>
  have a5:yo dw=dn:=by unfold yo;rw[hz];rfl
  rw[hz]at a;simp only[A4,jH]at a;have a6:L [(dn:Int)]=.lst 1 [I dn]:=rfl;rw[a6]at a;obtain⟨o,ho⟩:∃o,o=(if (some dn).isSome=true/\(ps.all ju)=true then some (Zk dw ps,ps.all λw=>decide ((w.length:Int)=n)) else none):=⟨_,rfl⟩;rw[<-ho];obtain⟨ws,i⟩:∃ws,ws=(qA :: dw :: ps).map bs:=⟨_,rfl⟩;have a7:ws.length=ps.length+2:=by rw[i];simp
  have z:L ((qA :: dw :: ps).map bs)=L ws:=by rw[i]
  have a8:∀k (p:Wd),ps[k]?=some p->ws[k+2]?=some (bs p):=λk p h=>by rw[i];simp[h]
  refine zx func75 ntmps75 results75 λS nx v=>?_
  repeat apply ze
  refine zg ?_;intro v0
  repeat apply ze
  refine zi [(4,23)] (zF hv f g) ?_;intros
  repeat apply ze
  refine zo DP ?_
  repeat apply ze
  refine zi [] (zq f g) ?_;refine zv a ?_;intros
  (repeat apply ze);refine zg ?_;intros
  repeat apply ze
  refine zp DP ?_;refine zk ?_
  repeat apply ze
  refine zg ?_;intro v1;refine jd 1 2 98 1 rfl rfl λw0=>?_
  (repeat apply ze);refine zg ?_;intros
  (repeat apply ze);refine zg ?_;intros
  repeat apply ze
  refine zn (zK (λs:Nat × Nat=>s.1<=ps.length/\(ps.take s.1).all ju=true) (λ(k,w)=>[(0,L ws),(1,I n),(4,.ptr nx v0 0),(9,.ptr (nx+1) v1 0),(10,B (YP n (ps.take k))),(11,I ((k+2:Nat):Int))]) (λ(k,w)=>[.cells v0 87 [I 0,I 0,yU,I 0,I 0,I 0,I 0,I 0],.cells v1 87 [I 1,I dn,.sl (nx+2) w 1 0 k,I 0,I 0,I 0,I 0,I 0],.cells w 98 (((ps.map qu).take k).flatMap Enc.enc)]) (λs=>ps.length-s.1) (0,w0) [] DP (by simp[i,YP]) (by simp[qa]) ?_);rintro⟨k,w⟩ ⟨hk,c⟩;simp only at hk c ⊢
  repeat apply ze
  refine zi [] a7 ?_;intros
  repeat apply ze
  refine zA rfl (λhc=>?_) (λhc=>?_)
  ·simp at hc;have a0:k<ps.length:=DO
   obtain⟨p,d⟩:∃p,ps[k]?=some p:=⟨_,Ac a0⟩;have a1:=Ab d;obtain⟨t,tl,b1,b2,b3,f0⟩:=zN rfl ws (k+2) DO;obtain rfl:t=bs p:=by rw[a8 k p d]at b1;exact(Option.some.inj b1).symm
   have j:=Zty p (hp p a1);have a2:=xU p;have l:(k:Int)+2<ws.length:=DO
   have m:(0:Int)<=(k:Int)+2:=DO
   have q:((k:Int)+2).toNat=k+2:=DO
   have b:k+2<ws.length:=DO
   refine zk (ze (zn ?_))
   by_cases he:(qM p).2=2
   ·have a3:=ZtY he;have r:o=none:=by
     rw[ho,if_neg];rintro⟨-,h⟩;have:=Aw.1 h p a1;rw[a3]at this;cases this
    rw[he]at j
    repeat apply ze
    refine zi [] (yr f0 l b q m) ?_;refine zv j ?_;intros
    (repeat apply ze);refine zg ?_;intros
    repeat apply ze
    refine zo DP ?_
    (repeat apply ze);refine zg ?_;intros
    refine yn 0 2 rfl rfl ?_
    repeat apply ze
    exact zj (zm v DQ (by rw[r];rfl))
   ·obtain⟨q1,q2,q3⟩:=ZtZ he;rw[q2]at j;have a9:=ZtX (n:=n) d;have b7:(((ps.map qu).take k).flatMap Enc.enc:List PV).length=k:=by rw[js];simp[Enc.sz];omega
    have b8:List.take k (((ps.map qu).take k).flatMap Enc.enc:List PV)=((ps.map qu).take k).flatMap Enc.enc:=Af (by rw[b7];exact Ag _);have c6:(((ps.map qu).take (k+1)).flatMap Enc.enc:List PV)=((ps.map qu).take k).flatMap Enc.enc++[U (qu p)]:=by rw[AC,Aj,d,Aq];rfl
    have c7:IntKind.i64.wrap ((k:Int)+2+1)=(k:Int)+1+2:=by rw[AA];omega
    have a4:(ps.take (k+1)).all ju=true:=by rw[AC,d];simp at c ⊢;exact⟨c,q1⟩
    have d0:¬(2:Int)=(qM p).2:=λe=>he e.symm
    generalize ((ps.map qu).take k).flatMap Enc.enc=pc at *;generalize qu p=sw at *;generalize (qM p).2=ee at *
    repeat apply ze
    refine zi [] (yr f0 l b q m) ?_;refine zv j ?_;intros
    (repeat apply ze);refine zg ?_;intros
    repeat apply ze
    refine zp (by simp[he]) ?_;refine zk (ze (qy (nx:=nx) (σ:=Bool) (λt=>t=YP n (ps.take (k+1))) (λt=>[(0,L ws),(1,I n),(4,.ptr nx v0 0),(9,.ptr (nx+1) v1 0),(10,B t),(11,I ((k+2:Nat):Int)),(12,U sw)]) (λ_=>S) (λ_=>[.cells v0 87 [I 0,I 0,yU,I 0,I 0,I 0,I 0,I 0],.cells v1 87 [I 1,I dn,.sl (nx+2) w 1 0 k,I 0,I 0,I 0,I 0,I 0],.cells w 98 pc]) ?_ ?_))
    ·rw[a9];cases hb:YP n (ps.take k) with
     | false =>
      repeat apply ze
      refine zi [(1,59),(5,63)] zB ?_;intros;exact zZ false [] rfl DP rfl DP
     | true =>
      by_cases h0:ee=0
      ·have u:=q3.1 h0
       by_cases hn:(p.length:Int)=n
       ·repeat apply ze
        refine zi [(1,59),(5,63)] (zW f0 l b q m (zF h0 a2 hn)) ?_;intros;exact zZ true [] (by simp[u,hn]) DP rfl DP
       ·repeat apply ze
        refine zi [(1,59),(5,63)] (zW f0 l b q m (zF h0 a2 hn)) ?_;intros;exact zZ false [] (by simp[hn]) DP rfl DP
      ·have u:¬p.length<=64:=λh=>h0 (q3.2 h)
       repeat apply ze
       refine zi [(1,59),(5,63)] (zq h0 zB) ?_;intros;exact zZ false [] (by simp[u]) DP rfl DP
    ·rintro t rfl
     repeat apply ze
     refine zi [] b8 ?_;refine⟨by omega,?_⟩;intros
     (repeat apply ze);refine zg ?_;intros
     exact zu (k+1,w+1) [] ⟨a0,a4⟩ DO (by simp[c7]) rfl (by simp only[c6,AH])
  ·simp at hc;obtain rfl:k=ps.length:=DO
   rw[Ai]at c;rw[Ai];have r:o=some (Zk dw ps,ps.all λw=>decide ((w.length:Int)=n)):=by rw[ho,if_pos ⟨rfl,c⟩]
   refine zC ?_;have c8:(ps.map qu).take ps.length=ps.map qu:=Af DP;rw[c8];refine yh 2 DU ?_
   (repeat apply ze);refine zg ?_;intros
   repeat apply ze
   exact zj (zm v DQ (by rw[r];simp[Zk,a5]))
theorem Zbo{n:Int}{l:Ln}(h:qp n l=none):Yc n l=.tup [.agg (yi Zjk),B false,B false]:=by unfold Yc;rw[h]
theorem vR{w v:Wd}(h:w≠v):yC .eql (bs w) (bs v)=some (.bool false)/\yC .neq (bs w) (bs v)=some (.bool true):=⟨Za9 λe=>h (Ji.1 e),Zbl λe=>h (Ji.1 e)⟩
theorem Zt1(a b c r h:Wd)(n:Int)(ha:∀w∈[a,b,c,h],w.length<=1048576):Pure prog 75 [L ((jS :: [a,b,c,r,h]).map bs),I n] (Yc n (jS :: [a,b,c,r,h])):=by
 have hv:yC .eql (bs jS) ⟨#[118,105,115,105,116]⟩=some (.bool false):=(vR (v:=qA) DV).1;have t:yC .neq (bs jS) ⟨#[116,97,110,107]⟩=some (.bool false):=vQ _;have f:=Vs [a,b,c] DP (λw u=>by have:=ha w (by simp at u ⊢;rcases u with q | q | q<;>simp[q]);omega);have i:=Vs [h] DP (λw u=>by have:=ha w (by simp at u ⊢;simp[u]);omega);have a0:L ([a,b,c].map bs)=.lst 3 [T (bs a),T (bs b),T (bs c)]:=rfl;have a1:L ([h].map bs)=.lst 1 [T (bs h)]:=rfl;have a2:L ((jS :: [a,b,c,r,h]).map bs)=.lst 6 [T (bs jS),T (bs a),T (bs b),T (bs c),T (bs r),T (bs h)]:=rfl;rw[a0]at f;rw[a1]at i;rw[a2];have j:qp n (jS :: [a,b,c,r,h])=(uN [a,b,c,r,h]).map (·,true):=rfl;rw[Zbk]at j
 by_cases l:r=wE\/r=vN
 ·have x:(yC .neq (bs r) ⟨#[102,105,108,108]⟩=some (.bool false))\/(yC .neq (bs r) ⟨#[102,105,108,108]⟩=some (.bool true)/\yC .neq (bs r) ⟨#[97,110,121]⟩=some (.bool false)):=by
   by_cases q:r=wE
   ·exact .inl (by rw[q];exact vQ _)
   ·rcases l with o | o
    ·exact absurd o q
    ·exact .inr ⟨(vR (v:=wE) q).2,by rw[o];exact vQ _⟩
  have y:∃p q,jH (yI [a,b,c])=.tup [p,B q]:=by cases yI [a,b,c]<;>exact⟨_,_,rfl⟩
  have z:∃p q,jH (yI [h])=.tup [p,B q]:=by cases yI [h]<;>exact⟨_,_,rfl⟩
  by_cases d:(yI [a,b,c,h]).isSome=true
  ·have h4:[a,b,c,h].all (λw=>(y8 w).isSome)=true:=by
    unfold yI at d;split at d
    ·assumption
    ·cases d
   simp only[Cp,DB,Ar,CE]at h4;have e1:yI [a,b,c]=some [yo a,yo b,yo c]:=by unfold yI;rw[if_pos (by simp[h4])];rfl
   have e2:yI [h]=some [yo h]:=by unfold yI;rw[if_pos (by simp[h4])];rfl
   rw[e1]at f;rw[e2]at i;simp only[jH]at f i;have hA:L [yo a,yo b,yo c]=.lst 3 [I (yo a),I (yo b),I (yo c)]:=rfl;have hH:L [yo h]=.lst 1 [I (yo h)]:=rfl;rw[hA]at f;rw[hH]at i;rw[if_pos ⟨d,l⟩]at j;have m:Yc n (jS :: [a,b,c,r,h])=.tup [.agg (yi ⟨2,0,[],yo a,yo b,yo c,YM r,yo h⟩),B true,B true]:=by unfold Yc;rw[j];rfl
   rw[m];have a3:(YM r=1/\yC .eql (bs r) ⟨#[97,110,121]⟩=some (.bool false))\/(YM r=2/\yC .eql (bs r) ⟨#[97,110,121]⟩=some (.bool true)):=by
    by_cases q:r=wE
    ·exact .inl ⟨if_pos q,by rw[q];exact(vR (v:=vN) DV).1⟩
    ·rcases l with o | o
     ·exact absurd o q
     ·exact .inr ⟨if_neg q,by rw[o];exact Wm _⟩
   generalize YM r=ru at *;generalize yo a=za at *;generalize yo b=zb at *;generalize yo c=zc at *;generalize yo h=zh at *;clear j m e1 e2 hA hH l ha y z d h4;refine zx func75 ntmps75 results75 λS nx s=>?_
   repeat apply ze
   refine zg ?_;intro v0
   repeat apply ze
   refine zi [(4,23)] (zq hv zB) ?_;intros
   repeat apply ze
   refine zp DP ?_;refine zk ?_;rcases x with k | ⟨k,f2⟩
   rotate_left
   repeat apply ze
   refine zi [(4,84),(9,89),(14,94)] (zS t k f2 zB) ?_;intros
   repeat apply ze
   refine zp DP ?_
   rotate_left
   repeat apply ze
   refine zi [(4,84),(9,89),(14,94)] (zF t k zB) ?_;intros
   repeat apply ze
   refine zp DP ?_
   all_goals
    refine zk ?_
    repeat apply ze
    refine zg ?_;refine zv f ?_;intros
    repeat apply ze
    refine zg ?_;refine zv i ?_;intros
    repeat apply ze
    refine zi [(2,116)] zB ?_;intros
    repeat apply ze
    refine zp DP ?_;refine zk ?_
    repeat apply ze
    refine zD (some []) (Row.pures [0,1,2,3,4,5,6,7,8,9,10,11,12] (.alt 13 (.alt 14 (.done) .stop) .stop)) mixed trivial ?_;intros;rcases a3 with ⟨rfl,g⟩ | ⟨rfl,g⟩
    ·repeat apply ze
     refine zi [] g ?_;intros
     repeat apply ze
     refine zp DP ?_;refine zk (yn 1 2 rfl rfl ?_)
     (repeat apply ze);refine zg ?_;intros
     repeat apply ze
     exact DZ s
    ·repeat apply ze
     refine zi [] g ?_;intros
     repeat apply ze
     refine zo DP ?_
     (repeat apply ze);refine zg ?_;intros
     refine yn 1 2 rfl rfl ?_
     (repeat apply ze);refine zg ?_;intros
     repeat apply ze
     exact DZ s
  ·have e:qp n (jS :: [a,b,c,r,h])=none:=by rw[j,if_neg (λq=>d q.1)];rfl
   rw[Zbo e];obtain⟨p1,b1,g1⟩:=y;obtain⟨p2,b2,g2⟩:=z;have hb:b1=false\/b2=false:=by
    by_cases h1:[a,b,c].all (λw=>(y8 w).isSome)=true
    ·right;have:yI [h]=none:=by
      unfold yI;rw[if_neg];intro h2;apply d;unfold yI;rw[if_pos (by simp at h1 h2 ⊢;exact⟨h1.1,h1.2.1,h1.2.2,h2⟩)];rfl
     rw[this]at g2;cases g2;rfl
    ·left;have:yI [a,b,c]=none:=by unfold yI;rw[if_neg h1]
     rw[this]at g1;cases g1;rfl
   rw[g1]at f;rw[g2]at i;clear j e l ha d;refine zx func75 ntmps75 results75 λS nx s=>?_
   repeat apply ze
   refine zg ?_;intro v0
   repeat apply ze
   refine zi [(4,23)] (zq hv zB) ?_;intros
   repeat apply ze
   refine zp DP ?_;refine zk ?_;rcases x with k | ⟨k,f2⟩
   rotate_left
   repeat apply ze
   refine zi [(4,84),(9,89),(14,94)] (zS t k f2 zB) ?_;intros
   repeat apply ze
   refine zp DP ?_
   rotate_left
   repeat apply ze
   refine zi [(4,84),(9,89),(14,94)] (zF t k zB) ?_;intros
   repeat apply ze
   refine zp DP ?_
   all_goals
    refine zk ?_
    repeat apply ze
    refine zg ?_;refine zv f ?_;intros
    repeat apply ze
    refine zg ?_;refine zv i ?_;intros;cases b1
    ·repeat apply ze
     refine zi [(2,116)] zB ?_;intros
     repeat apply ze
     refine zo DP ?_
     (repeat apply ze);refine zg ?_;intros
     refine yn 0 2 rfl rfl ?_
     repeat apply ze
     exact DZ s
    ·obtain rfl:b2=false:=by simpa using hb
     repeat apply ze
     refine zi [(2,116)] zB ?_;intros
     repeat apply ze
     refine zo DP ?_
     (repeat apply ze);refine zg ?_;intros
     refine yn 0 2 rfl rfl ?_
     repeat apply ze
     exact DZ s
 ·have e:qp n (jS :: [a,b,c,r,h])=none:=by rw[j,if_neg (λq=>l q.2)];rfl
  rw[Zbo e];have k:yC .neq (bs r) ⟨#[102,105,108,108]⟩=some (.bool true):=(vR (v:=wE) λq=>l (.inl q)).2;have f2:yC .neq (bs r) ⟨#[97,110,121]⟩=some (.bool true):=(vR (v:=vN) λq=>l (.inr q)).2;refine zx func75 ntmps75 results75 λS nx s=>?_
  repeat apply ze
  refine zg ?_;intro v0
  repeat apply ze
  refine zi [(4,23)] (zq hv zB) ?_;intros
  repeat apply ze
  refine zp DP ?_;refine zk ?_
  repeat apply ze
  refine zi [(4,84),(9,89),(14,94)] (zS t k f2 zB) ?_;intros
  repeat apply ze
  refine zo DP ?_
  (repeat apply ze);refine zg ?_;intros
  refine yn 0 2 rfl rfl ?_
  repeat apply ze
  exact DZ s
theorem Zjl(w:Wd)(ls:Ln)(n:Int)(hl:ls.length<=1048576)(h1:w=qA->ls=[])(h2:w=jS->ls.length≠5):Pure prog 75 [L ((w :: ls).map bs),I n] (Yc n (w :: ls)):=by
 have b:qp n (w :: ls)=none:=by
  show (if w=qA then Z7 n ls else if w=jS then (uN ls).map (·,true) else none)=none
  split
  ·rename_i h;rw[h1 h];rfl
  ·split
   ·rename_i h;have:uN ls=none:=by
     have e:=h2 h;unfold uN;split
     ·simp at e
     ·rfl
    rw[this];rfl
   ·rfl
 rw[Zbo b];have a:(0:Int)<(ls.length:Int)+1:=DO
 have f:yC .eql (bs qA) ⟨#[118,105,115,105,116]⟩=some (.bool true):=Wm _
 by_cases g:w=qA
 ·rw[h1 g,g];have c:yC .neq (bs qA) ⟨#[116,97,110,107]⟩=some (.bool true):=(vR (v:=jS) DV).2;refine zx func75 ntmps75 results75 λS nx d=>?_
  repeat apply ze
  refine zg ?_;intro v0
  repeat apply ze
  refine zi [(4,23)] f ?_;intros
  repeat apply ze
  refine zp DP ?_;refine zk ?_
  repeat apply ze
  refine zi [(4,84),(9,89),(14,94)] (zq c zB) ?_;intros
  repeat apply ze
  refine zo DP ?_
  (repeat apply ze);refine zg ?_;intros
  refine yn 0 2 rfl rfl ?_
  repeat apply ze
  exact DZ d
 have hv:yC .eql (bs w) ⟨#[118,105,115,105,116]⟩=some (.bool false):=(vR (v:=qA) g).1
 by_cases i:w=jS
 ·have e:=h2 i;have c:yC .neq (bs w) ⟨#[116,97,110,107]⟩=some (.bool false):=by rw[i];exact vQ _
  have k:¬(ls.length:Int)+1=6:=DO
  have l:¬(6:Int)=(ls.length:Int)+1:=DO
  have j:¬ls.length=5:=e;refine zx func75 ntmps75 results75 λS nx d=>?_
  repeat apply ze
  refine zg ?_;intro v0
  repeat apply ze
  refine zi [(4,23)] (zF hv a zB) ?_;intros
  repeat apply ze
  refine zp DP ?_;refine zk ?_
  repeat apply ze
  refine zi [(4,84),(9,89),(14,94)] (yr c a k j zB) ?_;intros
  repeat apply ze
  refine zo DP ?_
  (repeat apply ze);refine zg ?_;intros
  refine yn 0 2 rfl rfl ?_
  repeat apply ze
  exact DZ d
 ·have c:yC .neq (bs w) ⟨#[116,97,110,107]⟩=some (.bool true):=(vR (v:=jS) i).2;refine zx func75 ntmps75 results75 λS nx d=>?_
  repeat apply ze
  refine zg ?_;intro v0
  repeat apply ze
  refine zi [(4,23)] (zF hv a zB) ?_;intros
  repeat apply ze
  refine zp DP ?_;refine zk ?_
  repeat apply ze
  refine zi [(4,84),(9,89),(14,94)] (zF c a zB) ?_;intros
  repeat apply ze
  refine zo DP ?_
  (repeat apply ze);refine zg ?_;intros
  refine yn 0 2 rfl rfl ?_
  repeat apply ze
  exact DZ d
theorem Zt2(l:Ln)(n:Int)(h0:l≠[])(hl:l.length<=1048576)(f:∀w∈l,w.length<=1048576):Pure prog 75 [L (l.map bs),I n] (Yc n l):=by
 match l,h0,hl,f with
 | w :: ls,_,hl,f =>
  have g:ls.length<=1048576:=by rw[Ae]at hl;omega
  by_cases h1:w=qA
  ·subst h1
   match ls,g,f with
   | [],_,_=>exact Zjl _ _ n DP (λ_=>rfl) (λh=>by cases h)
   | d :: ps,g,f=>exact Zt0 d ps n (f d DP) (by rw[Ae]at g;omega) (λw h=>f w (by simp[h]))
  ·by_cases h2:w=jS/\ls.length=5
   ·obtain⟨rfl,i⟩:=h2
    match ls,i,f with
    | [a,b,c,r,h],_,f=>exact Zt1 a b c r h n λw q=>f w (by simp at q ⊢;rcases q with q | q | q | q<;>simp[q])
   ·exact Zjl w ls n g (λe=>absurd e h1) λe j=>h2 ⟨e,j⟩
open Go Go.Proofs
def Qo(c:UInt8):Prop:=33<=c.toNat/\c.toNat<=126
instance (c:UInt8):Decidable (Qo c):=inferInstanceAs (Decidable (_/\_))
def vk:List Ln->Ln->Wd->List UInt8->Option (List Ln)
 | out,line,cur,[]=>if cur=[]/\line=[] then some out else none
 | out,line,cur,c :: t =>
  if c=32\/c=10 then
   if cur=[] then none else if c=10 then vk (out++[line++[cur]]) [] [] t else vk out (line++[cur]) [] t
  else if Qo c then vk out line (cur++[c]) t else none
theorem Zjm(out:List Ln)(a:Ln)(cur:Wd):vk out a cur []=if cur=[]/\a=[] then some out else none:=rfl
theorem Zbp(out:List Ln)(a:Ln)(cur:Wd)(c:UInt8)(t:List UInt8):vk out a cur (c :: t)=if c=32\/c=10 then (if cur=[] then none else if c=10 then vk (out++[a++[cur]]) [] [] t else vk out (a++[cur]) [] t) else if Qo c then vk out a (cur++[c]) t else none:=rfl
theorem Zjn{c:UInt8}{x:UInt8}:∀{l:List UInt8},x∈l->x≠c->∃w∈yT c l,x∈w
 | a :: l,h,hx=>by
  rw[ZdM];rcases Au.1 h with rfl | h
  ·rw[if_neg hx];cases yT c l with
   | nil=>exact⟨[x],by simp,by simp⟩
   | cons p q=>exact⟨x :: p,by simp,by simp⟩
  ·obtain⟨w,b,d⟩:=Zjn h hx;split
   ·exact⟨w,by simp[b],d⟩
   ·cases e:yT c l with
    | nil=>rw[e]at b;simp at b
    | cons p q =>
     rw[e]at b;rcases Au.1 b with rfl | b
     ·exact⟨a :: w,by simp,by simp[d]⟩
     ·exact⟨w,by simp[b],d⟩
theorem Zjo{c:UInt8}(h:Qo c):c≠32/\c≠10:=by
 constructor<;>(rintro rfl;exact absurd h DV)
theorem Zjp{w:Wd}(h0:w≠[])(h:∀c∈w,Qo c):um w=true:=(X7 w).2 ⟨h0,h⟩
theorem Zei(b:List UInt8):∀(a:List UInt8) (out:List Ln) (f:Ln) (cur:Wd),10 ∉ a->(∀c∈cur,Qo c)->vk out f cur (a++10 :: b)=if (yT 32 (cur++a)).all um=true then vk (out++[f++yT 32 (cur++a)]) [] [] b else none
 | [],out,f,cur,_,hc=>by
  have j:(32:UInt8) ∉ cur:=λh=>(Zjo (hc _ h)).1 rfl
  rw[AH,ZdO j,AQ,Zbp,if_pos (.inr rfl)];simp only[Cp,DB,CE]
  by_cases h0:cur=[]
  ·rw[if_pos h0,if_neg];rw[h0];decide
  ·rw[if_neg h0,if_pos trivial,if_pos (Zjp h0 hc)]
 | c :: a,out,f,cur,g,hc=>by
  rw[Au,not_or]at g;have j:(32:UInt8) ∉ cur:=λh=>(Zjo (hc _ h)).1 rfl
  have i:c≠10:=λe=>g.1 e.symm
  rw[List.cons_append,Zbp]
  by_cases h:c=32
  ·subst h;rw[if_pos (.inl rfl),if_neg i,ZdP a j]
   by_cases h0:cur=[]
   ·rw[if_pos h0,if_neg];rw[h0];simp[um]
   ·rw[if_neg h0,Zei b a out (f++[cur]) [] g.2 DP,AQ];rw[Cp,Zjp h0 hc,CJ,List.append_assoc,C5]
  ·rw[if_neg (by rintro(e | e);exact h e;exact i e)]
   by_cases m:Qo c
   ·rw[if_pos m,Zei b a out f (cur++[c]) g.2 (by intro d o;rw[AB,AU]at o;rcases o with q | rfl;exact hc d q;exact m)];rw[List.append_assoc,C5]
   ·rw[if_neg m,if_neg];intro k;obtain⟨w,p,n⟩:=Zjn (c:=32) (x:=c) (l:=cur++c :: a) DP h;have:=(X7 w).1 (Aw.1 k w p);exact m (this.2 c n)
theorem Zej:∀(a:List UInt8) (out:List Ln) (b:Ln) (cur:Wd),10 ∉ a->(a≠[]\/cur≠[]\/b≠[])->vk out b cur a=none
 | [],out,b,cur,_,h=>by
  rw[Zjm,if_neg];rintro⟨rfl,rfl⟩;simp at h
 | c :: a,out,b,cur,d,_=>by
  rw[Au,not_or]at d;have f:c≠10:=λe=>d.1 e.symm
  rw[Zbp]
  by_cases h:c=32
  ·rw[if_pos (.inl h),if_neg f];split
   ·rfl
   ·exact Zej a _ _ _ d.2 DP
  ·rw[if_neg (by rintro(e | e);exact h e;exact f e)];split
   ·exact Zej a _ _ _ d.2 DP
   ·rfl
theorem Zt3(n:Nat):∀(t:List UInt8) (out:List Ln),t.length<=n->vk out [] [] t=(jf t).map (out++·):=by
 induction n with
 | zero =>
  intro t out h;have:t=[]:=Av DO;subst this;rw[X8];simp[vk]
 | succ n c =>
  intro t out h
  by_cases h0:t=[]
  ·subst h0;rw[X8];simp[vk]
  cases hc:xV 10 t with
  | none =>
   rw[Zej t out [] [] (Za6 hc) (.inl h0)];unfold jf;rw[if_neg h0];split
   ·rfl
   ·rename_i h2;rw[hc]at h2;cases h2
  | some p =>
   obtain⟨a,b⟩:=p;obtain⟨d,e2⟩:=J3 hc;have e:=ZdL hc;have f:jf t=if (yT 32 a).all um=true then (jf b).map (yT 32 a :: ·) else none:=by
    conv=>lhs;unfold jf
    rw[if_neg h0];split
    ·rename_i h2;rw[hc]at h2;cases h2
    ·rename_i h2;rw[hc]at h2;cases h2;rfl
   rw[f]
   conv=>lhs;rw[d]
   rw[Zei b a out [] [] e2 DP,AQ,AQ];split
   ·rw[c b _ DO];cases jf b<;>simp
   ·rfl
def vn(t:List UInt8)(a b:Nat):List UInt8:=(t.take b).drop a
theorem Zbq(t:List UInt8)(a:Nat):vn t a a=[]:=by unfold vn;rw[List.drop_eq_nil_iff];simp;omega
theorem Zt4{t:List UInt8}{a b:Nat}{c:UInt8}(h:t[b]?=some c)(d:a<=b):vn t a (b+1)=vn t a b++[c]:=by
 unfold vn;rw[AC,h,B7]
 ·rfl
 ·rw[Ax];have:=(Ad.1 h).1;omega
theorem Zjq{t:List UInt8}{a b:Nat}(h:b<=t.length):(vn t a b).length=b-a:=by unfold vn;simp;omega
theorem Zt5(t:List UInt8)(hl:t.length<=1048576):Pure prog 40 [T (bs t)] (Jh (jf t)):=by
 have a6:vk [] [] [] t=jf t:=by
  rw[Zt3 t.length t [] (Ag _)];cases jf t<;>simp
 rw[<-a6];obtain⟨o,ho⟩:∃o,o=vk [] [] [] t:=⟨_,rfl⟩;rw[<-ho];clear a6;obtain⟨B,hB⟩:∃B,B=bs t:=⟨_,rfl⟩;have m:B.size=t.length:=by rw[hB,xU]
 have hg:∀k,B[k]?=t[k]?:=λk=>by rw[hB];exact Vf t k
 have d4:∀a b,B.extract a b=bs (vn t a b):=λa b=>by rw[hB];exact Wh t a b
 rw[<-hB];refine zx func40 ntmps40 results40 λS nx hd=>?_
 (repeat apply ze);refine zg ?_;intros
 (repeat apply ze);refine zg ?_;intros
 refine q9 4 81 1 rfl λw0=>?_
 (repeat apply ze);refine zg ?_;intros
 refine q9 5 9 1 rfl λv0=>?_
 (repeat apply ze);refine zg ?_;intros
 (repeat apply ze);refine zg ?_;intros
 repeat apply ze
 refine zn (zK (λs:Nat × Nat × Ln × List Ln × Nat × Nat=>(s.2.1<=s.1/\s.1<=t.length/\s.2.2.1.length<=s.1/\s.2.2.2.1.length<=s.1)/\o=vk s.2.2.2.1 s.2.2.1 (vn t s.2.1 s.1) (t.drop s.1)) (λ(i,fr,e,f,w,v)=>[(0,T B),(4,.sl nx w 1 0 f.length),(5,.sl (nx+1) v 1 0 e.length),(6,I fr),(7,I i)]) (λ(i,fr,e,f,w,v)=>[.cells w 81 ((wl f).flatMap Enc.enc),.cells v 9 ((e.map bs).flatMap Enc.enc)]) (λs=>t.length-s.1) (0,0,[],[],w0,v0) [] (by simp[ho,vn]) DP DP ?_);rintro⟨i,fr,e,f,w,v⟩ ⟨⟨h1,h2,h3,h4⟩,d⟩;simp only at h1 h2 h3 h4 d ⊢
 repeat apply ze
 refine zi [] m ?_;intros
 repeat apply ze
 refine zA rfl (λhc=>?_) (λhc=>?_)
 ·simp at hc;obtain⟨c,u⟩:∃c,t[i]?=some c:=⟨_,Ac hc⟩;have d5:=(hg i).trans u;have d6:t.drop i=c :: t.drop (i+1):=by rw[AJ hc];rw[Ac hc]at u;cases u;rfl
  rw[d6,Zbp]at d;have n:=zy i DO;have a7:=Zt4 u h1;refine zk (ze (zn ?_))
  repeat apply ze
  refine zi [] d5 ?_;intros
  by_cases j:c=32\/c=10
  ·rw[if_pos j]at d;have d7:(c.toNat:Int)=32\/(¬(c.toNat:Int)=32/\(c.toNat:Int)=10):=by
    rcases j with rfl | rfl
    ·exact .inl rfl
    ·exact .inr ⟨by decide,rfl⟩
   have a2:c.toNat=10<->c=10:=⟨λh=>UInt8.toNat_inj.1 h,λh=>by rw[h];rfl⟩;clear j;rcases d7 with d1 | ⟨d1,d2⟩
   rotate_left
   have x:¬c.toNat=32:=DO
   have a8:(c.toNat=10)=True:=eq_true DO;have z:=eq_true d2
   repeat apply ze
   refine zi [(2,20)] (zS d1 x z a8) ?_;intros
   repeat apply ze
   refine zp (by simp[a8,z]) ?_
   rotate_left
   have x:(c.toNat=32)=True:=eq_true DO;have a0:=eq_true d1
   repeat apply ze
   refine zi [(2,20)] (zF a0 x zB) ?_;intros
   repeat apply ze
   refine zp (by simp[x,a0]) ?_
   all_goals
    refine zk ?_
    by_cases a3:i=fr
    ·subst a3;rw[Zbq,if_pos rfl]at d
     (repeat apply ze);refine zg ?_;intros
     repeat apply ze
     refine zo DP ?_
     (repeat apply ze);refine zg ?_;intros
     repeat apply ze
     exact zj (zm hd DQ (by rw[d];rfl))
    ·have f2:fr<i:=DO
     have a1:¬(i:Int)=(fr:Int):=DO
     have a4:vn t fr i≠[]:=λh=>by have:=congrArg List.length h;rw[Zjq DO]at this;simp at this;omega
     rw[if_neg a4]at d;have a9:=d4 fr i;have d8:((e.map bs).flatMap Enc.enc:List PV).length=e.length:=by rw[js];simp[Enc.sz]
     have d9:List.take e.length ((e.map bs).flatMap Enc.enc:List PV)=(e.map bs).flatMap Enc.enc:=Af (by rw[d8];exact Ag _);have e0:((e++[vn t fr i]).map bs).flatMap Enc.enc=(e.map bs).flatMap Enc.enc++[T (bs (vn t fr i))]:=by rw[List.map_append,Aq];rfl
     have b7:(e++[vn t fr i]).length=e.length+1:=DP
     repeat apply ze
     refine zi [] (zq a3 a1) ?_;intros
     repeat apply ze
     refine zp (by simp[a3,a1]) ?_;refine zk ?_;have e1:fr<=i:=h1;have e2:i<=B.size:=by rw[m];exact h2
     repeat apply ze
     refine zi [] (zS e1 e2 a9 d9) ?_;refine⟨by omega,?_⟩;intros;have e3:(e++[vn t fr i]).length<=i+1:=by rw[b7];omega
     rw[<-e0,<-b7];generalize e++[vn t fr i]=l1 at *;have f3:IntKind.i64.wrap ((i:Int)+1)=((i+1:Nat):Int):=n
     repeat apply ze
     refine zi [] n ?_;intros
     by_cases l:c=10
     ·have p:((c.toNat:Int)=10)=True:=eq_true (by rw[l];rfl);have g:(c.toNat=10)=True:=eq_true (a2.2 l);rw[if_pos l]at d
      repeat apply ze
      refine zi [] (zq p g) ?_;intros
      repeat apply ze
      refine zo (by simp[p,g]) ?_;refine yh 1 rfl ?_;have e4:PV.lst l1.length ((l1.map bs).flatMap Enc.enc)=L (l1.map bs):=by unfold L;rw[List.length_map]
      have e5:((wl f).flatMap Enc.enc:List PV).length=f.length:=by rw[js];simp[Enc.sz]
      have e6:List.take f.length ((wl f).flatMap Enc.enc:List PV)=(wl f).flatMap Enc.enc:=Af (by rw[e5];exact Ag _);have e7:(wl (f++[l1])).flatMap Enc.enc=(wl f).flatMap Enc.enc++[L (l1.map bs)]:=by rw[wl,List.map_append,Aq];rfl
      have b8:(f++[l1]).length=f.length+1:=DP
      repeat apply ze
      refine zi [] (zq e4 e6) ?_;refine⟨by omega,?_⟩;intros;rw[<-e7,<-b8];have c6:(f++[l1]).length<=i+1:=by rw[b8];omega
      generalize f++[l1]=o1 at *
      (repeat apply ze);refine zg ?_;intros
      refine ZlF [_] [.dead] rfl ?_;refine q9 5 9 1 rfl λv1=>?_
      (repeat apply ze);refine zg ?_;intros
      exact zu (i+1,i+1,[],o1,w+1,v1) [] ⟨⟨Ag _,hc,Cj _,c6⟩,by rw[d,Zbq]⟩ DO (by simp[n]) rfl rfl
     ·have p:¬(c.toNat:Int)=10:=λh=>l (a2.1 DO)
      have g:¬c.toNat=10:=λh=>l (a2.1 h)
      rw[if_neg l]at d
      repeat apply ze
      refine zi [] (zq p g) ?_;intros
      repeat apply ze
      refine zp (by simp[p,g]) ?_;refine zk ?_
      (repeat apply ze);refine zg ?_;intros
      exact zu (i+1,i+1,l1,f,w,v+1) [] ⟨⟨Ag _,hc,e3,Co h4⟩,by rw[d,Zbq]⟩ DO (by simp[n]) rfl rfl
  ·rw[if_neg j]at d;have n1:¬(c.toNat:Int)=32:=λh=>j (.inl (UInt8.toNat_inj.1 (by show c.toNat=32;omega)))
   have n2:¬(c.toNat:Int)=10:=λh=>j (.inr (UInt8.toNat_inj.1 (by show c.toNat=10;omega)))
   have e8:¬c.toNat=32:=DO
   have e9:¬c.toNat=10:=DO
   repeat apply ze
   refine zi [(2,20)] (zS n1 e8 n2 e9) ?_;intros
   repeat apply ze
   refine zo (by simp[*]) ?_
   by_cases y:Qo c
   ·rw[if_pos y]at d;obtain⟨g1,g2⟩:=y;have r:¬(c.toNat:Int)<33:=DO
    have a5:¬126<(c.toNat:Int):=DO
    have c7:¬c.toNat<33:=DO
    have c8:¬126<c.toNat:=DO
    repeat apply ze
    refine zi [(2,26)] (zS r a5 c7 c8) ?_;intros
    repeat apply ze
    refine zp (by simp[*]) ?_;refine zk (zC ?_)
    (repeat apply ze);refine zg ?_;intros
    exact zu (i+1,fr,e,f,w,v) [] ⟨⟨Co h1,hc,Co h3,Co h4⟩,by rw[d,a7]⟩ DO (by simp[n]) rfl rfl
   ·rw[if_neg y]at d;have hb:c.toNat<33\/(¬c.toNat<33/\126<c.toNat):=by unfold Qo at y;omega
    rcases hb with g1 | ⟨g1,g2⟩
    ·have r:(c.toNat:Int)<33:=DO
     repeat apply ze
     refine zi [(2,26)] (zF g1 r zB) ?_;intros
     repeat apply ze
     refine zo (by simp[*]) ?_
     (repeat apply ze);refine zg ?_;intros
     repeat apply ze
     exact zj (zm hd DQ (by rw[d];rfl))
    ·have r:¬(c.toNat:Int)<33:=DO
     have a5:126<(c.toNat:Int):=DO
     repeat apply ze
     refine zi [(2,26)] (zS g1 r g2 a5) ?_;intros
     repeat apply ze
     refine zo (by simp[*]) ?_
     (repeat apply ze);refine zg ?_;intros
     repeat apply ze
     exact zj (zm hd DQ (by rw[d];rfl))
 ·simp at hc;obtain rfl:i=t.length:=DO
  rw[BN,Zjm]at d;refine zC ?_
  by_cases f0:fr<t.length
  ·have a4:vn t fr t.length≠[]:=λh=>by have:=congrArg List.length h;rw[Zjq DO]at this;simp at this;omega
   have d0:(fr:Int)<(t.length:Int):=DO
   rw[if_neg λq=>a4 q.1]at d
   repeat apply ze
   refine zi [(4,52)] (zS m f0 d0 zB) ?_;intros
   repeat apply ze
   refine zo DP ?_
   (repeat apply ze);refine zg ?_;intros
   repeat apply ze
   exact zj (zm hd DQ (by rw[d];rfl))
  ·obtain rfl:fr=t.length:=DO
   rw[Zbq]at d
   by_cases h0:e=[]
   ·subst h0;rw[if_pos ⟨rfl,rfl⟩]at d
    repeat apply ze
    refine zi [(4,52)] m ?_;intros
    repeat apply ze
    refine zp DP ?_;refine zk (yh 0 rfl ?_)
    (repeat apply ze);refine zg ?_;intros
    repeat apply ze
    exact zj (zm hd DQ (by rw[d];simp[Jh,L]))
   ·rw[if_neg λq=>h0 q.2]at d;have f1:0<e.length:=Bs.2 h0;have d3:(0:Int)<(e.length:Int):=DO
    repeat apply ze
    refine zi [(4,52)] (zF m f1 d3) ?_;intros
    repeat apply ze
    refine zo DP ?_
    (repeat apply ze);refine zg ?_;intros
    repeat apply ze
    exact zj (zm hd DQ (by rw[d];rfl))
open Go Go.Proofs
theorem Jj(ls:List Ln)(p k:Nat):yB ls p (k+1)=yB ls p k++[zP ls (p+k)]:=by simp[yB,AO]
theorem Zbr(ls:List Ln)(p k:Nat):(yB ls p k).length=k:=by simp[yB]
theorem Zbs{ls:List Ln}{p k n:Nat}{f:Ln->Bool}(a:k<n)(h:f (zP ls (p+k))=false):(yB ls p n).all f=false:=by
 rw[Bm];exact⟨zP ls (p+k),Al.2 ⟨k,AK.2 a,rfl⟩,by simp[h]⟩
theorem Zjr{a b:ByteArray}(h:a≠b):(a == b)=false:=by
 have e:(a == b)=(a.data == b.data):=by cases a;cases b;rfl
 rw[e,beq_eq_false_iff_ne];exact λc=>h (by cases a;cases b;cases c;rfl)
abbrev Wn(id ver:Nat):List (Value × PV):=[(.string ⟨#[118,105,115,105,116]⟩,.fn (.func 142) [.ptr id ver 0] []),(.string ⟨#[116,97,110,107]⟩,.fn (.func 143) [.ptr id ver 0] [])]
def yY(ls:List Ln)(d:Int)(p k:Nat):List Cust:=(yB ls p k).map λl=>(xe d l).1
def xy(ls:List Ln)(d:Int)(p k:Nat):Bool:=(yB ls p k).all λl=>(xe d l).2
theorem Zek(ls:List Ln)(d:Int)(p k:Nat):yY ls d p (k+1)=yY ls d p k++[(xe d (zP ls (p+k))).1]:=by simp[yY,Jj]
theorem Zjs(ls:List Ln)(d:Int)(p k:Nat):xy ls d p (k+1)=(xy ls d p k && (xe d (zP ls (p+k))).2):=by simp[xy,Jj]
theorem Zbt(ls:List Ln)(d:Int)(p k:Nat):(yY ls d p k).length=k:=by simp[yY,Zbr]
theorem Zt6{S:Store}{id ver idC vC:Nat}(ls:List Ln)(r:Rdr)(n:Nat)(ds:PV)(hS:S id=yq ver ls r (.sl idC vC 8 0 0) ds)(hC:S idC=.cells vC 87 [])(hl:LnsOk ls)(hm:r.m=n)(hp:r.pos<=ls.length)(hb:r.bad=false):
  Spec prog 105 [.ptr id ver 0] S (λq S'=>if (yB ls r.pos n).all (λl=>(qp r.d l).isSome)=true then
    q=B true/\r.pos+n<=ls.length/\S'=(S.set id (yq ver ls { r with pos:=r.pos+n,bad:=!(xy ls r.d r.pos n) } (.sl idC (vC+n) 8 0 n) ds)).set idC (.cells (vC+n) 87 ((yY ls r.d r.pos n).flatMap Enc.enc))
   else q=B false/\∃r' cs' oC,S'=(S.set id (yq ver ls r' cs' ds)).set idC oC):=by
 have d1:id≠idC:=by rintro rfl;rw[hS]at hC;simp at hC
 obtain⟨pos,d,v,c,ln,m,bad⟩:=r;simp only at hm hp hb ⊢;subst hm hb;obtain⟨o,ho⟩:∃o,o=(yB ls pos n).all (λl=>(qp d l).isSome):=⟨_,rfl⟩;rw[<-ho];obtain⟨St,y⟩:∃St:Nat->Store,∀k,St k=(S.set id (yq ver ls ⟨pos+k,d,v,c,ln,n,!(xy ls d pos k)⟩ (.sl idC (vC+k) 8 0 k) ds)).set idC (.cells (vC+k) 87 ((yY ls d pos k).flatMap Enc.enc)):=⟨_,λ_=>rfl⟩;have e5:St 0=S:=by
  rw[y];have e1:S.set id (yq ver ls ⟨pos+0,d,v,c,ln,n,!(xy ls d pos 0)⟩ (.sl idC (vC+0) 8 0 0) ds)=S:=YN S id _ hS;rw[e1];exact YN S idC _ hC
 refine yt func105 ntmps105 results105 λnx hd=>?_
 have f:id<nx:=jh hd hS DP;have g:idC<nx:=jh hd hC DP;have g1:¬nx<=id:=DO
 have g2:¬nx<=idC:=DO
 have xi:∀k,St k id=yq ver ls ⟨pos+k,d,v,c,ln,n,!(xy ls d pos k)⟩ (.sl idC (vC+k) 8 0 k) ds:=λk=>by rw[y,q10 _ _ _ _ d1,q11]
 have xc:∀k,St k idC=.cells (vC+k) 87 ((yY ls d pos k).flatMap Enc.enc):=λk=>by rw[y,q11]
 have e0:∀k,yd nx (St k):=λk=>by rw[y];exact qX (qX hd f _) g _
 have x1:∀obs,ext S nx obs id=yq ver ls ⟨pos,d,v,c,ln,n,false⟩ (.sl idC vC 8 0 0) ds:=λobs=>(zJ f).trans hS
 refine DY ?_;refine DY ?_;intro v0;refine λa=>Y3 (.inr rfl) underlying202 underlying9 rfl rfl rfl (by rw[uy];rfl) rfl ?_
 refine⟨_,_,yl _ (Ag _) DP,zR a ?_⟩;refine λa=>Y3 (.inr rfl) underlying202 underlying9 rfl rfl rfl (by rw[uy];simp;rfl) (by simp[jC,jq];rfl) ?_
 refine⟨_,_,yl _ (Ag _) DP,zR a ?_⟩
 repeat apply ze
 refine zi [] x1 ?_;have s:∀k r' cs',(St k).set id (yq ver ls r' cs' ds)=(S.set id (yq ver ls r' cs' ds)).set idC (.cells (vC+k) 87 ((yY ls d pos k).flatMap Enc.enc)):=λk r' cs'=>by
  rw[y,Store.set_comm _ idC id _ _ d1,Store.set_set]
 refine zn (jX (λk:Nat=>k<=n/\pos+k<=ls.length/\∀l∈yB ls pos k,(qp d l).isSome=true) (λk=>[(0,.ptr id ver 0),(3,.mp nx v0),(16,I n),(17,I k)]) St (λ_=>[.map v0 (Wn id ver)]) (λk=>n-k) (zZ 0 [] ⟨by simp,by simpa using hp,by simp[yB]⟩ DP e5 rfl) ?_);rintro k ⟨hk,e6,a5⟩;refine DY ?_;refine ze (zA rfl (λhc=>?_) (λhc=>?_))
 ·simp at hc;have d2:k<n:=DO
  have a0:=λS (h:S id=_)=>Vu (S:=S) (id:=id) (ver:=ver) ls ⟨pos+k,d,v,c,ln,n,!(xy ls d pos k)⟩ (.sl idC (vC+k) 8 0 k) ds h hl.1
  have d3:=hl.at (pos+k);refine zk (ze (zn ?_));obtain⟨S1,t⟩:∃S1,S1=(St k).set id (yq ver ls (qf ls ⟨pos+k,d,v,c,ln,n,!(xy ls d pos k)⟩) (.sl idC (vC+k) 8 0 k) ds):=⟨_,rfl⟩;have c7:yd nx S1:=by rw[t];exact qX (e0 k) f _
  have a2:qp d (zP ls (pos+k))=none->o=false:=λq=>by rw[ho];exact Zbs d2 (by rw[q];rfl)
  simp only at a0;refine ze (xL [] DU DU λK Gc Gh hK c8 d4 X a6 hX=>?_);simp -implicitDefEqProofs [a6,hX]
  try clear a6 hX X
  refine c8 _ _ _ _ _ _ _ λa=>((a0 _ ((zJ f).trans (xi k))).mono ?_).v
  rintro _ _ ⟨rfl,rfl⟩;refine⟨S1,_,by rw[qq _ f,<-t],?_⟩;clear c8 d4;clear Gc Gh;refine wK a (D:=[]) DU λGc Gh c8 d4 X a6 hX=>?_
  simp -implicitDefEqProofs [a6,hX];clear a6 hX X;refine hK _ _ _ ?_;clear hK c8 d4;clear K Gc Gh;clear a0 a;rcases e:zP ls (pos+k) with _ | ⟨w,l'⟩
  ·have a1:=a2 (by rw[e];rfl)
   repeat apply ze
   refine zg ?_;refine zo DP ?_;refine DY ?_;refine zj ⟨_,_,by simp;rfl,by rw[a1];simp only[AT,if_false];exact⟨by simp[zr],_,_,_,by rw[t];exact s k _ _⟩,yb c7⟩
  ·repeat apply ze
   refine zg ?_;refine zp DT ?_;refine zk ?_;have d5:ext S1 nx [.map v0 (Wn id ver)] nx=.map v0 (Wn id ver):=by rw[uy];rfl
   have d6:pos+k<ls.length:=by
    apply Dw;intro hh;unfold zP at e;rw[Aa,Ao hh]at e;cases e
   have e7:qf ls ⟨pos+k,d,v,c,ln,n,!(xy ls d pos k)⟩=⟨pos+k+1,d,v,c,ln,n,!(xy ls d pos k)⟩:=if_pos d6;rw[e7]at t;have a7:=Zbt ls d pos k;have e9:=hl.1;have a3:S1 id=yq ver ls ⟨pos+k+1,d,v,c,ln,n,!(xy ls d pos k)⟩ (.sl idC (vC+k) 8 0 (yY ls d pos k).length) ds:=by rw[t,q11,a7]
   have a4:S1 idC=.cells (vC+k) 87 ((yY ls d pos k).flatMap Enc.enc):=by rw[t,q10 _ _ _ _ (Ne.symm d1),xc]
   have e2:l'.length<=1048576/\∀u∈l',u.length<=1048576:=by
    rw[e]at d3;exact⟨by have:=d3.1;simp at this;omega,λu hu=>d3.2 u (by simp[hu])⟩
   have d0:List.take l'.length ((l'.map bs).flatMap Enc.enc)=(l'.map bs).flatMap Enc.enc:=Af (by rw[Za3,List.length_map];exact Ag _);have e3:L (l'.map bs)=.lst l'.length ((l'.map bs).flatMap Enc.enc):=by unfold L;rw[List.length_map]
   have a8:∀r' cs',S1.set id (yq ver ls r' cs' ds)=(S.set id (yq ver ls r' cs' ds)).set idC (.cells (vC+k) 87 ((yY ls d pos k).flatMap Enc.enc)):=λr' cs'=>by rw[t,Store.set_set,s]
   have a9:∀r' cs' oC,(S1.set id (yq ver ls r' cs' ds)).set idC oC=(S.set id (yq ver ls r' cs' ds)).set idC oC:=λr' cs' oC=>by rw[a8,Store.set_set]
   obtain⟨zf,d7⟩:∃z,Program.zeroOf prog 201=some z:=B4.1 DR;have q1:w≠qA->(bs w == ⟨#[118,105,115,105,116]⟩)=false:=λh=>Zjr λhh=>h (Ji.1 hh)
   have q2:w≠jS->(bs w == ⟨#[116,97,110,107]⟩)=false:=λh=>Zjr λhh=>h (Ji.1 hh)
   by_cases hv:w=qA
   ·have hf:jC .string (.string (bs w)) (Wn id ver) 0=some (some (0,.fn (.func 142) [.ptr id ver 0] [])):=by rw[hv];rfl
    refine DY ?_;refine λa=>ZP rfl underlying202 underlying9 rfl rfl rfl d5 hf d7 ?_
    refine⟨_,_,rfl,?_⟩;have b7:Yn true zf (some (0,.fn (.func 142) [.ptr id ver 0] []))=.tup [.fn (.func 142) [.ptr id ver 0] [],B true]:=rfl;refine xl [] b7 a ?_;have i:=λS (h1:S id=_) (h2:S idC=_)=>ZtU (S:=S) (id:=id) (ver:=ver) (idC:=idC) (vC:=vC+k) ls ⟨pos+k+1,d,v,c,ln,n,!(xy ls d pos k)⟩ (yY ls d pos k) ds l' h1 h2 (by rw[a7];omega) e2
    have x:qp d (zP ls (pos+k))=Z7 d l':=by rw[e];exact if_pos hv
    simp only[e3]at i;cases j:Z7 d l' with
    | none =>
     have a1:=a2 (by rw[x,j]);rw[j]at i;simp only at i;refine ze (zi [(2,34)] d0 ?_);refine λa=>((i _ ((zJ f).trans a3) ((zJ g).trans a4)).mono ?_).v
     rintro _ _ ⟨rfl,b,rfl⟩;refine⟨_,_,qq _ f,xl [(2,34)] trivial a ?_⟩;refine zo DP ?_;refine DY ?_;refine zj ⟨_,_,by simp;rfl,by rw[a1];simp only[AT,if_false];exact⟨by simp[zr],_,_,_,a8 _ _⟩,yb (qX c7 f _)⟩
    | some cc =>
     obtain⟨b8,e4⟩:=cc;rw[j]at i;simp only at i;refine ze (zi [(2,34)] d0 ?_);refine λa=>((i _ ((zJ f).trans a3) ((zJ g).trans a4)).mono ?_).v
     rintro _ _ ⟨rfl,rfl⟩;refine⟨_,_,by rw[qq _ f,qq _ g],xl [(2,34)] trivial a ?_⟩;refine zp DP ?_;refine zk (zg ?_);have d8:xe d (zP ls (pos+k))=(b8,e4):=by unfold xe;rw[x,j];rfl
     have d9:St (k+1)=(S1.set id (yq ver ls ⟨pos+k+1,d,v,c,ln,n,!(xy ls d pos k) || !e4⟩ (.sl idC (vC+k+1) 8 0 ((yY ls d pos k).length+1)) ds)).set idC (.cells (vC+k+1) 87 ((yY ls d pos k++[b8]).flatMap Enc.enc)):=by
      rw[a9,y,Zjs,Zek,d8,a7,Bool.not_and];rfl
     exact zu (k+1) [] ⟨d2,d6,λl c6=>by
      rw[Jj,AB]at c6;rcases c6 with q | q
      ·exact a5 l q
      ·obtain rfl:l=zP ls (pos+k):=by simpa using q
       rw[x,j];rfl⟩ DO (by simp[zy k (by omega)]) (d9.trans (by rw[Aq];rfl)) rfl
   ·by_cases hk:w=jS
    ·have hf:jC .string (.string (bs w)) (Wn id ver) 0=some (some (1,.fn (.func 143) [.ptr id ver 0] [])):=by rw[hk];rfl
     refine DY ?_;refine λa=>ZP rfl underlying202 underlying9 rfl rfl rfl d5 hf d7 ?_
     refine⟨_,_,rfl,?_⟩;have b7:Yn true zf (some (1,.fn (.func 143) [.ptr id ver 0] []))=.tup [.fn (.func 143) [.ptr id ver 0] [],B true]:=rfl;refine xl [] b7 a ?_;have p:=λS (h1:S id=_) (h2:S idC=_)=>ZtV (S:=S) (id:=id) (ver:=ver) (idC:=idC) (vC:=vC+k) ls ⟨pos+k+1,d,v,c,ln,n,!(xy ls d pos k)⟩ (yY ls d pos k) ds l' h1 h2 (by rw[a7];omega) e2
     have x:qp d (zP ls (pos+k))=(uN l').map (·,true):=by rw[e];exact(if_neg hv).trans (if_pos hk)
     simp only[e3]at p;cases j:uN l' with
     | none =>
      have a1:=a2 (by rw[x,j];rfl);rw[j]at p;simp only at p;refine ze (zi [(2,34)] d0 ?_);refine λa=>((p _ ((zJ f).trans a3) ((zJ g).trans a4)).mono ?_).v
      rintro _ _ ⟨rfl,rfl⟩;refine⟨_,_,rfl,xl [(2,34)] trivial a ?_⟩;refine zo DP ?_;refine DY ?_;refine zj ⟨_,_,by simp;rfl,by rw[a1];simp only[AT,if_false];exact⟨by simp[zr],_,_,_,by rw[t];exact s k _ _⟩,yb c7⟩
     | some b8 =>
      rw[j]at p;simp only at p;refine ze (zi [(2,34)] d0 ?_);refine λa=>((p _ ((zJ f).trans a3) ((zJ g).trans a4)).mono ?_).v
      rintro _ _ ⟨rfl,rfl⟩;refine⟨_,_,by rw[qq _ f,qq _ g],xl [(2,34)] trivial a ?_⟩;refine zp DP ?_;refine zk (zg ?_);have d8:xe d (zP ls (pos+k))=(b8,true):=by unfold xe;rw[x,j];rfl
      have d9:St (k+1)=(S1.set id (yq ver ls ⟨pos+k+1,d,v,c,ln,n,!(xy ls d pos k)⟩ (.sl idC (vC+k+1) 8 0 ((yY ls d pos k).length+1)) ds)).set idC (.cells (vC+k+1) 87 ((yY ls d pos k++[b8]).flatMap Enc.enc)):=by
       rw[a9,y,Zjs,Zek,d8,a7,CE];rfl
      exact zu (k+1) [] ⟨d2,d6,λl c6=>by
       rw[Jj,AB]at c6;rcases c6 with q | q
       ·exact a5 l q
       ·obtain rfl:l=zP ls (pos+k):=by simpa using q
        rw[x,j];rfl⟩ DO (by simp[zy k (by omega)]) (d9.trans (by rw[Aq];rfl)) rfl
    ·have hf:jC .string (.string (bs w)) (Wn id ver) 0=some none:=by
      simp[jC,Instr.sameNow,q1 hv,q2 hk]
     have x:qp d (zP ls (pos+k))=none:=by rw[e];exact(if_neg hv).trans (if_neg hk)
     have a1:=a2 x;refine DY ?_;refine λa=>ZP rfl underlying202 underlying9 rfl rfl rfl d5 hf d7 ?_
     refine⟨_,_,rfl,?_⟩;have b7:Yn true zf none=.tup [QF zf,B false]:=rfl;refine xl [] b7 a ?_;refine ze (zi [(2,34)] zB ?_);refine zo DP ?_;refine DY ?_;refine zj ⟨_,_,by simp;rfl,by rw[a1];simp only[AT,if_false];exact⟨by simp[zr],_,_,_,by rw[t];exact s k _ _⟩,yb c7⟩
 ·simp at hc;obtain rfl:k=n:=DO
  have e8:o=true:=by rw[ho,Aw];exact a5
  refine zC (DY ?_);refine zj ⟨_,_,by simp;rfl,by rw[e8];simp only[if_true];exact⟨by simp[zr],e6,y _⟩,yb (e0 _)⟩
def ji(ls:List Ln)(p k:Nat):List (List Int):=(yB ls p k).map λl=>l.map yo
theorem Zjt(ls:List Ln)(p k:Nat):ji ls p (k+1)=ji ls p k++[(zP ls (p+k)).map yo]:=by simp[ji,Jj]
theorem Zbu(ls:List Ln)(p k:Nat):(ji ls p k).length=k:=by simp[ji,Zbr]
theorem Zt7{S:Store}{id ver idD vD:Nat}(ls:List Ln)(r:Rdr)(n:Nat)(cs:PV)(hS:S id=yq ver ls r cs (.sl idD vD 1 0 0))(hD:S idD=.cells vD 26 [])(hl:LnsOk ls)(hm:r.m=n)(hn:n<=1048576)(hp:r.pos<=ls.length):
  Spec prog 106 [.ptr id ver 0] S (λq S'=>if zP ls r.pos=[qK]/\(yB ls (r.pos+1) (n+1)).all (jU (n+1))=true then
    q=B true/\r.pos+1+(n+1)<=ls.length/\S'=(S.set id (yq ver ls { r with pos:=r.pos+1+(n+1) } cs (.sl idD (vD+(n+1)) 1 0 (n+1)))).set idD (.cells (vD+(n+1)) 26 ((ji ls (r.pos+1) (n+1)).flatMap Enc.enc))
   else q=B false/\∃r' ds' oD,S'=(S.set id (yq ver ls r' cs ds')).set idD oD):=by
 have p:id≠idD:=by rintro rfl;rw[hS]at hD;simp at hD
 obtain⟨pos,d,v,c,j,m,bad⟩:=r;simp only at hm hp ⊢;subst hm;obtain⟨o,ho⟩:∃o:Bool,o=(decide (zP ls pos=[qK]) && (yB ls (pos+1) (n+1)).all (jU (n+1))):=⟨_,rfl⟩;have a7:(zP ls pos=[qK]/\(yB ls (pos+1) (n+1)).all (jU (n+1))=true)<->o=true:=by rw[ho,Ar,decide_eq_true_eq]
 simp only[a7];obtain⟨St,s⟩:∃St:Nat->Store,∀k,St k=(S.set id (yq ver ls ⟨pos+1+k,d,v,c,j,n,bad⟩ cs (.sl idD (vD+k) 1 0 k))).set idD (.cells (vD+k) 26 ((ji ls (pos+1) k).flatMap Enc.enc)):=⟨_,λ_=>rfl⟩;have x:=λS (h:S id=_)=>Vu (S:=S) (id:=id) (ver:=ver) ls ⟨pos,d,v,c,j,n,bad⟩ cs (.sl idD vD 1 0 0) h hl.1
 have d3:=Zjh (zP ls pos) [qK] (hl.at pos).1 DP;obtain⟨S1,t⟩:∃S1,S1=S.set id (yq ver ls (qf ls ⟨pos,d,v,c,j,n,bad⟩) cs (.sl idD vD 1 0 0)):=⟨_,rfl⟩;have a8:S1 idD=.cells vD 26 []:=by rw[t,q10 _ _ _ _ (Ne.symm p),hD]
 refine yt func106 ntmps106 results106 λnx hd=>?_
 have b:id<nx:=jh hd hS DP;have a2:idD<nx:=jh hd hD DP;have g1:¬nx<=id:=DO
 have g2:¬nx<=idD:=DO
 have d4:yd nx S1:=by rw[t];exact qX hd b _
 have a9:∀k,yd nx (St k):=λk=>by rw[s];exact qX (qX hd b _) a2 _
 simp only at x;refine DY ?_
 repeat apply ze
 refine zg ?_;refine λa=>((x _ ((zJ b).trans hS)).mono ?_).v
 rintro _ _ ⟨rfl,rfl⟩;refine⟨S1,[],by rw[qq _ b,<-t],zR a ?_⟩;refine λa=>((d3 _).mono ?_).v
 rintro _ _ ⟨rfl,rfl⟩;refine⟨_,_,rfl,zR a ?_⟩
 by_cases hw:zP ls pos=[qK]
 ·have d5:pos<ls.length:=by
   apply Dw;intro hh;unfold zP at hw;rw[Aa,Ao hh]at hw;cases hw
  have d6:qf ls ⟨pos,d,v,c,j,n,bad⟩=⟨pos+1,d,v,c,j,n,bad⟩:=if_pos d5;rw[d6]at t;have b7:St 0=S1:=by
   rw[s,t];refine YN _ idD _ ?_;rw[q10 _ _ _ _ (Ne.symm p),hD];rfl
  have x1:∀obs,ext S1 nx obs id=yq ver ls ⟨pos+1,d,v,c,j,n,bad⟩ cs (.sl idD vD 1 0 0):=λobs=>by rw[zJ b,t,q11]
  have xi:∀k,St k id=yq ver ls ⟨pos+1+k,d,v,c,j,n,bad⟩ cs (.sl idD (vD+k) 1 0 k):=λk=>by rw[s,q10 _ _ _ _ p,q11]
  have xd:∀k,St k idD=.cells (vD+k) 26 ((ji ls (pos+1) k).flatMap Enc.enc):=λk=>by rw[s,q11]
  have wn:IntKind.i64.wrap ((n:Int)+1)=(n:Int)+1:=by rw[AA];omega
  refine zp (by simp[hw]) ?_;refine zk ?_
  repeat apply ze
  refine zi [] (zq x1 wn) ?_;refine zn (jX (λk:Nat=>k<=n+1/\pos+1+k<=ls.length/\∀l∈yB ls (pos+1) k,jU (n+1) l=true) (λk=>[(0,.ptr id ver 0),(14,I ((n:Int)+1)),(15,I k)]) St (λ_=>[]) (λk=>n+1-k) (zZ 0 [] ⟨by simp,by omega,by simp[yB]⟩ DP b7 rfl) ?_);rintro k ⟨hk,d7,a3⟩;refine DY ?_
  by_cases b8:k<n+1
  ·have e5:(k:Int)<(n:Int)+1:=DO
   have i:=λS (h:S id=_)=>Vu (S:=S) (id:=id) (ver:=ver) ls ⟨pos+1+k,d,v,c,j,n,bad⟩ cs (.sl idD (vD+k) 1 0 k) h hl.1
   have c6:=hl.at (pos+1+k);have g:=Zeb (zP ls (pos+1+k)) c6.1 (λw hw=>by have:=c6.2 w hw;omega);obtain⟨S2,f⟩:∃S2,S2=(St k).set id (yq ver ls (qf ls ⟨pos+1+k,d,v,c,j,n,bad⟩) cs (.sl idD (vD+k) 1 0 k)):=⟨_,rfl⟩;have c7:yd nx S2:=by rw[f];exact qX (a9 k) b _
   have u:∀r' ds',(St k).set id (yq ver ls r' cs ds')=(S.set id (yq ver ls r' cs ds')).set idD (.cells (vD+k) 26 ((ji ls (pos+1) k).flatMap Enc.enc)):=λr' ds'=>by
    rw[s,Store.set_comm _ idD id _ _ p,Store.set_set]
   have a4:jU (n+1) (zP ls (pos+1+k))=false->o=false:=λq=>by rw[ho,Zbs b8 q,CA]
   simp only at i;refine ze (zo DT ?_);refine zk (ze (zn ?_));obtain⟨p2,a1⟩:∃p2,qf ls ⟨pos+1+k,d,v,c,j,n,bad⟩=⟨p2,d,v,c,j,n,bad⟩:=by
    unfold qf;split
    ·exact⟨_,rfl⟩
    ·exact⟨_,rfl⟩
   have d8:pos+1+k<ls.length->p2=pos+1+k+1:=λh=>by
    unfold qf at a1;rw[if_pos h]at a1;exact(congrArg Rdr.pos a1).symm
   rw[a1]at f i;have x2:∀obs,ext S2 nx obs id=yq ver ls ⟨p2,d,v,c,j,n,bad⟩ cs (.sl idD (vD+k) 1 0 k):=λobs=>by rw[zJ b,f,q11]
   cases hz:yI (zP ls (pos+1+k)) with
   | none =>
    have a0:=a4 (by unfold jU;rw[hz];rfl);rw[hz]at g;simp only[jH]at g;refine DY ?_;refine λa=>((i _ ((zJ b).trans (xi k))).mono ?_).v
    rintro _ _ ⟨rfl,rfl⟩;refine⟨S2,_,by rw[qq _ b,<-f],zR a ?_⟩;refine λa=>((g _).mono ?_).v
    rintro _ _ ⟨rfl,rfl⟩;refine⟨_,_,rfl,zR a ?_⟩
    repeat apply ze
    refine zi [(2,25)] zB ?_;refine zo DP ?_;refine DY ?_;refine zj ⟨_,_,by simp;rfl,by rw[a0];simp only[AT,if_false];exact⟨by simp[zr],_,_,_,by rw[f];exact u _ _⟩,yb c7⟩
   | some z =>
    have c8:=Zea hz;rw[hz]at g;simp only[jH]at g;refine DY ?_;refine λa=>((i _ ((zJ b).trans (xi k))).mono ?_).v
    rintro _ _ ⟨rfl,rfl⟩;refine⟨S2,_,by rw[qq _ b,<-f],zR a ?_⟩;refine λa=>((g _).mono ?_).v
    rintro _ _ ⟨rfl,rfl⟩;refine⟨_,_,rfl,zR a ?_⟩
    by_cases a5:z.length=n+1
    ·have a6:(z.length:Int)=(n:Int)+1:=DO
     repeat apply ze
     refine zi [(2,25)] (zF x2 wn a6) ?_;refine zp DP ?_;refine zk ?_;have y:(zP ls (pos+1+k)).length=n+1:=by rw[<-c8];exact a5
     have d0:pos+1+k<ls.length:=by
      apply Dw;intro hh;unfold zP at y;rw[Aa,Ao hh]at y;simp at y
     obtain rfl:=d8 d0;have d9:z=(zP ls (pos+1+k)).map yo:=by
      unfold yI at hz;split at hz<;>cases hz;rfl
     have e0:=Zbu ls (pos+1) k;have d1:((ji ls (pos+1) k).flatMap Enc.enc).length=k:=by rw[xD,e0]
     have e1:List.take k ((ji ls (pos+1) k).flatMap Enc.enc)=(ji ls (pos+1) k).flatMap Enc.enc:=Af (by rw[d1];exact Ag _);have e2:∀obs,ext S2 nx obs idD=.cells (vD+k) 26 ((ji ls (pos+1) k).flatMap Enc.enc):=λobs=>by rw[zJ a2,f,q10 _ _ _ _ (Ne.symm p),xd]
     have x3:∀A obs,ext (S2.set idD A) nx obs id=yq ver ls ⟨pos+1+k+1,d,v,c,j,n,bad⟩ cs (.sl idD (vD+k) 1 0 k):=λA obs=>by rw[zJ b,q10 _ _ _ _ p,f,q11]
     have e6:k<=1048576:=DO
     clear d1;refine zi [] (zW x2 e2 x3 g1 g2 e1) ?_;refine⟨by omega,?_⟩;have e3:St (k+1)=(S2.set idD (.cells (vD+k+1) 26 ((ji ls (pos+1) k).flatMap Enc.enc++[L z]))).set id (.cells ver 164 [L (wl ls),I ((pos:Int)+1+k+1),I d,I v,I c,I j,cs,.sl idD (vD+k+1) 1 0 (k+1),I n,B bad]):=by
      have e:(.cells ver 164 [L (wl ls),I ((pos:Int)+1+k+1),I d,I v,I c,I j,cs,.sl idD (vD+k+1) 1 0 (k+1),I n,B bad]:Ob)=yq ver ls ⟨pos+1+k+1,d,v,c,j,n,bad⟩ cs (.sl idD (vD+k+1) 1 0 (k+1)):=rfl;rw[e,f,Store.set_comm _ idD id _ _ p,Store.set_set,u,Store.set_set,s,Zjt,Aq,<-d9];rfl
     rw[<-e3];refine zg ?_;exact zu (k+1) [] ⟨b8,d0,λl d2=>by
      rw[Jj,AB]at d2;rcases d2 with q | q
      ·exact a3 l q
      ·obtain rfl:l=zP ls (pos+1+k):=by simpa using q
       unfold jU;rw[hz,decide_eq_true y];rfl⟩ DO (by simp[zy k (by omega)]) rfl rfl
    ·have a6:¬(z.length:Int)=(n:Int)+1:=DO
     have a0:=a4 (by unfold jU;rw[hz,<-c8,decide_eq_false a5];rfl)
     repeat apply ze
     refine zi [(2,25)] (zF x2 wn a6) ?_;refine zo DP ?_;refine DY ?_;refine zj ⟨_,_,by simp;rfl,by rw[a0];simp only[AT,if_false];exact⟨by simp[zr],_,_,_,by rw[f];exact u _ _⟩,yb c7⟩
  ·obtain rfl:k=n+1:=DO
   have e4:o=true:=by rw[ho,decide_eq_true hw,Aw.2 a3];rfl
   refine ze (zp DP ?_);refine zC (DY ?_);refine zj ⟨_,_,by simp;rfl,by rw[e4];simp only[if_true];exact⟨by simp[zr],d7,s _⟩,yb (a9 _)⟩
 ·have a0:o=false:=by rw[ho,decide_eq_false hw,Cu]
  refine zo (by simp[hw]) ?_;refine DY ?_;refine zj ⟨_,_,by simp;rfl,by rw[a0];simp only[AT,if_false];exact⟨by simp[zr],_,_,_,(by rw[<-t];exact(YN S1 idD _ a8).symm)⟩,yb d4⟩
open Go Go.Proofs
abbrev RdX:=Rdr × List Cust × List (List Int)
def r0:Rdr:=⟨0,0,0,0,0,0,false⟩
def vp(ls:List Ln)(k:Nat)(x:RdX):Option RdX:=match k with
 | 0=>if zP ls x.1.pos=[jG,[49]] then some (qf ls x.1,x.2) else none
 | 1=>match qn (zP ls x.1.pos) [qE,qG,qH,qI] with
  | some [d,v,c,l]=>some ({ qf ls x.1 with d:=d,v:=v,c:=c,l:=l },x.2)
  | _=>none
 | 2=>match qn (zP ls x.1.pos) [qJ] with
  | some [m]=>some ({ qf ls x.1 with m:=m },x.2)
  | _=>none
 | 3=>if (yB ls x.1.pos x.1.m.toNat).all (λl=>(qp x.1.d l).isSome)=true then some ({ x.1 with pos:=x.1.pos+x.1.m.toNat,bad:=!(xy ls x.1.d x.1.pos x.1.m.toNat) },yY ls x.1.d x.1.pos x.1.m.toNat,x.2.2) else none
 | 4=>if zP ls x.1.pos=[qK]/\(yB ls (x.1.pos+1) (x.1.m.toNat+1)).all (jU (x.1.m.toNat+1))=true then some ({ x.1 with pos:=x.1.pos+1+(x.1.m.toNat+1) },x.2.1,ji ls (x.1.pos+1) (x.1.m.toNat+1)) else none
 | 5=>if x.1.pos=ls.length then some x else none
 | _=>some x
def yP(ls:List Ln):Nat->Option RdX
 | 0=>some (r0,[],[])
 | k+1=>(yP ls k).bind (vp ls k)
theorem Wo{ls:List Ln}{r:Rdr}(h:zP ls r.pos≠[]):qf ls r={ r with pos:=r.pos+1 }/\r.pos+1<=ls.length:=by
 by_cases a:r.pos<ls.length
 ·exact⟨if_pos a,a⟩
 simp_all[zP]
theorem Zbw{l:Ln}{a:Ln}{z:List Int}(h:qn l a=some z)(hn:a≠[]):l≠[]:=by grind[qn,vg]
theorem Zel(w:Wd):0<=yo w:=by simp[yo]
theorem Zju{l a:Ln}{z:List Int}(h:qn l a=some z):∀x∈z,0<=x:=by
 unfold qn yI at h;split at h
 ·split at h
  ·cases h;simp[Zel]
  ·cases h
 ·cases h
theorem Zt8(ls:List Ln):vO ls=(yP ls 6).map λx=>(⟨x.1.d,x.1.v,x.1.c,x.1.l,x.2.1,x.2.2⟩,!x.1.bad):=by
 unfold vO
 by_cases h0:zP ls 0=[jG,[49]]
 ·obtain⟨g,n⟩:=Wo (ls:=ls) (r:=r0) (by show zP ls 0≠[];rw[h0];simp);have s1:yP ls 1=some (⟨1,0,0,0,0,0,false⟩,[],[]):=by
   show (if zP ls r0.pos=[jG,[49]] then some (qf ls r0,_) else none)=_
   rw[g];exact if_pos h0
  rw[if_pos h0];cases h1:qn (zP ls 1) [qE,qG,qH,qI] with
  | none =>
   simp_all[yP,vp]
  | some z =>
   obtain⟨d,v,c,l,rfl⟩:∃d v c l,z=[d,v,c,l]:=by
    have:=Wl h1
    match z,this with
    | [d,v,c,l],_=>simp
   obtain⟨h,o⟩:=Wo (ls:=ls) (r:=⟨1,0,0,0,0,0,false⟩) (Zbw h1 DP);have s2:yP ls 2=some (⟨2,d,v,c,l,0,false⟩,[],[]):=by
    show (yP ls 1).bind (vp ls 1)=_
    rw[s1]
    show (match qn (zP ls 1) _ with | some [d,v,c,l]=>some ({ qf ls _ with d:=d,v:=v,c:=c,l:=l },_) | _=>none)=_
    rw[h1,h]
   simp only[];cases h2:qn (zP ls 2) [qJ] with
   | none =>
    simp_all[yP,vp]
   | some z2 =>
    obtain⟨m,rfl⟩:∃m,z2=[m]:=by
     have:=Wl h2
     match z2,this with
     | [m],_=>simp
    obtain⟨i,p⟩:=Wo (ls:=ls) (r:=⟨2,d,v,c,l,0,false⟩) (Zbw h2 DP);have s3:yP ls 3=some (⟨3,d,v,c,l,m,false⟩,[],[]):=by
     show (yP ls 2).bind (vp ls 2)=_
     rw[s2]
     show (match qn (zP ls 2) _ with | some [m]=>some ({ qf ls _ with m:=m },_) | _=>none)=_
     rw[h2,i]
    simp only[]
    by_cases h3:(yB ls 3 m.toNat).all (λl=>(qp d l).isSome)=true
    ·have a:yP ls 4=some (⟨3+m.toNat,d,v,c,l,m,!(xy ls d 3 m.toNat)⟩,yY ls d 3 m.toNat,[]):=by
      show (yP ls 3).bind (vp ls 3)=_
      rw[s3];exact if_pos h3
     by_cases b:zP ls (3+m.toNat)=[qK]/\(yB ls (4+m.toNat) (m.toNat+1)).all (jU (m.toNat+1))=true
     ·have j:3+m.toNat+1=4+m.toNat:=DO
      have e:yP ls 5=some (⟨4+m.toNat+(m.toNat+1),d,v,c,l,m,!(xy ls d 3 m.toNat)⟩,yY ls d 3 m.toNat,ji ls (4+m.toNat) (m.toNat+1)):=by
       show (yP ls 4).bind (vp ls 4)=_
       rw[a]
       show (if zP ls (3+m.toNat)=[qK]/\(yB ls (3+m.toNat+1) (m.toNat+1)).all (jU (m.toNat+1))=true then some ((⟨3+m.toNat+1+(m.toNat+1),d,v,c,l,m,!(xy ls d 3 m.toNat)⟩:Rdr),yY ls d 3 m.toNat,ji ls (3+m.toNat+1) (m.toNat+1)) else none)=_
       rw[j];exact if_pos b
      by_cases k:ls.length=5+2*m.toNat
      ·have f:yP ls 6=some (⟨4+m.toNat+(m.toNat+1),d,v,c,l,m,!(xy ls d 3 m.toNat)⟩,yY ls d 3 m.toNat,ji ls (4+m.toNat) (m.toNat+1)):=by
        show (yP ls 5).bind (vp ls 5)=_
        rw[e];exact if_pos DW
       rw[if_pos ⟨h3,b.1,b.2,k⟩,f];simp only[A4,Bool.not_not];rfl
      ·have f:yP ls 6=none:=by
        show (yP ls 5).bind (vp ls 5)=_
        rw[e];exact if_neg (by show ¬4+m.toNat+(m.toNat+1)=ls.length;omega)
       simp_all
     ·have e:yP ls 5=none:=by
       show (yP ls 4).bind (vp ls 4)=_
       rw[a];exact if_neg (by show ¬(zP ls (3+m.toNat)=_/\(yB ls (3+m.toNat+1) _).all _=true);rw[show 3+m.toNat+1=4+m.toNat by omega];exact b)
      have f:yP ls 6=none:=by
       show (yP ls 5).bind _=none
       rw[e];rfl
      grind
    ·have a:yP ls 4=none:=by
      show (yP ls 3).bind (vp ls 3)=_
      rw[s3];exact if_neg h3
     have f:yP ls 6=none:=by
      show ((yP ls 4).bind _).bind _=none
      rw[a];rfl
     grind
 ·have s1:yP ls 1=none:=by
   show (if zP ls r0.pos=[jG,[49]] then some (qf ls r0,_) else none)=_
   exact if_neg h0
  simp_all[yP]
theorem Zt9{l:Ln}{w:Wd}(h:w∈l):w.length<=(zQ l).length:=by
 rw[Vt];have:w.length<=(l.map List.length).sum:=by
  induction l with
  | nil=>cases h
  | cons a l b =>
   grind
 omega
theorem Zua{ls:List Ln}{l:Ln}(h:l∈ls):(zQ l).length+1<=(z8 ls).length:=by induction ls<;>grind[ul]
theorem Zub(ls:List Ln):ls.length<=(z8 ls).length:=by induction ls<;>grind[ul]
theorem Zjv{t:List UInt8}{ls:List Ln}(h:jf t=some ls)(hl:t.length<=1048576):LnsOk ls:=by
 obtain⟨h1,_,_⟩:=Zik t.length (Ag _) h;refine⟨by grind[Zub],λl hm=>?_⟩;have h2:=Zua hm;rw[h1]at h2;exact⟨by grind[Vt],λw a=>by have:=Zt9 a;omega⟩
theorem J8(w:Wd):zT (yo w):=by
 have h0:=Zel w;unfold yo at h0 ⊢;cases h:y8 w with
 | none=>exact⟨by simp,by simp⟩
 | some n =>
  have:=Zin h
  show -9223372036854775808<=(n:Int)/\(n:Int)<=9223372036854775807
  omega
theorem Zuc{l a:Ln}{z:List Int}(h:qn l a=some z):∀x∈z,zT x:=by grind[qn,yI,J8]
theorem Zud(w:Wd):qu w<2 ^ 64:=by grind[qu,Vq]
theorem Zue{d:Int}{l:Ln}{x:Cust × Bool}(h:qp d l=some x)(hl:l.length<=1048576):CustOk x.1:=by
 have z0:zT 0:=⟨by decide,by decide⟩;have z1:zT 1:=⟨by decide,by decide⟩;have z2:zT 2:=⟨by decide,by decide⟩
 match l,h,hl with
 | w :: l',h,hl =>
 have h':(if w=qA then Z7 d l' else if w=jS then (uN l').map (·,true) else none)=some x:=h;split at h'
 ·match l',h',hl with
  | dw :: ps,h',hl =>
  rw[Vo]at h';split at h'
  ·cases h';refine⟨z1,J8 dw,?_,?_,z0,z0,z0,z0,z0⟩
   ·intro p f;obtain⟨u,_,rfl⟩:=Al.1 f;exact Zud u
   ·show (ps.map qu).length<=_
    simp at hl ⊢;omega
  ·cases h'
 ·split at h'
  ·obtain⟨c,hc,rfl⟩:=Ap.1 h'
   by_cases g:l'.length=5
   ·obtain⟨a,b,e,i,j,rfl⟩:∃a b c d e,l'=[a,b,c,d,e]:=by
     match l',g with
     | [a,b,c,d,e],_=>exact⟨a,b,c,d,e,rfl⟩
    rw[Zbk]at hc;split at hc
    ·cases hc;refine⟨z2,z0,by simp,by simp,J8 _,J8 _,J8 _,?_,J8 _⟩
     show zT (YM i)
     unfold YM;split
     ·exact⟨by decide,by decide⟩
     ·exact⟨by decide,by decide⟩
    ·cases hc
   simp_all[Zjj]
  ·cases h'
theorem Zjw{ls:List Ln}{x:Inst}{b:Bool}(h:vO ls=some (x,b))(hl:LnsOk ls):InstOk x:=by
 unfold vO at h;split at h
 ·split at h
  ·rename_i d v c l h1;split at h
   ·rename_i m h2;split at h
    ·rename_i g;obtain⟨i,e2,o,p⟩:=g;cases h;have q:=Zuc h1;have j:m.toNat<=1048576:=by have:=hl.1;omega
     refine⟨q d DP,q v DP,q c DP,q l DP,?_,?_,?_,?_⟩
     ·grind[Zbr]
     ·intro cu e;obtain⟨a,hm,rfl⟩:=Al.1 e;have hs:=Aw.1 i a hm;obtain⟨k,_,rfl⟩:=Al.1 hm;obtain⟨y,f⟩:=B4.1 hs;have:xe d (zP ls (3+k))=y:=by unfold xe;rw[f];rfl
      rw[this];exact Zue f (hl.at _).1
     ·grind[Zbr]
     ·intro r n;obtain⟨a,hm,rfl⟩:=Al.1 n;obtain⟨k,_,rfl⟩:=Al.1 hm;refine⟨by have:=(hl.at (4+m.toNat+k)).1;simp;omega,λz s=>?_⟩
      grind[J8]
    ·cases h
   ·cases h
  ·cases h
 ·cases h
open Go Go.Proofs
theorem Vw{ls:List Ln}{k:Nat}(h:yP ls k=none)(a:k<=6):yP ls 6=none:=by
 have:∀j,yP ls (k+j)=none:=by
  intro j
  induction j with
  | zero=>exact h
  | succ j b=>show (yP ls (k+j)).bind _=none;rw[b];rfl
 have:=this (6-k)
 rwa[Nat.add_sub_cancel' a]at this
def Zjx(ls:List Ln)(k:Nat)(x:RdX):Prop :=
 x.1.pos<=ls.length/\(k<=3->x.2.1=[]/\x.1.bad=false)/\(k<=4->x.2.2=[])/\0<=x.1.m/\(k=4->x.1.m.toNat<=1048576)
theorem Zuf(t:List UInt8)(hl:t.length<=1048576):Pure prog 65 [T (bs t)] (.tup [.agg (zE (yF t).1),I (yF t).2]):=by
 have f:=Ztk t hl;cases hz:jf t with
 | none =>
  rw[hz]at f;simp only[Jh]at f;have y:yF t=(zI,2):=by unfold yF;rw[hz]
  rw[y];refine zx func65 ntmps65 results65 λS nx q=>?_
  refine DY ?_;intro v0;refine DY ?_;refine zv f ?_
  repeat apply ze
  refine zg ?_;refine zo DP ?_;refine DY ?_;refine yn 0 4 rfl rfl ?_;refine yn 0 5 rfl rfl ?_;exact zj (zm q DQ (by simp[zI,zr]))
 | some ls =>
  rw[hz]at f;simp only[Jh]at f;have g:=Zjv hz hl;have y:yF t=match vO ls with
   | none=>(zI,2)
   | some (x,ok)=>if ok=true/\yS x=true then (x,0) else (zI,3):=by unfold yF;rw[hz]<;>rfl
  have a2:=Zt8 ls;obtain⟨o,a0⟩:∃o,o=yF t:=⟨_,rfl⟩;rw[<-a0];rw[<-a0]at y;have p:yP ls 6=none->o=(zI,2):=λh=>by rw[y,a2,h];rfl
  refine zx func65 ntmps65 results65 λS nx q=>?_
  refine DY ?_;intro v0;refine DY ?_;refine zv f ?_
  repeat apply ze
  refine zg ?_;refine zp DP ?_;refine zk (DY ?_);intro v1;refine jd 1 6 87 8 rfl rfl λw0=>?_
  refine jd 1 7 26 1 rfl rfl λw1=>?_
  repeat apply ze
  refine zg ?_;refine zn (zK (λs:Nat × Rdr × List Cust × List (List Int) × Nat × Nat=>s.1<=6/\yP ls s.1=some (s.2.1,s.2.2.1,s.2.2.2.1)/\Zjx ls s.1 (s.2.1,s.2.2.1,s.2.2.2.1)) (λ(k,r,cu,dd,vC,vD)=>[(2,.ptr nx v0 0),(6,.ptr (nx+1) v1 0),(32,.lst 6 [.fn (.func 102) [.ptr (nx+1) v1 0] [],.fn (.func 103) [.ptr (nx+1) v1 0] [],.fn (.func 104) [.ptr (nx+1) v1 0] [],.fn (.func 105) [.ptr (nx+1) v1 0] [],.fn (.func 106) [.ptr (nx+1) v1 0] [],.fn (.func 107) [.ptr (nx+1) v1 0] []]),(33,I 6),(34,I k)])
   (λ(k,r,cu,dd,vC,vD)=>[.cells v0 25 [I 0,I 0,I 0,I 0,yU,yU],yq v1 ls r (.sl (nx+2) vC 8 0 cu.length) (.sl (nx+3) vD 1 0 dd.length),.cells vC 87 (cu.flatMap Enc.enc),.cells vD 26 (dd.flatMap Enc.enc)]) (λs=>6-s.1) (0,r0,[],[],w0,w1) [] ⟨by simp,rfl,by simp[Zjx,r0]⟩ (by simp[qa]) (by simp[r0]) ?_)
  rintro⟨k,r,cu,dd,vC,vD⟩ ⟨hk,i,m1,m2,m3,m4,m5⟩;simp only at hk i m1 m2 m3 m4 m5 ⊢;refine DY ?_;refine ze (zA rfl (λhc=>?_) (λhc=>?_))
  ·simp at hc;refine zk (ze (zn ?_));obtain rfl | rfl | rfl | rfl | rfl | rfl:k=0\/k=1\/k=2\/k=3\/k=4\/k=5:=DO
   ·have a:yP ls 1=if zP ls r.pos=[jG,[49]] then some (qf ls r,cu,dd) else none:=by show (yP ls 0).bind (vp ls 0)=_;rw[i];rfl
    refine DY ?_;refine DY ?_;refine λb=>((ZtM ls r _ _ (by rw[zY];rfl) g).mono ?_).v
    rintro _ _ ⟨rfl,rfl⟩;refine⟨_,_,yl _ DO DP,zR b ?_⟩
    by_cases h:zP ls r.pos=[jG,[49]]
    ·rw[if_pos h]at a;obtain⟨n1,n2⟩:=Wo (ls:=ls) (r:=r) (by rw[h];simp);refine zp (by simp[h]) ?_;refine zk (zg ?_);exact zu (1,qf ls r,cu,dd,vC,vD) [] ⟨by omega,a,by rw[n1];exact⟨n2,λ_=>m2 DO,λ_=>m3 DO,m4,λh=>by omega⟩⟩ DO (by simp;try exact wr _ (by omega) (by omega)) rfl (by simp;try rfl)
    ·rw[if_neg h]at a;have j:=p (Vw a DO);refine zo (by simp[h]) ?_;refine DY ?_;refine yn 0 4 rfl rfl ?_;refine yn 0 5 rfl rfl ?_;exact zj (zm q DQ (by simp[zI,zr,j]))
   ·have a:yP ls 2=match qn (zP ls r.pos) [qE,qG,qH,qI] with
     | some [d,v,c,l]=>some ({ qf ls r with d:=d,v:=v,c:=c,l:=l },cu,dd)
     | _=>none:=by show (yP ls 1).bind (vp ls 1)=_;rw[i];rfl
    have e:=λS (h:S (nx+1)=_)=>ZtN (S:=S) (id:=nx+1) (ver:=v1) ls r (.sl (nx+2) vC 8 0 cu.length) (.sl (nx+3) vD 1 0 dd.length) h g
    cases h:qn (zP ls r.pos) [qE,qG,qH,qI] with
    | none =>
     rw[h]at a e;simp only at a e;have j:=p (Vw a DO);refine DY ?_;refine DY ?_;refine λb=>((e _ (by rw[zY];rfl)).mono ?_).v
     rintro _ _ ⟨rfl,rfl⟩;refine⟨_,_,yl _ DO DP,zR b ?_⟩;refine zo DP ?_;refine DY ?_;refine yn 0 4 rfl rfl ?_;refine yn 0 5 rfl rfl ?_;exact zj (zm q DQ (by simp[zI,zr,j]))
    | some z =>
     obtain⟨d,v,c,l,rfl⟩:∃d v c l,z=[d,v,c,l]:=by
      have:=Wl h
      match z,this with
      | [d,v,c,l],_=>exact⟨d,v,c,l,rfl⟩
     obtain⟨n1,n2⟩:=Wo (ls:=ls) (r:=r) (Zbw h DP);have a3:=Zju h;rw[h]at a e;simp only at a e;refine DY ?_;refine DY ?_;refine λb=>((e _ (by rw[zY];rfl)).mono ?_).v
     rintro _ _ ⟨rfl,rfl⟩;refine⟨_,_,yl _ DO DP,zR b ?_⟩;refine zp DP ?_;refine zk (zg ?_);exact zu (2,{ qf ls r with d:=d,v:=v,c:=c,l:=l },cu,dd,vC,vD) [] ⟨by omega,a,by rw[n1];exact⟨n2,λ_=>m2 DO,λ_=>m3 DO,m4,λh=>by omega⟩⟩ DO (by simp;try exact wr _ (by omega) (by omega)) rfl (by simp;try rfl)
   ·have a:yP ls 3=match qn (zP ls r.pos) [qJ] with
     | some [m]=>some ({ qf ls r with m:=m },cu,dd)
     | _=>none:=by show (yP ls 2).bind (vp ls 2)=_;rw[i];rfl
    have e:=λS (h:S (nx+1)=_)=>ZtO (S:=S) (id:=nx+1) (ver:=v1) ls r (.sl (nx+2) vC 8 0 cu.length) (.sl (nx+3) vD 1 0 dd.length) h g
    cases h:qn (zP ls r.pos) [qJ] with
    | none =>
     rw[h]at a e;simp only at a e;have j:=p (Vw a DO);refine DY ?_;refine DY ?_;refine λb=>((e _ (by rw[zY];rfl)).mono ?_).v
     rintro _ _ ⟨rfl,rfl⟩;refine⟨_,_,yl _ DO DP,zR b ?_⟩;refine zo DP ?_;refine DY ?_;refine yn 0 4 rfl rfl ?_;refine yn 0 5 rfl rfl ?_;exact zj (zm q DQ (by simp[zI,zr,j]))
    | some z =>
     obtain⟨m,rfl⟩:∃m,z=[m]:=by
      have:=Wl h
      match z,this with
      | [m],_=>exact⟨m,rfl⟩
     obtain⟨n1,n2⟩:=Wo (ls:=ls) (r:=r) (Zbw h DP);have a3:=Zju h;rw[h]at a e;simp only at a e;refine DY ?_;refine DY ?_;refine λb=>((e _ (by rw[zY];rfl)).mono ?_).v
     rintro _ _ ⟨rfl,rfl⟩;refine⟨_,_,yl _ DO DP,zR b ?_⟩;refine zp DP ?_;refine zk (zg ?_);exact zu (3,{ qf ls r with m:=m },cu,dd,vC,vD) [] ⟨by omega,a,by rw[n1];exact⟨n2,λ_=>m2 DO,λ_=>m3 DO,a3 m DP,λh=>by omega⟩⟩ DO (by simp;try exact wr _ (by omega) (by omega)) rfl (by simp;try rfl)
   ·obtain⟨rfl,hb⟩:=m2 DO;have hm:r.m=(r.m.toNat:Int):=DO
    have a:yP ls 4=if (yB ls r.pos r.m.toNat).all (λl=>(qp r.d l).isSome)=true then some ({ r with pos:=r.pos+r.m.toNat,bad:=!(xy ls r.d r.pos r.m.toNat) },yY ls r.d r.pos r.m.toNat,dd) else none:=by show (yP ls 3).bind (vp ls 3)=_;rw[i];rfl
    have e:=λS (h:S (nx+1)=_) (h2:S (nx+2)=_)=>Zt6 (S:=S) (id:=nx+1) (ver:=v1) (idC:=nx+2) (vC:=vC) ls r r.m.toNat (.sl (nx+3) vD 1 0 dd.length) h h2 g hm m1 hb
    by_cases h:(yB ls r.pos r.m.toNat).all (λl=>(qp r.d l).isSome)=true
    ·rw[if_pos h]at a;simp only[if_pos h]at e;have a5:=Zbt ls r.d r.pos r.m.toNat;refine DY ?_;refine DY ?_;refine λb=>((e _ (by rw[zY];rfl) (by rw[zY];rfl)).mono ?_).v
     rintro _ _ ⟨rfl,a1,rfl⟩;refine⟨_,_,by rw[yl _ DO DP,yl _ DO DP],zR b ?_⟩;refine zp DP ?_;refine zk (zg ?_);exact zu (4,{ r with pos:=r.pos+r.m.toNat,bad:=!(xy ls r.d r.pos r.m.toNat) },yY ls r.d r.pos r.m.toNat,dd,vC+r.m.toNat,vD) [] ⟨by omega,a,a1,λh=>by omega,λ_=>m3 DO,m4,λ_=>by have:=g.1;show r.m.toNat<=_;omega⟩ DO (by simp;try exact wr _ (by omega) (by omega)) rfl (by simp[a5])
    ·rw[if_neg h]at a;have j:=p (Vw a DO);simp only[if_neg h]at e;refine DY ?_;refine DY ?_;refine λb=>((e _ (by rw[zY];rfl) (by rw[zY];rfl)).mono ?_).v
     rintro _ _ ⟨rfl,r',cs',oC,rfl⟩;refine⟨_,_,by rw[yl _ DO DP,yl _ DO DP],zR b ?_⟩;refine zo DP ?_;refine DY ?_;refine yn 0 4 rfl rfl ?_;refine yn 0 5 rfl rfl ?_;exact zj (zm q DQ (by simp[zI,zr,j]))
   ·obtain rfl:=m3 DO;have hm:r.m=(r.m.toNat:Int):=DO
    have a:yP ls 5=if zP ls r.pos=[qK]/\(yB ls (r.pos+1) (r.m.toNat+1)).all (jU (r.m.toNat+1))=true then some ({ r with pos:=r.pos+1+(r.m.toNat+1) },cu,ji ls (r.pos+1) (r.m.toNat+1)) else none:=by show (yP ls 4).bind (vp ls 4)=_;rw[i];rfl
    have e:=λS (h:S (nx+1)=_) (h2:S (nx+3)=_)=>Zt7 (S:=S) (id:=nx+1) (ver:=v1) (idD:=nx+3) (vD:=vD) ls r r.m.toNat (.sl (nx+2) vC 8 0 cu.length) h h2 g hm (m5 rfl) m1
    by_cases h:zP ls r.pos=[qK]/\(yB ls (r.pos+1) (r.m.toNat+1)).all (jU (r.m.toNat+1))=true
    ·rw[if_pos h]at a;simp only[if_pos h]at e;have a6:=Zbu ls (r.pos+1) (r.m.toNat+1);refine DY ?_;refine DY ?_;refine λb=>((e _ (by rw[zY];rfl) (by rw[zY];rfl)).mono ?_).v
     rintro _ _ ⟨rfl,a1,rfl⟩;refine⟨_,_,by rw[yl _ DO DP,yl _ DO DP],zR b ?_⟩;refine zp DP ?_;refine zk (zg ?_);exact zu (5,{ r with pos:=r.pos+1+(r.m.toNat+1) },cu,ji ls (r.pos+1) (r.m.toNat+1),vC,vD+(r.m.toNat+1)) [] ⟨by omega,a,a1,λh=>by omega,λh=>by omega,m4,λh=>by omega⟩ DO (by simp;try exact wr _ (by omega) (by omega)) rfl (by simp[a6])
    ·rw[if_neg h]at a;have j:=p (Vw a DO);simp only[if_neg h]at e;refine DY ?_;refine DY ?_;refine λb=>((e _ (by rw[zY];rfl) (by rw[zY];rfl)).mono ?_).v
     rintro _ _ ⟨rfl,r',ds',oD,rfl⟩;refine⟨_,_,by rw[yl _ DO DP,yl _ DO DP],zR b ?_⟩;refine zo DP ?_;refine DY ?_;refine yn 0 4 rfl rfl ?_;refine yn 0 5 rfl rfl ?_;exact zj (zm q DQ (by simp[zI,zr,j]))
   ·have a:yP ls 6=if r.pos=ls.length then some (r,cu,dd) else none:=by show (yP ls 5).bind (vp ls 5)=_;rw[i];rfl
    refine DY ?_;refine DY ?_;refine λb=>((ZtP ls r _ _ (by rw[zY];rfl)).mono ?_).v
    rintro _ _ ⟨rfl,rfl⟩;refine⟨_,_,rfl,zR b ?_⟩
    by_cases h:r.pos=ls.length
    ·rw[if_pos h]at a;refine zp (by simp[h]) ?_;refine zk (zg ?_);exact zu (6,r,cu,dd,vC,vD) [] ⟨by omega,a,m1,λh=>by omega,λh=>by omega,m4,λh=>by omega⟩ DO (by simp;try exact wr _ (by omega) (by omega)) rfl DP
    ·rw[if_neg h]at a;have j:=p a;refine zo (by simp[h]) ?_;refine DY ?_;refine yn 0 4 rfl rfl ?_;refine yn 0 5 rfl rfl ?_;exact zj (zm q DQ (by simp[zI,zr,j]))
  ·simp at hc;obtain rfl:k=6:=DO
   have u:vO ls=some (⟨r.d,r.v,r.c,r.l,cu,dd⟩,!r.bad):=by rw[a2,i];rfl
   have a4:=Zjw u g;have n:=Zh0 _ a4;rw[u]at y;refine zC (yh 2 rfl ?_);refine yh 3 rfl ?_;obtain⟨pos,d,v,c,ln,m,bad⟩:=r;cases bad with
   | true =>
    have j:o=(zI,3):=by rw[y];exact if_neg DP
    repeat apply ze
    refine zi [(4,47)] zB ?_;refine zo DP ?_;refine DY ?_;refine yn 0 4 rfl rfl ?_;refine yn 0 5 rfl rfl ?_;exact zj (zm q DQ (by simp[zI,zr,j]))
   | false =>
    by_cases w:yS ⟨d,v,c,ln,cu,dd⟩=true
    ·have j:o=(⟨d,v,c,ln,cu,dd⟩,0):=by rw[y];exact if_pos ⟨rfl,w⟩
     rw[if_pos w]at n
     repeat apply ze
     refine zi [(4,47)] trivial ?_;refine yW [(4,47)] n trivial ?_;refine zp DP ?_;refine zk (DY ?_);exact zj (zm q DQ (by simp[zr,j]))
    ·have j:o=(zI,3):=by rw[y];exact if_neg (λh=>w h.2)
     rw[if_neg w]at n
     repeat apply ze
     refine zi [(4,47)] trivial ?_;refine yW [(4,47)] n trivial ?_;refine zo DP ?_;refine DY ?_;refine yn 0 4 rfl rfl ?_;refine yn 0 5 rfl rfl ?_;exact zj (zm q DQ (by simp[zI,zr,j]))
open Go Go.Proofs Hp
theorem Zem{α:Type}[Enc α](id v:Nat)(cs:List PV)(l:List (List α)):(l.flatMap Enc.enc).map (qO id v cs)=(l.flatMap Enc.enc:List PV):=by
 refine(AM λp b=>?_).trans (Df _);obtain⟨t,_,a⟩:=BL.1 b;rw[ZlM,AU]at a;subst a;rfl
theorem Zen(p:zH)(hp:p.length<=1000)(h:∀d∈p,d.length<=1000)(ht:∀d∈p,∀t∈d,t.length<=1000){S:Store}{nx:Nat}(z:yd nx S):
  Spec prog 180 [.agg [L p]] S (λq S'=>∃v,q=.agg [.sl (nx+3) v 1 0 p.length]/\S'=S.set (nx+3) (.cells v 39 (p.flatMap Enc.enc))):=by
 refine Zv z func180 ntmps180 results180 ?_;refine DY ?_;intro v0 v1;refine DY ?_;intro g;refine jd 2 0 39 1 rfl rfl λv3=>?_
 repeat apply ze
 refine zg ?_;refine zn (zK (λs:Nat × Nat=>s.1<=p.length) (λ(k,w)=>[(2,.ptr (nx+1) v1 0),(3,.ptr (nx+2) g 0),(10,L p),(11,I p.length),(12,I k)]) (λ(k,w)=>[.cells v0 30 [L p],.cells v1 30 [yD],.cells g 30 [.sl (nx+3) w 1 0 k],.cells w 39 ((p.take k).flatMap Enc.enc)]) (λs=>p.length-s.1) (0,v3) [] DP DP DP ?_);rintro⟨k,w⟩ hk;simp only at hk ⊢;refine DY ?_;refine ze (zA rfl (λhc=>?_) (λhc=>?_))
 ·simp at hc;obtain⟨d,tl,a1,a2,a3,e0⟩:=zN rfl p k hc;have c:=Ab a1;have a0:=h d c;have i:1<=p.length-k:=DO
  have l:(p.take k).length=k:=by rw[Ax];omega
  generalize a4:p.take k=pk at *;have m:(pk.flatMap Enc.enc:List PV).length=k:=(xD pk).trans l;have n:(pk.flatMap Enc.enc:List PV).take k=pk.flatMap Enc.enc:=Af DO;have e:∀id v cs,(pk.flatMap Enc.enc).map (qO id v cs)=(pk.flatMap Enc.enc:List PV):=λid v cs=>Zem id v cs pk
  refine zk (ze (zn (ze (zi [] (zF hc e0 i) ?_))));intro v4;refine DY ?_;intro v5;refine jd 5 0 42 1 rfl rfl λv6=>?_
  repeat apply ze
  refine zg ?_;refine zn (zK (λs:Nat × Nat=>s.1<=d.length) (λ(j,f)=>[(2,.ptr (nx+1) v1 0),(3,.ptr (nx+2) g 0),(6,.ptr (nx+5) v5 0),(10,L p),(11,I p.length),(12,I k),(17,L d),(18,I d.length),(19,I j)])
   (λ(j,f)=>[.cells v0 30 [L p],.cells v1 30 [yD],.cells g 30 [.sl (nx+3) w 1 0 k],.cells w 39 (pk.flatMap Enc.enc),.cells v4 39 [L d],.cells v5 39 [.sl (nx+6) f 1 0 j],.cells f 42 ((d.take j).flatMap Enc.enc)]) (λs=>d.length-s.1) (0,v6) [] DP DP DP ?_)
  rintro⟨j,f⟩ hj;simp only at hj ⊢;refine DY ?_;refine ze (zA rfl (λa=>?_) (λa=>?_))
  ·simp at a;obtain⟨t,a5,b1,b2,b3,f0⟩:=zN rfl d j a;have a6:=ht d c t (Ab b1);have o:1<=d.length-j:=DO
   have r:(d.take j).length=j:=by rw[Ax];omega
   generalize a7:d.take j=dj at *;have u:(dj.flatMap Enc.enc:List PV).length=j:=(xD dj).trans r;have x:(dj.flatMap Enc.enc:List PV).take j=dj.flatMap Enc.enc:=Af DO;have b:∀id v cs,(dj.flatMap Enc.enc).map (qO id v cs)=(dj.flatMap Enc.enc:List PV):=λid v cs=>Zem id v cs dj
   have y:(t.flatMap Enc.enc:List PV).length=t.length*2:=QM t;refine zk (ze (zn (ze (zi [] (zF a f0 o) ?_))));intro v7;refine zD (some [nx+7]) (Row.pures [0,2,3] (.alt 1 (.alt 4 (Row.pures [5,6] (.alt 7 (Row.pures [8] (.alt 9 (.done) .stop)) .stop)) .stop) (.alt 4 (Row.pures [5,6] (.alt 1 (.alt 7 (Row.pures [8] (.alt 9 (.done) .stop)) .stop) .stop)) .stop))) mixed (zq u x) ?_;refine⟨⟨by omega,λv8=>⟨⟨by omega,by omega⟩,?_⟩⟩,⟨by omega,λv8=>⟨⟨by omega,by omega⟩,?_⟩⟩⟩
   all_goals
    refine yh 8 rfl ?_;simp only[AD,Bp,AV,A7,wB,e,b,List.map_append];refine zg ?_;exact zu (j+1,f+1) [_,_] DT DT (by simp[zy j (by omega)]) rfl (by simp[b3,qO,y];exact⟨rfl,rfl⟩)
  ·simp at a;obtain rfl:j=d.length:=DO
   rw[Ai];have b:∀id v cs,(d.flatMap Enc.enc).map (qO id v cs)=(d.flatMap Enc.enc:List PV):=λid v cs=>Zem id v cs d
   refine zC (yh 6 rfl ?_);simp only[AD,Bp,AV,A7,wB,e,b];refine zi [] (zq m n) ?_;refine⟨by omega,?_⟩;refine zg ?_;exact zu (k+1,w+1) [_,_,_] DT DT (by simp[zy k (by omega)]) rfl (by simp[a3];exact⟨rfl,rfl,rfl⟩)
 ·simp at hc;obtain rfl:k=p.length:=DO
  rw[Ai];refine zC (DY ?_);exact zj ⟨_,_,DQ,⟨w,by simp[zr],rfl⟩,JD (j:=3) z DP⟩
theorem Zug(p:zH)(b:p.length<=1000)(a:∀d∈p,d.length<=1000)(c:∀d∈p,∀t∈d,t.length<=1000):Pure prog 180 [.agg [L p]] (.agg [L p]) :=
 Zft (sz:=1) 3 (λS nx e=>Zen p b a c e) (by rw[xD,BO])
def ur(x:Inst)(p:zH)(day b:Int):zH × Bool :=
 if day<0\/(p.length:Int)<=day then (p,false)
 else if W (yx x (p.getD day.toNat []))<=W (yx x (vK x b (p.getD day.toNat []))) then (p,false)
 else (p.set day.toNat (vK x b (p.getD day.toNat [])),true)
structure PlanM (x:Inst) (p:zH):Prop where
 cust:x.cust.length<=900
 inst:InstH x
 len:p.length<=1000
 may:∀d∈p,yE x d=0
theorem PlanM.sizes{x:Inst}{p:zH}(h:PlanM x p):∀d∈p,d.length<=1000/\(∀t∈d,t.length<=1000)/\DayOk d/\d.flatten.length<=1000:=by
 intro d a;obtain⟨h1,h2,h3⟩:=Jg h.cust (h.may d a);have:=h.cust;exact⟨by omega,λt b=>by have:=Zbd d t b;omega,h3.ok,by omega⟩
theorem Zjy{x:Inst}(hx:x.cust.length<=900)(hi:InstH x){d:zt}(h:yE x d=0)(b:Int):yE x (vK x b d)=0/\(vK x b d).flatten.Perm d.flatten/\yx x (vK x b d)<=yx x d:=by
 obtain⟨hs,a⟩:=Zi1 hx hi.arc hi.veh h;obtain⟨h1,h2,h3⟩:=ZaV hs hi.diag b.toNat d a;obtain⟨e,c,f⟩:=(ud x d).1 h;change SG x d.flatten (vK x b d) at h1;change yx x (vK x b d)<=yx x d at h2;change (vK x b d).length<=d.length at h3;exact⟨(ud x _).2 ⟨h1.may,(h1.perm.map _).nodup_iff.2 c,by omega⟩,h1.perm,h2⟩
theorem Zuh{x:Inst}(hx:x.cust.length<=900)(hi:InstH x){d:zt}(h:yE x d=0){b:Int}(hb:b<=9223372036854775807):∃k:Int,Pure prog 252 [.agg (zE x),.agg [L d],I b] (.tup [.agg [L (vK x b d)],I k]):=by
 obtain⟨hs,a⟩:=Zi1 hx hi.arc hi.veh h;have o:=a.ok hs;exact⟨_,Zhc x d b (uI x) (SG x d.flatten) hb o.n o.t (λ_=>a) (ZhH hs hi.diag)⟩
theorem Zui{x:Inst}{p:zH}(h:PlanM x p)(a b:Int)(hb:b<=9223372036854775807):
  Pure prog 216 [.agg (zE x),.agg [L p],I a,I b] (.tup [.agg [L (ur x p a b).1],B (ur x p a b).2]):=by
 have l:=h.sizes;have a0:=h.len;refine zx func216 ntmps216 results216 λS nx i=>?_
 refine DY ?_;intro v0 v1 v2;refine DY ?_;refine λo=>((Zen p h.len (λd i=>(l d i).1) (λd i=>(l d i).2.1) xB).mono ?_).v
 rintro _ _ ⟨v3,rfl,rfl⟩;refine⟨_,_,WO 3 _,xl [] Nat.add_assoc o ?_⟩;intro v4
 by_cases h0:a<0
 ·have q:ur x p a b=(p,false):=by unfold ur;rw[if_pos (.inl h0)]
  rw[q]
  repeat apply ze
  refine zi [(2,17)] (zq h0 zB) ?_;refine zo rfl (yh 6 rfl ?_);refine DY ?_;exact DZ i
 by_cases h1:(p.length:Int)<=a
 ·have q:ur x p a b=(p,false):=by unfold ur;rw[if_pos (.inr h1)]
  rw[q]
  repeat apply ze
  refine zi [(2,17)] (zq h0 h1) ?_;refine zo rfl (yh 6 rfl ?_);refine DY ?_;exact DZ i
 obtain⟨k,rfl⟩:=Ay (show 0<=a by omega);have g:k<p.length:=DO
 obtain⟨d,tl,a1,a2,a3,j⟩:=zN rfl p k g;have n:=Ab a1;have u:p.getD (k:Int).toNat []=d:=by rw[AN,Aa,a1];rfl
 have q:ur x p k b=if W (yx x d)<=W (yx x (vK x b d)) then (p,false) else (p.set k (vK x b d),true):=by
  unfold ur;rw[if_neg DO,u,AN]
 obtain⟨m,hI⟩:=Zuh h.cust h.inst (h.may d n) hb;have w:=Zjy h.cust h.inst (h.may d n) b;have r:=XI x d (l d n).2.2.1;have s:=XI x (vK x b d) (Jg h.cust w.1).2.2.ok;rw[q];generalize vK x b d=e at *;generalize W (yx x d)=z1 at *;generalize W (yx x e)=z2 at *;have c:1<=p.length-k:=DO
 have y:(p.flatMap Enc.enc:List PV).length=p.length:=xD p;have z:=ZdS (α:=zt) rfl p k e g;have t:yk (p.flatMap Enc.enc) k [L e]=(p.set k e).flatMap Enc.enc:=by simpa using z
 repeat apply ze
 refine zi [(2,17)] (zq h0 h1) ?_;refine zp rfl (zk (ze (zD (some [nx,nx+6,nx+7]) (Row.pures [0,1,2,3,4,5,6,7,8,9,10] (.alt 11 (.alt 12 (Row.pures [13] .done) .stop) .stop)) mixed (zF j g c) ?_)));refine zO (hI) (zF j g c) ?_;intro v5
 by_cases f:z1<=z2
 ·rw[if_pos f]
  repeat apply ze
  refine zD (some [nx,nx+6,nx+7,nx+8]) (Row.pures [0,1,2,3,4,5,6,7,8,9,10] .done) mixed (zS j g c f) ?_;refine zO (s) (zS j g c f) ?_;refine zO (r) (zS j g c f) ?_;refine zo rfl (yh 6 rfl ?_);refine DY ?_;exact DZ i
 ·rw[if_neg f]
  repeat apply ze
  refine zD (some [nx,nx+6,nx+7,nx+8]) (Row.pures [0,1,2,3,4,5,6,7,8,9,10] .done) mixed (zS j g c f) ?_;refine zO (s) (zS j g c f) ?_;refine zO (r) (zS j g c f) ?_;refine zp rfl (zk (ze (zi [] (zF g t y) ?_)));refine⟨by omega,?_⟩;refine yh 6 rfl ?_;refine DY ?_;exact zj (zm i DQ (by simp[zr]))
open Go Go.Proofs Hp
structure PlanS (n K:Nat) (p:zH):Prop where
 len:p.length=n
 ok:∀d∈p,DayOk d/\d.flatten.length<=K/\d.length<=K
theorem Zeo{x:Inst}{d:zt}{s:Stop}{K:Nat}(hx:x.cust.length<=1048576)(h1:DayOk d)(h2:d.flatten.length<=K)(h3:d.length<=K)(a:K<=100000):DayOk (yZ x d s).1/\(yZ x d s).1.flatten.length<=K+1/\(yZ x d s).1.length<=K+1:=by
 refine⟨Zg8 hx h1 DO DO,?_,?_⟩
 ·cases hi:(yZ x d s).2 with
  | true=>rw[(Zc1 hi).length_eq,Ae];omega
  | false=>rw[ZgJ hi];omega
 grind[yZ,xn]
theorem Zuj(x:Inst)(p:zH)(c:Nat){n K:Nat}(a0:n<=1000)(hK:K<=100000)(hx:x.cust.length<=1000)(hc:c<x.cust.length)(hp:PlanS n K p):Pure prog 322 [.agg (zE x),.agg [L p],I c] (L (p.map (vM x (up x c)))):=by
 have i:=Zi0 x c;rw[show (decide (0<=(c:Int)) && decide ((c:Int)<x.cust.length))=true from by simp;omega]at i;obtain⟨cu,a2,a1,-,-,e1,o⟩:=el 8 rfl x.cust c hc;have u:=e1 1 DO;have j:up x c=⟨c,if cu.kind=1 then cu.demand else 1⟩:=by unfold up;rw[Aa,a1];rfl
 have v:p.length<=1000:=by have:=hp.len;omega
 refine zx func322 ntmps322 results322 λS nx hd=>?_
 refine DY ?_;intro v0 v1;refine DY ?_;intro t;refine ze (qy (nx:=nx) (σ:=Unit) (λ_=>True) (λ_=>[(3,.ptr nx v0 0),(4,.ptr (nx+1) v1 0),(7,.ptr (nx+2) t 0)]) (λ_=>S) (λ_=>[.cells v0 25 (zE x),.cells v1 30 [L p],.cells t 100 [I c,I (up x c).q]]) ?_ ?_)
 ·by_cases g:cu.kind=1
  ·rw[if_pos g]at j;refine ze (zi [(3,19)] (zF o hc g) ?_);refine yW [(3,19)] i (zF o hc g) ?_;refine zo (by simp[g]) ?_;refine zi [] (zq u hc) ?_;exact zZ () [] trivial DP rfl (by simp[j])
  ·rw[if_neg g]at j;refine ze (zi [(3,19)] (zF o hc g) ?_);refine yW [(3,19)] i (zF o hc g) ?_;refine zp (by simp[g]) ?_;exact zk (zZ () [] trivial DP rfl (by simp[j]))
 intro _ _;have l:(up x c).c=c:=rfl;generalize a3:up x c=s at l;clear j;refine DY ?_;refine ze (q9 8 3 1 rfl λv3=>?_);refine DY ?_;refine zn (zK (λst:Nat × List Int × Nat=>st.1<=p.length/\st.2.1=(p.take st.1).map (vM x s)) (λ(k,out,w)=>[(3,.ptr nx v0 0),(7,.ptr (nx+2) t 0),(8,.sl (nx+3) w 1 0 out.length),(36,L p),(37,I p.length),(38,I k)]) (λ(k,out,w)=>[.cells v0 25 (zE x),.cells v1 30 [L p],.cells t 100 [I c,I s.q],.cells w 3 (out.flatMap Enc.enc)]) (λst=>p.length-st.1) (0,[],v3) [] DP DP DP ?_);rintro⟨k,out,w⟩ ⟨g,ho⟩;simp only at g ho ⊢;have a4:out.length=k:=by rw[ho];simp;omega
 refine DY ?_;refine ze (zA rfl (λa=>?_) (λa=>?_))
 ·simp at a;obtain⟨d,tl,b1,b2,b3,f0⟩:=zN rfl p k a;obtain⟨g1,g3,g4⟩:=hp.ok d (Ab b1);have g5:=(Zeo (x:=x) (s:=s) DO g1 g3 g4 hK).1;have f:=Zc9 x d s DO g1 DO;have y:=XI x d g1;have m:=XI x _ g5;have b:vM x s d=if (yZ x d s).2=true then max 0 (W (W (yx x (yZ x d s).1)-W (yx x d))) else 4294967296:=rfl
  rw[l]at f;generalize yZ x d s=r at *;obtain⟨e,ok⟩:=r;simp only at f m b;generalize W (yx x d)=z1 at *;generalize W (yx x e)=z2 at *;have z:1<=p.length-k:=DO
  refine zk (ze (zn (ze (zi [] (zF f0 a z) ?_))));intro v4;refine DY ?_
  repeat apply ze
  refine zg ?_;refine zv f ?_;intro v5;refine DY ?_;cases ok with
  | true =>
   rw[if_pos rfl]at b;have h:jy (0:Int) (W (z2-z1))=vM x s d:=by rw[b];unfold jy;split<;>omega
   refine zo rfl (zD (some [nx,nx+4,nx+5]) (Row.pures [0,1,2,3,4,5,6,7,8] .done) mixed trivial ?_);refine zO (m) h ?_;refine zO (y) h ?_;refine zg ?_;refine⟨by omega,?_⟩;refine zg ?_;exact zu (k+1,out++[vM x s d],w+1) [_,_] ⟨a,by rw[b3,List.map_append,ho];rfl⟩ DT (by simp[zy k (by omega)]) rfl (by simp[b];exact⟨rfl,rfl⟩)
  | false =>
   rw[if_neg DV]at b;refine zp rfl (zk (zg ?_));refine⟨by omega,?_⟩;refine zg ?_;exact zu (k+1,out++[vM x s d],w+1) [_,_] ⟨a,by rw[b3,List.map_append,ho];rfl⟩ DT (by simp[zy k (by omega)]) rfl (by simp[b];exact⟨rfl,rfl⟩)
 ·simp at a;obtain rfl:k=p.length:=DO
  rw[Ai]at ho;refine zC (yh 3 rfl ?_);refine DY ?_;exact zj (zm hd DQ (by simp[zr,ho]))
def YR(x:Inst)(p:zH):Bool:=p.all λd=>decide (yE x d=0)
theorem Zuk(x:Inst)(p:zH){n K:Nat}(l:n<=1000)(o:K<=100000)(hx:x.cust.length<=1000)(h:PlanS n K p):Pure prog 289 [.agg (zE x),.agg [L p]] (B (YR x p)):=by
 have b:p.length<=1000:=by have:=h.len;omega
 refine zx func289 ntmps289 results289 λS nx a=>?_
 refine DY ?_;intro v0 v1
 repeat apply ze
 refine zg ?_;refine zn (zK (λk:Nat=>k<=p.length/\∀d∈p.take k,yE x d=0) (λk=>[(2,.ptr nx v0 0),(8,L p),(9,I p.length),(10,I k)]) (λ_=>[.cells v0 25 (zE x),.cells v1 30 [L p]]) (λk=>p.length-k) 0 [] DP DP DP ?_);rintro k ⟨r,c⟩;refine DY ?_;refine ze (zA rfl (λhc=>?_) (λhc=>?_))
 ·simp at hc;obtain⟨d,tl,i,s,a3,m⟩:=zN rfl p k hc;obtain⟨g1,u,g3⟩:=h.ok d (Ab i);have f:=Zcz x d DO g1.n g1.t DO;have g:1<=p.length-k:=DO
  refine zk (ze (zn (ze (zi [] (zF m hc g) ?_))));intro v
  by_cases h0:yE x d=0
  ·rw[h0]at f;refine DY ?_;refine zv f ?_;refine zp DP ?_;refine zk (zg ?_);exact zu (k+1) [_] ⟨hc,λe j=>by rw[a3]at j;rcases AB.1 j with q | q;exact c e q;rw[AU.1 q];exact h0⟩ DO (by simp[zy k (by omega)]) rfl DQ
  ·have ho:YR x p=false:=by
    unfold YR;rw[Bm];exact⟨d,Ab i,by simpa using h0⟩
   rw[ho];generalize yE x d=z at *;refine DY ?_;refine zv f ?_;refine zo (by simp[h0]) ?_;refine DY ?_;exact zj (zm a rfl rfl)
 ·simp at hc;obtain rfl:k=p.length:=DO
  rw[Ai]at c;have ho:YR x p=true:=by
   unfold YR;rw[Aw];intro d a;simpa using c d a
  rw[ho];refine zC (DY ?_);exact zj (zm a rfl rfl)
def Yd(x:Inst)(c:Nat)(st:zH × Bool)(w:Visit):zH × Bool :=
 if st.2=true then (if (yZ x (st.1.getD w.d.toNat []) ⟨c,w.q⟩).2=true then (st.1.set w.d.toNat (yZ x (st.1.getD w.d.toNat []) ⟨c,w.q⟩).1,true) else ([],false)) else st
def vS(x:Inst)(n:Nat)(p:zH)(c:Nat):zH × Bool :=
 if (qV n x.cap (x.cust.getD c default) (p.map (vM x (up x c)))).2=true then (qV n x.cap (x.cust.getD c default) (p.map (vM x (up x c)))).1.foldl (Yd x c) (p,true) else ([],false)
theorem Zep(x:Inst)(c:Nat):∀v:List Visit,v.foldl (Yd x c) ([],false)=([],false)
 | []=>rfl
 | w :: v=>by rw[A5];exact Zep x c v
theorem Zul(x:Inst)(s:Stop)(p:zH):∀z∈p.map (vM x s),zT z:=by
 intro z a;obtain⟨d,-,rfl⟩:=Al.1 a;unfold vM;split
 ·have:=ZdU (W (yx x (yZ x d s).1)-W (yx x d));unfold zT at *;omega
 ·unfold zT;omega
theorem PlanS.sizes{n K:Nat}{p:zH}(h:PlanS n K p)(b:n<=1000)(e:K<=1000):p.length<=1000/\(∀d∈p,d.length<=1000)/\∀d∈p,∀t∈d,t.length<=1000:=by
 refine⟨by have:=h.len;omega,λd a=>by have:=(h.ok d a).2.2;omega,λd a t c=>?_⟩;have:=Zbd d t c;have:=(h.ok d a).2.1;omega
theorem PlanS.set{n K:Nat}{p:zH}(h:PlanS n K p){k:Nat}{e:zt}(a:DayOk e/\e.flatten.length<=K+1/\e.length<=K+1):PlanS n (K+1) (p.set k e):=by
 refine⟨by rw[BJ];exact h.len,λd b=>?_⟩;rcases Bv b with q | q
 ·obtain⟨g1,c,g3⟩:=h.ok d q;exact⟨g1,by omega,by omega⟩
 ·rw[q];exact a
theorem Zjz{x:Inst}{n:Nat}(h:InstA x n){p:zH}{K:Nat}(m:K<=10000)(k:PlanS n K p){c:Nat}(hc:c<x.cust.length)(h0:(vS x n p c).2=true):PlanS n (K+64) (vS x n p c).1:=by
 have hx:=h.h.cust;unfold vS at h0 ⊢;split at h0
 ·rename_i h1;rw[if_pos h1];have g:x.cust.getD c default∈x.cust:=by rw[Aa,Ac hc];exact Bc hc
  have j:=Zbj (h.made _ g) h.n60 x.cap _ h1;have hl:=j.len;generalize (qV n x.cap (x.cust.getD c default) (p.map (vM x (up x c)))).1=v at *;clear j h1;have key:∀(v:List Visit) (q:zH) (K:Nat),K+v.length<=10100->PlanS n K q->(v.foldl (Yd x c) (q,true)).2=true->PlanS n (K+v.length) (v.foldl (Yd x c) (q,true)).1:=by
   intro v
   induction v with
   | nil=>intro q K _ f _;exact f
   | cons w v l =>
    intro q K i f a;rw[Ae]at i ⊢;rw[A5]at a ⊢;have hs:Yd x c (q,true) w=if (yZ x (q.getD w.d.toNat []) ⟨c,w.q⟩).2=true then (q.set w.d.toNat (yZ x (q.getD w.d.toNat []) ⟨c,w.q⟩).1,true) else ([],false):=rfl
    rw[hs]at a ⊢;split at a
    ·rename_i hi;rw[if_pos hi];rw[show K+(v.length+1)=(K+1)+v.length by omega];refine l _ _ DO (f.set ?_) a;have b:DayOk (q.getD w.d.toNat [])/\(q.getD w.d.toNat []).flatten.length<=K/\(q.getD w.d.toNat []).length<=K:=by
      rw[Aa];cases e:q[w.d.toNat]? with
      | none=>exact⟨⟨by simp,by simp,by simp⟩,by simp,by simp⟩
      | some d=>exact f.ok d (Ab e)
     exact Zeo DO b.1 b.2.1 b.2.2 DO
    ·rw[Zep]at a;cases a
  have:=key v p K DO k h0;exact⟨this.len,λd b=>by obtain⟨g1,o,g3⟩:=this.ok d b;exact⟨g1,by omega,by omega⟩⟩
 ·cases h0
theorem Zum{x:Inst}{n:Nat}(h:InstA x n){p:zH}{K:Nat}(hK:K<=900)(hp:PlanS n K p)(c:Nat)(hc:c<x.cust.length):Pure prog 288 [.agg (zE x),.agg [L p],I c] (.tup [.agg [L (vS x n p c).1],B (vS x n p c).2]):=by
 have hx:=h.h.cust;have j:=h.n60;have a7:=h.days;have d5:=hp.len;obtain⟨a8,a9,b7⟩:=hp.sizes DO DO;obtain⟨cu,d6,a1,-,-,e1,e0⟩:=el 8 rfl x.cust c hc;have o:=Ab a1;have b8:x.cust.getD c default=cu:=by rw[Aa,a1];rfl
 have c6:=Zuj x p c (n:=n) (K:=K) DO DO hx hc hp;have hI:=Zul x (up x c) p;have y:(p.map (vM x (up x c))).length<=1000:=by rw[List.length_map];omega
 have l:vS x n p c=if (qV n x.cap cu (p.map (vM x (up x c)))).2=true then (qV n x.cap cu (p.map (vM x (up x c)))).1.foldl (Yd x c) (p,true) else ([],false):=by unfold vS;rw[b8]
 have b:=Zbj (h.made cu o) j x.cap (p.map (vM x (up x c)));rw[l];generalize p.map (vM x (up x c))=pr at *;have a0:Pure prog 207 [.agg (yi cu),I x.days,I x.cap,L pr] (.tup [L (qV n x.cap cu pr).1,B (qV n x.cap cu pr).2]):=by
  rw[a7];exact λS=>Zd7 cu n x.cap (.inl rfl) hI y (h.made cu o) (h.pats cu o) j
 clear l;generalize qV n x.cap cu pr=r at *;obtain⟨v,ok⟩:=r;simp only at a0 b ⊢;refine zx func288 ntmps288 results288 λS nx hd=>?_
 refine DY ?_;intro v0 v1 v2;refine ze (zD (some [nx,nx+1]) (Row.pures [0,1,2,3,4,5,6,7,8,9,10,11,12,13,14,15,16,17,18] .done) mixed (zq e0 hc) ?_);refine zO (c6) (zq e0 hc) ?_;refine zO (a0) (zq e0 hc) ?_;cases ok with
 | false =>
  rw[if_neg DV]
  repeat apply ze
  refine zg ?_;refine zo rfl (DY ?_);refine yn 2 0 rfl rfl ?_;exact DZ hd
 | true =>
  have hg:=b rfl;have d7:=hg.len;rw[if_pos rfl]
  repeat apply ze
  refine zg ?_;refine zp rfl (zk (DY ?_));refine λa2=>((Zen p a8 a9 b7 xB).mono ?_).v
  rintro _ _ ⟨v3,rfl,rfl⟩;refine⟨_,_,WO 3 _,xl [] Nat.add_assoc a2 ?_⟩;intro v4
  repeat apply ze
  refine zg ?_;refine zn (zK (λs:Nat × zH × Nat=>s.1<=v.length/\(v.take s.1).foldl (Yd x c) (p,true)=(s.2.1,true)/\PlanS n (K+s.1) s.2.1) (λ(k,q,w)=>[(2,I c),(3,.ptr nx v0 0),(6,.ptr (nx+2) v2 0),(10,.ptr (nx+7) v4 0),(38,L v),(39,I v.length),(40,I k)]) (λ(k,q,w)=>[.cells v0 25 (zE x),.cells v1 30 [L p],.cells v2 30 [yD],.dead,.dead,.dead,.cells w 39 (q.flatMap Enc.enc),.cells v4 30 [.sl (nx+6) w 1 0 q.length]]) (λs=>v.length-s.1) (0,p,v3) [] ⟨by simp,by simp,hp⟩ DP DP ?_);rintro⟨k,q,w⟩ ⟨hk,hq,i⟩;simp only at hk hq i ⊢;have d8:=i.len;refine DY ?_;refine ze (zA rfl (λa=>?_) (λa=>?_))
  ·simp at a;obtain⟨u,tl,b1,b2,b3,f1,f0⟩:=el 2 rfl v k a;have hu:=hg.ok u (Ab b1);obtain⟨z,t⟩:∃z:Nat,u.d=z:=⟨u.d.toNat,by omega⟩;have f:z<q.length:=DO
   obtain⟨d,d9,d1,d2,d3,d0⟩:=zN rfl q z f;obtain⟨g1,g2,g3⟩:=i.ok d (Ab d1);have m:=Zc9 x d ⟨c,u.q⟩ DO g1 DO;have a3:=Zeo (x:=x) (s:=⟨c,u.q⟩) DO g1 g2 g3 DO;have g:(v.take (k+1)).foldl (Yd x c) (p,true)=if (yZ x d ⟨c,u.q⟩).2=true then (q.set z (yZ x d ⟨c,u.q⟩).1,true) else ([],false):=by
    rw[b3,Bx,hq];have e9:q.getD u.d.toNat []=d:=by rw[t,AN,Aa,d1];rfl
    show Yd x c (q,true) u=_
    unfold Yd;rw[if_pos rfl,e9,t,AN]
   generalize yZ x d ⟨c,u.q⟩=e at *;obtain⟨d',c7⟩:=e;simp only at m g a3;have a4:1<=q.length-z:=DO
   have c8:(q.flatMap Enc.enc:List PV).length=q.length:=xD q;have d4:=ZdS (α:=zt) rfl q z d' f;have a5:yk (q.flatMap Enc.enc) z [L d']=(q.set z d').flatMap Enc.enc:=by simpa using d4
   refine zk (ze (zn (ze (zi [] (zF f0 a t) ?_))));intro v5;refine DY ?_;intro v6;refine ze (zD (some [nx,nx+6,nx+7,nx+8,nx+9]) (Row.pures [0,1,2,3,4,5,6,7,8,9,10,11] (.alt 12 (.alt 13 (Row.pures [14] .done) .stop) .stop)) mixed (zS d0 f a4 t) ?_);refine zO (m) (zS d0 f a4 t) ?_;intro v7;cases c7 with
   | false =>
    rw[if_neg DV]at g;have a6:v.foldl (Yd x c) (p,true)=([],false):=by
     conv=>lhs;rw[<-List.take_append_drop (k+1) v,Bx,g,Zep]
    rw[a6]
    repeat apply ze
    refine zg ?_;refine zo rfl (DY ?_);refine yn 2 0 rfl rfl ?_;exact DZ hd
   | true =>
    rw[if_pos rfl]at g
    repeat apply ze
    refine zg ?_;refine zp rfl (zk (zi [] (zS f a5 c8 t) ?_));refine⟨by omega,?_⟩;refine zg ?_;exact zu (k+1,q.set z d',w) [_,_,_] ⟨a,g,i.set a3⟩ DT (by simp[zy k (by omega)]) rfl (by simp;exact⟨rfl,rfl,rfl⟩)
  ·simp at a;obtain rfl:k=v.length:=DO
   rw[Ai]at hq;rw[hq];refine zC (yh 6 rfl ?_);refine DY ?_;exact DZ hd
open Go Go.Proofs Hp
theorem PlanS.wo{n K:Nat}{p:zH}(h:PlanS n K p)(c:Int):PlanS n K (J7 c p):=by
 refine⟨by unfold J7;rw[List.length_map];exact h.len,λe f=>?_⟩;obtain⟨d,g,rfl⟩:=Al.1 f;obtain⟨g1,i,g3⟩:=h.ok d g;have hl:=Zg7 c d;have hm:∀t∈xQ c d,∃u∈d,t=wM c u:=λt a=>by
  obtain⟨u,b,e⟩:=Al.1 (Bn.1 a).1;exact⟨u,b,e.symm⟩
 refine⟨⟨by have:=g1.n;omega,λt a=>?_,λt a s hs=>?_⟩,?_,by omega⟩
 ·obtain⟨u,b,rfl⟩:=hm t a;exact AF (Zdb c u) (g1.t u b)
 ·obtain⟨u,b,rfl⟩:=hm t a;exact g1.s u b s (Bn.1 hs).1
 grind[ZsW]
structure PlanG (x:Inst) (n:Nat) (p:zH):Prop where
 a:InstA x n
 six:x.cust.length<=6
 len:p.length=n
 may:∀d∈p,yE x d=0
theorem PlanG.m{x:Inst}{n:Nat}{p:zH}(h:PlanG x n p):PlanM x p:=⟨by have:=h.six;omega,h.a.h,by have:=h.len;have:=h.a.n60;omega,h.may⟩
theorem PlanG.s{x:Inst}{n:Nat}{p:zH}(h:PlanG x n p):PlanS n 6 p:=by
 refine⟨h.len,λd a=>?_⟩;obtain⟨h1,h2,h3⟩:=Jg (by have:=h.six;omega) (h.may d a);have:=h.six;exact⟨h3.ok,by omega,by omega⟩
theorem PlanG.serves{x:Inst}{n:Nat}{p:zH}(h:PlanG x n p):Serves x p:=by
 have hs:=h.s;have hn:=h.a.n60;have hl:=hs.len;have g:Wb p<=1000*p.length:=by
  have:∀p:zH,(∀d∈p,d.flatten.length<=1000)->Wb p<=1000*p.length:=by
   intro p
   induction p with
   | nil=>intro _;simp[Wb]
   | cons d p i =>
    intro h;have:=i λe j=>h e (by simp[j])
    have:=h d DP;simp only[Wb,AD,BR,Ae]at *;omega
  exact this p λd b=>by have:=(hs.ok d b).2.1;omega
 refine⟨⟨by omega,λd b=>by have:=(hs.ok d b).2.2;omega,λd b=>(hs.ok d b).1.t,by rw[ZiE];omega⟩,λs c=>?_,by omega⟩;obtain⟨d,b,f⟩:=ZdE p 0 s c;have:=Za2 (h.may d b) s.1 f
 grind[jM]
theorem PlanG.cost{x:Inst}{n:Nat}{p:zH}(h:PlanG x n p):Pure prog 68 [.agg (zE x),.agg [L p]] (I (xI x p)) :=
 Zr9 x p h.serves (by have:=h.six;omega) (λc hc=>(h.a.made c hc).fits) λd b=>(h.s.ok d b).1
theorem PlanG.clone{x:Inst}{n:Nat}{p:zH}(h:PlanG x n p):Pure prog 180 [.agg [L p]] (.agg [L p]):=by
 obtain⟨h1,h2,h3⟩:=h.s.sizes (by have:=h.a.n60;omega) DO;exact Zug p h1 h2 h3
theorem PlanS.open{x:Inst}{n K:Nat}(h:InstA x n)(a:x.cust.length<=6){p:zH}(b:PlanS n K p)(ho:YR x p=true):PlanG x n p :=
 ⟨h,a,b.len,λd c=>by simp_all[YR]⟩
def Zl(cs:List Nat)(p:zH):zH:=cs.foldl (λq (c:Nat)=>J7 c q) p
def Vx(x:Inst)(n:Nat)(st:zH × Bool)(c:Nat):zH × Bool:=if st.2=true then vS x n st.1 c else st
def uP(x:Inst)(n:Nat)(cs:List Nat)(q:zH):zH × Bool:=cs.foldl (Vx x n) (q,true)
def vq(x:Inst)(n:Nat)(p:zH)(cs:List Nat):zH × Bool :=
 if (uP x n cs (Zl cs p)).2=true then
  (if YR x (uP x n cs (Zl cs p)).1=true/\¬xI x p<=xI x (uP x n cs (Zl cs p)).1 then ((uP x n cs (Zl cs p)).1,true) else (p,false))
 else (p,false)
theorem Zeq(x:Inst)(n:Nat)(q:zH):∀cs:List Nat,cs.foldl (Vx x n) (q,false)=(q,false)
 | []=>rfl
 | c :: cs=>by rw[A5];exact Zeq x n q cs
theorem ZjA{x:Inst}{n:Nat}{p:zH}(h:PlanG x n p)(cs:List Nat)(hl:cs.length<=10)(a3:∀c∈cs,c<x.cust.length):Pure prog 251 [.agg (zE x),.agg [L p],L (cs.map λ(c:Nat)=>(c:Int))] (.tup [.agg [L (vq x n p cs).1],B (vq x n p cs).2]):=by
 have hA:=h.a;have h6:=h.six;have c6:=hA.n60;have a0:=h.clone;have b7:=h.s;have j:=h.cost;obtain⟨zs,u⟩:∃zs,zs=cs.map λ(c:Nat)=>(c:Int):=⟨_,rfl⟩
 have a4:zs.length=cs.length:=by rw[u,List.length_map]
 have a5:∀(k c:Nat),cs[k]?=some c->zs[k]?=some (c:Int):=λk c e=>by rw[u,Aj,e];rfl
 have b:vq x n p cs=if (uP x n cs (Zl cs p)).2=true then (if YR x (uP x n cs (Zl cs p)).1=true/\¬xI x p<=xI x (uP x n cs (Zl cs p)).1 then ((uP x n cs (Zl cs p)).1,true) else (p,false)) else (p,false):=rfl
 rw[<-u];clear u;refine zx func251 ntmps251 results251 λS nx v=>?_
 refine DY ?_;intro v0 v1 v2;refine DY ?_;intro v3
 repeat apply ze
 refine zg ?_;refine zn (zK (λs:Nat × zH=>s.1<=zs.length/\s.2=Zl (cs.take s.1) p/\PlanS n 6 s.2) (λ(k,q)=>[(2,L zs),(3,.ptr nx v0 0),(4,.ptr (nx+1) v1 0),(6,.ptr (nx+2) v2 0),(8,.ptr (nx+3) v3 0),(9,B true),(15,L zs),(16,I zs.length),(17,I k)]) (λ(k,q)=>[.cells v0 25 (zE x),.cells v1 30 [L p],.cells v2 30 [yD],.cells v3 30 [L q]]) (λs=>zs.length-s.1) (0,p) [] ⟨by simp,by simp[Zl],b7⟩ DP DP ?_)
 ·rintro⟨k,q⟩ ⟨hk,hq,i⟩;simp only at hk hq i ⊢;refine DY ?_;refine ze (zA rfl (λf=>?_) (λf=>?_))
  ·simp at f;obtain⟨c,hc⟩:∃c,cs[k]?=some c:=⟨_,Ac DO⟩;have a1:=a3 c (Ab hc);obtain⟨z,tl,b1,b2,b3,f0⟩:=zN rfl zs k f;obtain rfl:z=(c:Int):=by have:=a5 k c hc;rw[b1]at this;exact Option.some.inj this
   have a6:=Zi0 x c;rw[show (decide (0<=(c:Int)) && decide ((c:Int)<x.cust.length))=true from by simp;omega]at a6;obtain⟨s1,s2,s3⟩:=i.sizes DO DO;have b8:=ZsV q c s1 (λd v=>by have:=s2 d v;omega) (λd v t ht=>by have:=s3 d v t ht;omega);have a2:J7 c q=Zl (cs.take (k+1)) p:=by
    rw[hq,AC,hc];simp[Zl]
   have w:=i.wo c;have w:=i.wo c;generalize J7 c q=q2 at *;refine zk (ze (zn (ze (zi [] (zq f0 f) ?_))))
   repeat apply ze
   refine zg ?_;refine zv a6 ?_;refine zp DP ?_;refine zk (zg ?_);refine zv b8 ?_;refine zg ?_;exact zu (k+1,q2) [] ⟨f,a2,w⟩ DT (by simp[zy k (by omega)]) rfl DP
  ·simp at f;obtain rfl:k=zs.length:=DO
   rw[a4,Ai]at hq;refine zC ?_
   repeat apply ze
   refine zg ?_;refine zn (zK (λs:Nat × zH=>s.1<=zs.length/\(cs.take s.1).foldl (Vx x n) (q,true)=(s.2,true)/\PlanS n (6+64*s.1) s.2) (λ(k,q)=>[(2,L zs),(3,.ptr nx v0 0),(4,.ptr (nx+1) v1 0),(6,.ptr (nx+2) v2 0),(8,.ptr (nx+3) v3 0),(31,L zs),(32,I zs.length),(33,I k)]) (λ(k,q)=>[.cells v0 25 (zE x),.cells v1 30 [L p],.cells v2 30 [yD],.cells v3 30 [L q]]) (λs=>zs.length-s.1) (0,q) [] ⟨by simp,by simp,i⟩ DP DP ?_);rw[<-hq]at b;clear i hq hk f;rintro⟨k,r⟩ ⟨hk,hr,l⟩;simp only at hk hr l ⊢;refine DY ?_;refine ze (zA rfl (λf=>?_) (λf=>?_))
   ·simp at f;obtain⟨c,hc⟩:∃c,cs[k]?=some c:=⟨_,Ac DO⟩;have a1:=a3 c (Ab hc);obtain⟨z,tl,b1,b2,b3,f0⟩:=zN rfl zs k f;obtain rfl:z=(c:Int):=by have:=a5 k c hc;rw[b1]at this;exact Option.some.inj this
    have y:=Zum hA (K:=6+64*k) DO l c a1;have a7:=Zjz hA (K:=6+64*k) DO l a1;have a8:(cs.take (k+1)).foldl (Vx x n) (q,true)=vS x n r c:=by
     rw[AC,hc,Bx,hr];rfl
    generalize vS x n r c=e at *;obtain⟨r2,ok⟩:=e;simp only at y a7;refine zk (ze (zn (ze (zi [] (zq f0 f) ?_))));refine DY ?_;refine zv y ?_;cases ok with
    | false =>
     have m:uP x n cs q=(r2,false):=by
      unfold uP
      conv=>lhs;rw[<-List.take_append_drop (k+1) cs,Bx,a8,Zeq]
     rw[m,if_neg DP]at b;rw[b];refine DY ?_;refine zo rfl (DY ?_);refine zv a0 ?_;exact DZ v
    | true =>
     refine DY ?_;refine zp rfl (zk (zg ?_));exact zu (k+1,r2) [] ⟨f,a8,by have:=a7 rfl;rw[show 6+64*(k+1)=6+64*k+64 by omega];exact this⟩ DT (by simp[zy k (by omega)]) rfl DP
   ·simp at f;obtain rfl:k=zs.length:=DO
    rw[a4,Ai]at hr;have m:uP x n cs q=(r,true):=hr;rw[m,if_pos rfl]at b;have o:=Zuk x r (n:=n) (K:=6+64*zs.length) DO DO DO l;refine zC ?_;cases ho:YR x r with
    | false =>
     rw[ho]at o;rw[ho,if_neg DP]at b;rw[b]
     repeat apply ze
     refine zD (some [nx,nx+1,nx+3]) (Row.pures [0,1,2,3,4,5,6,7,8,9,10,11,12] .done) mixed zB ?_;refine zO (o) zB ?_;refine zo rfl (DY ?_);refine zv a0 ?_;exact DZ v
    | true =>
     rw[ho]at o;have a9:=(l.open hA h6 ho).cost;generalize xI x r=z2 at *;generalize xI x p=z1 at *
     by_cases g:z1<=z2
     ·rw[if_neg (λq=>q.2 g)]at b;rw[b]
      repeat apply ze
      refine zD (some [nx,nx+1,nx+3]) (Row.pures [0,1,2,3,4,5,6,7,8,9,10,11,12] .done) mixed g ?_;refine zO (o) g ?_;refine zO (a9) g ?_;refine zO (j) g ?_;refine zo rfl (DY ?_);refine zv a0 ?_;exact DZ v
     ·rw[if_pos ⟨ho,g⟩]at b;rw[b]
      repeat apply ze
      refine zD (some [nx,nx+1,nx+3]) (Row.pures [0,1,2,3,4,5,6,7,8,9,10,11,12] .done) mixed g ?_;refine zO (o) g ?_;refine zO (a9) g ?_;refine zO (j) g ?_;refine zp rfl (zk (DY ?_));exact DZ v
theorem Zun{x:Inst}{n:Nat}{p:zH}(h:PlanG x n p)(c:Nat)(hc:c<x.cust.length):Pure prog 214 [.agg (zE x),.agg [L p],I c] (.tup [.agg [L (vq x n p [c]).1],B (vq x n p [c]).2]):=by
 have a:=ZjA h [c] DP (by simpa using hc);simp only[AD,Bp]at a;refine zx func214 ntmps214 results214 λS nx b=>?_
 refine DY ?_;intro v0 v1 d;refine DY ?_;refine zv a ?_;exact DZ b
def ZH(x:Inst)(n:Nat)(p:zH)(a b:Nat):zH × Bool:=if a=b then (p,false) else vq x n p [a,b]
theorem Zuo{x:Inst}{n:Nat}{p:zH}(h:PlanG x n p)(a b:Nat)(f:a<x.cust.length)(hb:b<x.cust.length):Pure prog 215 [.agg (zE x),.agg [L p],I a,I b] (.tup [.agg [L (ZH x n p a b).1],B (ZH x n p a b).2]):=by
 have d:=h.clone;unfold ZH
 by_cases c:a=b
 ·rw[if_pos c];refine zx func215 ntmps215 results215 λS nx e=>?_
  refine DY ?_;intro v0 v1 g
  repeat apply ze
  refine zg ?_;refine zo (by simp[c]) ?_;refine DY ?_;refine zv d ?_;exact DZ e
 ·rw[if_neg c];have hn:=ZjA h [a,b] DP (by simpa using ⟨f,hb⟩);simp only[AD,Bp]at hn;refine zx func215 ntmps215 results215 λS nx e=>?_
  refine DY ?_;intro v0 v1 g
  repeat apply ze
  refine zg ?_;refine zp DT ?_;refine zk (DY ?_);refine zv hn ?_;exact DZ e
theorem ZjB{x:Inst}{n:Nat}(h:InstA x n):∀(cs:List Nat) (K:Nat) (q:zH),(∀c∈cs,c<x.cust.length)->K+64*cs.length<=1000->PlanS n K q->(uP x n cs q).2=true->PlanS n (K+64*cs.length) (uP x n cs q).1
 | [],K,q,_,_,b,_=>b
 | c :: cs,K,q,hc,f,b,a=>by
  rw[Ae]at f ⊢;have e:uP x n (c :: cs) q=cs.foldl (Vx x n) (vS x n q c):=rfl;rw[e]at a ⊢;cases ho:(vS x n q c).2 with
  | false =>
   have:vS x n q c=((vS x n q c).1,false):=by rw[<-ho]
   rw[this,Zeq]at a;cases a
  | true =>
   have h1:=Zjz h DO b (hc c DP) ho;have:vS x n q c=((vS x n q c).1,true):=by rw[<-ho]
   rw[this]at a ⊢;have:=ZjB h cs (K+64) _ (λc d=>hc c (by simp[d])) DO h1 a;rw[show K+64*(cs.length+1)=K+64+64*cs.length by omega];exact this
theorem ZjC{n K:Nat}:∀(cs:List Nat) (p:zH),PlanS n K p->PlanS n K (Zl cs p)
 | [],_,h=>h
 | c :: cs,p,h=>ZjC cs _ (h.wo c)
theorem Zer{x:Inst}{n:Nat}{p:zH}(h:PlanG x n p)(cs:List Nat)(hl:cs.length<=10)(b:∀c∈cs,c<x.cust.length):PlanG x n (vq x n p cs).1/\xI x (vq x n p cs).1<=xI x p:=by
 unfold vq;split
 ·rename_i h1;split
  ·rename_i h2;exact⟨(ZjB h.a cs 6 _ b DO (ZjC cs p h.s) h1).open h.a h.six h2.1,by have:=h2.2;dsimp only;omega⟩
  ·exact⟨h,De _⟩
 ·exact⟨h,De _⟩
theorem ZjD{x:Inst}{n:Nat}{p:zH}(h:PlanG x n p)(a b:Nat)(c:a<x.cust.length)(hb:b<x.cust.length):PlanG x n (ZH x n p a b).1/\xI x (ZH x n p a b).1<=xI x p:=by
 unfold ZH;split
 ·exact⟨h,De _⟩
 ·exact Zer h [a,b] DP (by simpa using ⟨c,hb⟩)
open Go Go.Proofs Hp
theorem Zup(op:BinOp)(x y:Int):0<=bits op .u64 x y/\bits op .u64 x y<18446744073709551616:=by
 have h:=wf_bits op .u64 x y;simp[Lit.wf,IntKind.min,IntKind.max,IntKind.signed,IntKind.bits]at h;omega
abbrev xK(s:Int):List PV:=[.sc (.int .u64 s)]
def yQ(s:Int):Int:=IntKind.u64.wrap (s+11400714819323198485)
def Jk(s:Int):Int :=
 let a:=yQ s
 let b:=IntKind.u64.wrap (bits .xor .u64 a (a.fdiv (2 ^ 30))*13787848793156543929)
 let c:=IntKind.u64.wrap (bits .xor .u64 b (b.fdiv (2 ^ 27))*10723151780598845931)
 bits .xor .u64 c (c.fdiv (2 ^ 31))
theorem Zuq(s:Int):0<=Jk s/\Jk s<18446744073709551616:=by unfold Jk;exact Zup _ _ _
theorem YS{S:Store}{nx id:Nat}(a:yd nx S)(b:id<nx)(o:Ob):yd nx (S.set id o):=λi hi=>by rw[q10 _ _ _ _ DO];exact a i hi
theorem Zur:IntKind.u64.bits=64:=rfl
theorem Zus(s:Int){S:Store}{id v:Nat}(b:S id=.cells v 179 (xK s)):Spec prog 126 [.ptr id v 0] S (λq S'=>q=.sc (.int .u64 (Jk s))/\S'=S.set id (.cells v 179 (xK (yQ s)))):=by
 refine yt func126 ntmps126 results126 λnx c=>?_
 have a:id<nx:=qi c b DP;have d:=λobs=>(zJ (S:=S) (obs:=obs) a).trans b
 have e:=λ(o:Ob) obs=>(zJ (S:=S.set id o) (obs:=obs) a).trans (q11 _ _ _)
 have g1:¬nx<=id:=DO
 refine DY ?_;refine ze (zi [] (zq d g1) ?_);refine ze (zi [] (zq e g1) ?_);refine DY ?_;refine DY ?_;refine DY ?_;exact zj ⟨_,_,rfl,⟨by simp[zr,Jk,yQ,Zur],rfl⟩,yb (YS c a _)⟩
def xz(s:Int)(n:Nat):Nat:=(Jk s).toNat % n
theorem J9(s:Int){n:Nat}(h:0<n):xz s n<n:=Nat.mod_lt _ h
theorem Vy(s:Int)(n:Nat)(h0:0<n)(hn:n<=4611686018427387904){S:Store}{id v:Nat}(c:S id=.cells v 179 (xK s)):Spec prog 81 [.ptr id v 0,I n] S (λq S'=>q=I (xz s n)/\S'=S.set id (.cells v 179 (xK (yQ s)))):=by
 have hb:=Zuq s;have g:=J9 s h0;have d:(Jk s).tmod (n:Int)=(xz s n:Int):=by
  unfold xz;obtain⟨m,hm⟩:=Ay hb.1;rw[hm,AN,Be DO];omega
 have e:IntKind.u64.wrap (n:Int)=n:=by rw[IntWalk.u64_in _ DO]
 have w2:IntKind.i64.wrap (xz s n:Int)=xz s n:=wr _ DO DO;have h:=λ(S:Store) c=>Zus s (S:=S) (id:=id) (v:=v) c
 generalize Jk s=r at *;generalize xz s n=k at *;refine yt func81 ntmps81 results81 λnx f=>?_
 have a:id<nx:=qi f c DP;have i:=λobs=>(zJ (S:=S) (obs:=obs) a).trans c
 refine DY ?_
 repeat apply ze
 refine zg ?_;refine zp DT ?_;refine zk (ze (zi [] (zF e d w2) ?_));refine λb=>((h _ (i _)).mono ?_).v
 rintro _ _ ⟨rfl,rfl⟩;refine⟨S.set id (.cells v 179 (xK (yQ s))),[],qq _ a,?_⟩;have j:¬n=0:=DO
 refine xl [] (zS e d w2 j) b ?_;exact zj ⟨_,_,rfl,⟨by simp[zr],rfl⟩,yb (YS f a _)⟩
theorem ZjE(s:Int){S:Store}{nx:Nat}(a:yd nx S):Spec prog 78 [I s] S (λq S'=>∃v,q=.ptr nx v 0/\S'=S.set nx (.cells v 179 (xK (IntKind.u64.wrap s)))):=by
 refine Zv a func78 ntmps78 results78 ?_;refine DY ?_;refine DY ?_;intro v0;exact zj ⟨_,_,rfl,⟨v0,by simp[zr],rfl⟩,JD (j:=0) a DP⟩
open Go Go.Proofs Hp
abbrev Xa(x:Inst)(p:zH)(a o d:Nat)(b:Int):List PV:=[I x.days,I x.veh,I x.cap,I x.len,L x.cust,L x.dist,L p,I a,I o,I d,I b]
theorem Zut{x:Inst}{n:Nat}{p:zH}(h:PlanG x n p)(d:Nat)(b:Int):PlanG x n (ur x p d b).1:=by
 unfold ur;split
 ·exact h
 ·split
  ·exact h
  ·refine⟨h.a,h.six,by rw[BJ];exact h.len,λe f=>?_⟩;rcases Bv f with q | q
   ·exact h.may e q
   ·rw[q];rename_i h1 h2;have c:(d:Int).toNat<p.length:=DO
    refine(Zjy (by have:=h.six;omega) h.a.h (h.may _ ?_) b).1;rw[Aa,Ac c];exact Bc c
theorem Zuu{x:Inst}{n:Nat}{p:zH}(h:PlanG x n p)(a o d:Nat)(b:Int)(j:a<x.cust.length){S:Store}{id v:Nat}(e:S id=.cells v 245 (Xa x p a o d b)):
  Spec prog 181 [.ptr id v 0] S (λ_ S'=>S'=S.set id (.cells v 245 (Xa x (vq x n p [a]).1 a o d b))):=by
 have f:=Zun h a j;generalize vq x n p [a]=r at *;obtain⟨q,ok⟩:=r;simp only at f ⊢;refine yt func181 ntmps181 results181 λnx g=>?_
 have c:id<nx:=qi g e DP;have i:=λobs=>(zJ (S:=S) (obs:=obs) c).trans e
 have g1:¬nx<=id:=DO
 refine zD (some []) (Row.pures [0,1,2,3,5,6,7,9,10,11] (.alt 4 (.alt 8 (.alt 12 (Row.pures [13,14,15,16,17,18] (.alt 19 (.done) .stop)) .stop) (.alt 12 (.alt 8 (Row.pures [13,14,15,16,17,18] (.alt 19 (.done) .stop)) .stop) .stop)) (.alt 8 (.alt 4 (.alt 12 (Row.pures [13,14,15,16,17,18] (.alt 19 (.done) .stop)) .stop) (.alt 12 (.alt 4 (Row.pures [13,14,15,16,17,18] (.alt 19 (.done) .stop)) .stop) .stop)) (.alt 12 (.alt 4 (.alt 8 (Row.pures [13,14,15,16,17,18] (.alt 19 (.done) .stop)) .stop) (.alt 8 (.alt 4 (Row.pures [13,14,15,16,17,18] (.alt 19 (.done) .stop)) .stop) .stop)) .stop)))) mixed (zq i g1) ?_
 repeat' refine And.intro ?_ ?_
 all_goals
  refine zO (f) (zq i g1) ?_;exact⟨_,_,rfl,by simp,yb (YS g c _)⟩
theorem Zuv{x:Inst}{n:Nat}{p:zH}(h:PlanG x n p)(a o d:Nat)(b:Int)(j:a<x.cust.length)(ho:o<x.cust.length){S:Store}{id v:Nat}(e:S id=.cells v 245 (Xa x p a o d b)):
  Spec prog 182 [.ptr id v 0] S (λ_ S'=>S'=S.set id (.cells v 245 (Xa x (ZH x n p a o).1 a o d b))):=by
 have f:=Zuo h a o j ho;generalize ZH x n p a o=r at *;obtain⟨q,ok⟩:=r;simp only at f ⊢;refine yt func182 ntmps182 results182 λnx g=>?_
 have c:id<nx:=qi g e DP;have i:=λobs=>(zJ (S:=S) (obs:=obs) c).trans e
 have g1:¬nx<=id:=DO
 refine zD (some []) (Row.pures [0,1,2,3,5,6,7,9,10,11,13,14,15] (.alt 4 (.alt 8 (.alt 12 (.alt 16 (Row.pures [17,18,19,20,21,22] (.alt 23 (.done) .stop)) .stop) (.alt 16 (.alt 12 (Row.pures [17,18,19,20,21,22] (.alt 23 (.done) .stop)) .stop) .stop)) (.alt 12 (.alt 8 (.alt 16 (Row.pures [17,18,19,20,21,22] (.alt 23 (.done) .stop)) .stop) (.alt 16 (.alt 8 (Row.pures [17,18,19,20,21,22] (.alt 23 (.done) .stop)) .stop) .stop)) (.alt 16 (.alt 8 (.alt 12 (Row.pures [17,18,19,20,21,22] (.alt 23 (.done) .stop)) .stop) (.alt 12 (.alt 8 (Row.pures [17,18,19,20,21,22] (.alt 23 (.done) .stop)) .stop) .stop)) .stop))) (.alt 8 (.alt 4 (.alt 12 (.alt 16 (Row.pures [17,18,19,20,21,22] (.alt 23 (.done) .stop)) .stop) (.alt 16 (.alt 12 (Row.pures [17,18,19,20,21,22] (.alt 23 (.done) .stop)) .stop) .stop)) (.alt 12 (.alt 4 (.alt 16 (Row.pures [17,18,19,20,21,22] (.alt 23 (.done) .stop)) .stop) (.alt 16 (.alt 4 (Row.pures [17,18,19,20,21,22] (.alt 23 (.done) .stop)) .stop) .stop)) (.alt 16 (.alt 4 (.alt 12 (Row.pures [17,18,19,20,21,22] (.alt 23 (.done) .stop)) .stop) (.alt 12 (.alt 4 (Row.pures [17,18,19,20,21,22] (.alt 23 (.done) .stop)) .stop) .stop)) .stop))) (.alt 12 (.alt 4 (.alt 8 (.alt 16 (Row.pures [17,18,19,20,21,22] (.alt 23 (.done) .stop)) .stop) (.alt 16 (.alt 8 (Row.pures [17,18,19,20,21,22] (.alt 23 (.done) .stop)) .stop) .stop)) (.alt 8 (.alt 4 (.alt 16 (Row.pures [17,18,19,20,21,22] (.alt 23 (.done) .stop)) .stop) (.alt 16 (.alt 4 (Row.pures [17,18,19,20,21,22] (.alt 23 (.done) .stop)) .stop) .stop)) (.alt 16 (.alt 4 (.alt 8 (Row.pures [17,18,19,20,21,22] (.alt 23 (.done) .stop)) .stop) (.alt 8 (.alt 4 (Row.pures [17,18,19,20,21,22] (.alt 23 (.done) .stop)) .stop) .stop)) .stop))) (.alt 16 (.alt 4 (.alt 8 (.alt 12 (Row.pures [17,18,19,20,21,22] (.alt 23 (.done) .stop)) .stop) (.alt 12 (.alt 8 (Row.pures [17,18,19,20,21,22] (.alt 23 (.done) .stop)) .stop) .stop)) (.alt 8 (.alt 4 (.alt 12 (Row.pures [17,18,19,20,21,22] (.alt 23 (.done) .stop)) .stop) (.alt 12 (.alt 4 (Row.pures [17,18,19,20,21,22] (.alt 23 (.done) .stop)) .stop) .stop)) (.alt 12 (.alt 4 (.alt 8 (Row.pures [17,18,19,20,21,22] (.alt 23 (.done) .stop)) .stop) (.alt 8 (.alt 4 (Row.pures [17,18,19,20,21,22] (.alt 23 (.done) .stop)) .stop) .stop)) .stop))) .stop))))) mixed (zq i g1) ?_
 repeat' refine And.intro ?_ ?_
 all_goals
  refine zO (f) (zq i g1) ?_;exact⟨_,_,rfl,by simp,yb (YS g c _)⟩
theorem Zuw{x:Inst}{n:Nat}{p:zH}(h:PlanG x n p)(a o d:Nat)(b:Int)(hb:b<=9223372036854775807){S:Store}{id v:Nat}(e:S id=.cells v 245 (Xa x p a o d b)):
  Spec prog 183 [.ptr id v 0] S (λ_ S'=>S'=S.set id (.cells v 245 (Xa x (ur x p d b).1 a o d b))):=by
 have f:=Zui h.m d b hb;generalize ur x p d b=r at *;obtain⟨q,ok⟩:=r;simp only at f ⊢;refine yt func183 ntmps183 results183 λnx g=>?_
 have c:id<nx:=qi g e DP;have i:=λobs=>(zJ (S:=S) (obs:=obs) c).trans e
 have g1:¬nx<=id:=DO
 refine zD (some []) (Row.pures [0,1,2,3,5,6,7,9,10,11,13,14,15] (.alt 4 (.alt 8 (.alt 12 (.alt 16 (Row.pures [17,18,19,20,21,22] (.alt 23 (.done) .stop)) .stop) (.alt 16 (.alt 12 (Row.pures [17,18,19,20,21,22] (.alt 23 (.done) .stop)) .stop) .stop)) (.alt 12 (.alt 8 (.alt 16 (Row.pures [17,18,19,20,21,22] (.alt 23 (.done) .stop)) .stop) (.alt 16 (.alt 8 (Row.pures [17,18,19,20,21,22] (.alt 23 (.done) .stop)) .stop) .stop)) (.alt 16 (.alt 8 (.alt 12 (Row.pures [17,18,19,20,21,22] (.alt 23 (.done) .stop)) .stop) (.alt 12 (.alt 8 (Row.pures [17,18,19,20,21,22] (.alt 23 (.done) .stop)) .stop) .stop)) .stop))) (.alt 8 (.alt 4 (.alt 12 (.alt 16 (Row.pures [17,18,19,20,21,22] (.alt 23 (.done) .stop)) .stop) (.alt 16 (.alt 12 (Row.pures [17,18,19,20,21,22] (.alt 23 (.done) .stop)) .stop) .stop)) (.alt 12 (.alt 4 (.alt 16 (Row.pures [17,18,19,20,21,22] (.alt 23 (.done) .stop)) .stop) (.alt 16 (.alt 4 (Row.pures [17,18,19,20,21,22] (.alt 23 (.done) .stop)) .stop) .stop)) (.alt 16 (.alt 4 (.alt 12 (Row.pures [17,18,19,20,21,22] (.alt 23 (.done) .stop)) .stop) (.alt 12 (.alt 4 (Row.pures [17,18,19,20,21,22] (.alt 23 (.done) .stop)) .stop) .stop)) .stop))) (.alt 12 (.alt 4 (.alt 8 (.alt 16 (Row.pures [17,18,19,20,21,22] (.alt 23 (.done) .stop)) .stop) (.alt 16 (.alt 8 (Row.pures [17,18,19,20,21,22] (.alt 23 (.done) .stop)) .stop) .stop)) (.alt 8 (.alt 4 (.alt 16 (Row.pures [17,18,19,20,21,22] (.alt 23 (.done) .stop)) .stop) (.alt 16 (.alt 4 (Row.pures [17,18,19,20,21,22] (.alt 23 (.done) .stop)) .stop) .stop)) (.alt 16 (.alt 4 (.alt 8 (Row.pures [17,18,19,20,21,22] (.alt 23 (.done) .stop)) .stop) (.alt 8 (.alt 4 (Row.pures [17,18,19,20,21,22] (.alt 23 (.done) .stop)) .stop) .stop)) .stop))) (.alt 16 (.alt 4 (.alt 8 (.alt 12 (Row.pures [17,18,19,20,21,22] (.alt 23 (.done) .stop)) .stop) (.alt 12 (.alt 8 (Row.pures [17,18,19,20,21,22] (.alt 23 (.done) .stop)) .stop) .stop)) (.alt 8 (.alt 4 (.alt 12 (Row.pures [17,18,19,20,21,22] (.alt 23 (.done) .stop)) .stop) (.alt 12 (.alt 4 (Row.pures [17,18,19,20,21,22] (.alt 23 (.done) .stop)) .stop) .stop)) (.alt 12 (.alt 4 (.alt 8 (Row.pures [17,18,19,20,21,22] (.alt 23 (.done) .stop)) .stop) (.alt 8 (.alt 4 (Row.pures [17,18,19,20,21,22] (.alt 23 (.done) .stop)) .stop) .stop)) .stop))) .stop))))) mixed (zq i g1) ?_
 repeat' refine And.intro ?_ ?_
 all_goals
  refine zO (f) (zq i g1) ?_;exact⟨_,_,rfl,by simp,yb (YS g c _)⟩
open Go Go.Proofs Hp
def Qp(x:Inst)(n:Nat)(p:zH)(s b:Int):zH :=
 if x.cust.length=0 then p else
  (ur x (ZH x n (vq x n p [xz s x.cust.length]).1 (xz s x.cust.length) (xz (yQ s) x.cust.length)).1 (xz (yQ (yQ s)) n) b).1
def Xb(x:Inst)(s:Int):Int:=if x.cust.length=0 then s else yQ (yQ (yQ s))
theorem Zux{x:Inst}{n:Nat}{p:zH}(h:PlanG x n p)(s b:Int):PlanG x n (Qp x n p s b):=by
 unfold Qp;split
 ·exact h
 ·rename_i h0;have a:=J9 s (n:=x.cust.length) DO;have ho:=J9 (yQ s) (n:=x.cust.length) DO;exact Zut (ZjD (Zer h _ DP (by simpa using a)).1 _ _ a ho).1 _ _
def Jl(p q1 q2 q3:zH)(k:Nat):zH:=if k=0 then p else if k=1 then q1 else if k=2 then q2 else q3
theorem ZjF(p a b c:zH):Jl p a b c 0=p:=if_pos rfl
theorem ZjG(p a b c:zH):Jl p a b c 1=a:=by unfold Jl;rw[if_neg DV,if_pos rfl]
theorem ZjH(p b a c:zH):Jl p b a c 2=a:=by unfold Jl;rw[if_neg DV,if_neg DV,if_pos rfl]
theorem ZjI(p b c a:zH):Jl p b c a 3=a:=by unfold Jl;rw[if_neg DV,if_neg DV,if_neg DV]
theorem Zuy{x:Inst}{n:Nat}{p:zH}(h:PlanG x n p)(a4:0<n)(s b:Int)(hb:b<=9223372036854775807){S:Store}{id v:Nat}(g:S id=.cells v 179 (xK s)):
  Spec prog 129 [.agg (zE x),.agg [L p],.ptr id v 0,I b] S (λq S'=>q=.agg [L (Qp x n p s b)]/\S'=S.set id (.cells v 179 (xK (Xb x s)))):=by
 have t:=h.clone;have h6:=h.six;have a5:=h.a.days;have a9:=h.a.n60
 by_cases hm:x.cust.length=0
 ·have e1:Qp x n p s b=p:=by unfold Qp;rw[if_pos hm]
  have e2:Xb x s=s:=by unfold Xb;rw[if_pos hm]
  rw[e1,e2];refine yt func129 ntmps129 results129 λnx u=>?_
  have f:id<nx:=qi u g DP;refine DY ?_;intro v0 v1 v2;refine ze (zD (some [nx,nx+1]) (Row.pures [0,1,2,3,4] (.alt 5 (Row.pures [6] .done) .stop)) mixed trivial ?_);refine zO (t) trivial ?_;intro v3;refine DY ?_
  repeat apply ze
  refine zg ?_;refine zo (by simp[Cq.1 hm]) ?_;refine DY ?_;have eS:S.set id (.cells v 179 (xK s))=S:=by
   rw[<-g];funext i
   by_cases hi:i=id
   ·subst hi;exact q11 _ _ _
   ·exact q10 _ _ _ _ hi
  rw[eS];exact zj ⟨_,S,DQ,⟨by simp[zr],rfl⟩,yb u⟩
 have e1:Qp x n p s b=(ur x (ZH x n (vq x n p [xz s x.cust.length]).1 (xz s x.cust.length) (xz (yQ s) x.cust.length)).1 (xz (yQ (yQ s)) n) b).1:=by unfold Qp;rw[if_neg hm]
 have e2:Xb x s=yQ (yQ (yQ s)):=by unfold Xb;rw[if_neg hm]
 rw[e1,e2];have ha:=J9 s (n:=x.cust.length) DO;have ho:=J9 (yQ s) (n:=x.cust.length) DO;have b7:=J9 (yQ (yQ s)) a4;have b1:=λ(S:Store) g=>Vy s x.cust.length DO DO (S:=S) (id:=id) (v:=v) g
 have b2:=λ(S:Store) g=>Vy (yQ s) x.cust.length DO DO (S:=S) (id:=id) (v:=v) g
 have b3:=λ(S:Store) g=>Vy (yQ (yQ s)) n DO DO (S:=S) (id:=id) (v:=v) g
 rw[<-a5]at b3;have r:PlanG x n (vq x n p [xz s x.cust.length]).1:=(Zer h _ DP (by simpa using ha)).1;have y:=(ZjD r _ _ ha ho).1;generalize xz s x.cust.length=a at *;generalize xz (yQ s) x.cust.length=o at *;generalize xz (yQ (yQ s)) n=d at *;generalize yQ (yQ s)=s2 at *;generalize yQ s=s1 at *;generalize yQ s2=s3 at *;have r1:=λ(S:Store) (i w:Nat) g=>Zuu h a o d b ha (S:=S) (id:=i) (v:=w) g
 have r2:=λ(S:Store) (i w:Nat) g=>Zuv r a o d b ha ho (S:=S) (id:=i) (v:=w) g
 have r3:=λ(S:Store) (i w:Nat) g=>Zuw y a o d b hb (S:=S) (id:=i) (v:=w) g
 clear r y;generalize (ur x (ZH x n (vq x n p [a]).1 a o).1 d b).1=q3 at *;generalize (ZH x n (vq x n p [a]).1 a o).1=q2 at *;generalize (vq x n p [a]).1=q1 at *;clear e1 e2;refine yt func129 ntmps129 results129 λnx u=>?_
 have f:id<nx:=qi u g DP;have xw:=λobs=>(zJ (S:=S) (obs:=obs) f).trans g
 refine DY ?_;intro v0 v1 v2;refine ze (zD (some [nx,nx+1]) (Row.pures [0,1,2,3,4] (.alt 5 (Row.pures [6] .done) .stop)) mixed trivial ?_);refine zO (t) trivial ?_;intro v3;refine DY ?_
 repeat apply ze
 refine zg ?_;have a6:¬x.cust=[]:=λe=>hm (by rw[e];rfl)
 refine zp (by simp[a6]) ?_;refine zk (DY ?_);refine λc=>((b1 _ (xw _)).mono ?_).v
 rintro _ _ ⟨rfl,rfl⟩;refine⟨_,_,qq _ f,zR c ?_⟩;have z:(S.set id (.cells v 179 (xK s1))) id=.cells v 179 (xK s1):=q11 _ _ _;have a0:=YS u f (.cells v 179 (xK s1));obtain⟨S1,j⟩:∃S1,S1=S.set id (.cells v 179 (xK s1)):=⟨_,rfl⟩;rw[<-j]at z a0 ⊢;have a7:=λobs=>(zJ (S:=S1) (obs:=obs) f).trans z
 refine DY ?_;refine λc=>((b2 _ (a7 _)).mono ?_).v
 rintro _ _ ⟨rfl,rfl⟩;refine⟨_,_,qq _ f,zR c ?_⟩;have a1:(S1.set id (.cells v 179 (xK s2))) id=.cells v 179 (xK s2):=q11 _ _ _;have a2:=YS a0 f (.cells v 179 (xK s2));obtain⟨S2,l⟩:∃S2,S2=S1.set id (.cells v 179 (xK s2)):=⟨_,rfl⟩;rw[<-l]at a1 a2 ⊢;have a8:=λobs=>(zJ (S:=S2) (obs:=obs) f).trans a1
 refine DY ?_;refine λc=>((b3 _ (a8 _)).mono ?_).v
 rintro _ _ ⟨rfl,rfl⟩;refine⟨_,_,qq _ f,zR c ?_⟩;have a3:=YS a2 f (.cells v 179 (xK s3));obtain⟨S3,m⟩:∃S3,S3=S2.set id (.cells v 179 (xK s3)):=⟨_,rfl⟩;rw[<-m]at a3 ⊢
 repeat apply ze
 refine zg ?_;refine zn (zK (λk:Nat=>k<=3) (λk=>[(8,.ptr (nx+2) v2 0),(9,.ptr (nx+3) v3 0),(53,.lst 3 [.fn (.func 181) [.ptr (nx+3) v3 0] [],.fn (.func 182) [.ptr (nx+3) v3 0] [],.fn (.func 183) [.ptr (nx+3) v3 0] []]),(54,I 3),(55,I k)]) (λk=>[.cells v0 25 (zE x),.cells v1 30 [L p],.cells v2 30 [yD],.cells v3 245 (Xa x (Jl p q1 q2 q3 k) a o d b)]) (λk=>3-k) 0 [] DP DP (by simp[ZjF]) ?_);rintro k hk;refine DY ?_;refine ze (zA rfl (λhc=>?_) (λhc=>?_))
 ·simp at hc;refine zk (ze (zn ?_));obtain rfl | rfl | rfl:k=0\/k=1\/k=2:=DO
  ·refine DY ?_;refine zg ?_;refine λc=>((r1 _ (nx+3) v3 (by rw[zY];simp[ZjF])).mono ?_).v
   rintro _ _ rfl;refine⟨S3,_,(by rw[yl _ (by omega) (by simp),AI]),zR c ?_⟩;refine zg ?_;exact zu 1 [] DO DO (by simp;exact wr 1 (by omega) (by omega)) rfl (by simp[ZjG])
  ·refine DY ?_;refine zg ?_;refine λc=>((r2 _ (nx+3) v3 (by rw[zY];simp[ZjG])).mono ?_).v
   rintro _ _ rfl;refine⟨S3,_,(by rw[yl _ (by omega) (by simp),AI]),zR c ?_⟩;refine zg ?_;exact zu 2 [] DO DO (by simp;exact wr 2 (by omega) (by omega)) rfl (by simp[ZjH])
  ·refine DY ?_;refine zg ?_;refine λc=>((r3 _ (nx+3) v3 (by rw[zY];simp[ZjH])).mono ?_).v
   rintro _ _ rfl;refine⟨S3,_,(by rw[yl _ (by omega) (by simp),AI]),zR c ?_⟩;refine zg ?_;exact zu 3 [] DO DO (by simp;exact wr 3 (by omega) (by omega)) rfl (by simp[ZjI])
 ·simp at hc;obtain rfl:k=3:=DO
  refine zC ?_;rw[ZjI];refine DY ?_;have eS:S.set id (.cells v 179 (xK s3))=S3:=by rw[m,l,j,Store.set_set,Store.set_set]
  rw[eS];exact zj ⟨_,S3,DQ,⟨by simp[zr],rfl⟩,yb a3⟩
open Go Go.Proofs Hp
def wQ(x:Inst)(n:Nat)(b:Int)(p:zH)(s:Int):Nat->zH × Int
 | 0=>(p,s)
 | k+1=>(Qp x n (wQ x n b p s k).1 (wQ x n b p s k).2 b,Xb x (wQ x n b p s k).2)
def YT(x:Inst)(n:Nat)(b:Int)(p:zH)(s:Int)(k:Nat):List zH:=(List.range (k+1)).map λi=>(wQ x n b p s i).1
theorem Zuz(x:Inst)(n:Nat)(b:Int)(p:zH)(s:Int):YT x n b p s 0=[p]:=rfl
theorem ZjJ(x:Inst)(n:Nat)(b:Int)(p:zH)(s:Int)(k:Nat):YT x n b p s (k+1)=YT x n b p s k++[(wQ x n b p s (k+1)).1]:=by
 unfold YT;rw[AO,List.map_append];rfl
theorem ZuA(x:Inst)(n:Nat)(b:Int)(p:zH)(s:Int)(k:Nat):(YT x n b p s k).length=k+1:=by simp[YT]
theorem Zes{x:Inst}{n:Nat}{p:zH}(h:PlanG x n p)(b s:Int):∀k,PlanG x n (wQ x n b p s k).1
 | 0=>h
 | k+1=>Zux (Zes h b s k) _ _
abbrev Xc(seed r b cl:Int):List PV:=[I seed,I r,I b,I cl]
theorem ZuB{x:Inst}{n:Nat}(hA:InstA x n)(o:0<n)(g:∀b,(xx x b).2=0->PlanG x n (xx x b).1)(a:Int)(r:Nat)(hr:r<=1000)(b:Int)(hb:b<=9223372036854775807)(cl:Int)(fn:FuncId)(cs:List PV){S:Store}(St:List zH->Store)(s:St []=S)
  (f:∀nx,yd nx S->∀h,yd nx (St h))
  (d:∀nx,yd nx S->∀(h:List zH) (p:zH) (obs:List Ob),h.length<=1001->PlanG x n p->Spec prog fn ([.agg [L p]]++cs) (ext (St h) nx obs) (λ_ S'=>S'=ext (St (h++[p])) nx obs)) :
  Spec prog 84 [.agg (zE x),.agg (Xc a r b cl),.fn (.func fn) [] cs] S (λq S'=>q=I (xx x b).2/\S'=St (if (xx x b).2=0 then YT x n b (xx x b).1 (IntKind.u64.wrap a) r else [])):=by
 subst s;have j:=ZsS hA hb;have g:=g b;generalize xx x b=st at *;obtain⟨i,e⟩:=st;simp only at j g ⊢;refine yt func84 ntmps84 results84 λnx t=>?_
 have d:=d nx t;have f:=f nx t;refine DY ?_;intro v0 v1;refine DY ?_;refine zv j ?_;intro v2
 by_cases u:e=0
 case neg =>
  rw[if_neg u]
  repeat apply ze
  refine zg ?_;refine zo (by simp[u]) ?_;refine DY ?_;exact zj ⟨_,_,rfl,⟨by simp[zr],rfl⟩,yb t⟩
 subst u;rw[if_pos rfl];have hG:=g rfl;have hit:=Zes hG b (IntKind.u64.wrap a)
 repeat apply ze
 refine zg ?_;refine zp DP ?_;refine zk (DY ?_);refine λc=>((d [] i _ DP hG).mono ?_).v
 rintro _ _ rfl;refine⟨_,_,rfl,zR c ?_⟩;refine DY ?_;refine λc=>((ZjE a xB).mono ?_).v
 rintro _ _ ⟨v3,rfl,rfl⟩;refine⟨_,_,jr _,zR c ?_⟩
 repeat apply ze
 refine zg ?_;have hz:YT x n b i (IntKind.u64.wrap a) 0=[]++[i]:=rfl;generalize IntKind.u64.wrap a=s0 at *;refine zn (jX (σ:=Nat) (λk=>k<=r) (λk=>[(2,.fn (.func fn) [] cs),(3,.ptr nx v0 0),(4,.ptr (nx+1) v1 0),(7,.ptr (nx+2) v2 0),(9,.ptr (nx+3) v3 0),(27,I r),(28,I k)]) (λk=>St (YT x n b i s0 k)) (λk=>[.cells v0 25 (zE x),.cells v1 65 (Xc a r b cl),.cells v2 30 [L (wQ x n b i s0 k).1],.cells v3 179 (xK (wQ x n b i s0 k).2)]) (λk=>r-k) (zZ 0 [] DP DP (by rw[Zuz]) (by simp[wQ])) ?_);rintro k hk;have w:=hit k;have y:=hit (k+1);have l:=λ(S:Store) (id v:Nat) hS=>Zuy w o (wQ x n b i s0 k).2 b hb (S:=S) (id:=id) (v:=v) hS
 have z:Qp x n (wQ x n b i s0 k).1 (wQ x n b i s0 k).2 b=(wQ x n b i s0 (k+1)).1:=rfl;have m:Xb x (wQ x n b i s0 k).2=(wQ x n b i s0 (k+1)).2:=rfl;have a0:=ZjJ x n b i s0 k;have a1:=ZuA x n b i s0 k;rw[z,m]at l;refine DY ?_;refine ze (zA rfl (λhc=>?_) (λhc=>?_))
 ·simp at hc;refine zk (ze (zn (DY ?_)));refine λc=>((l _ (nx+3) v3 (by rw[zY];rfl)).mono ?_).v
  rintro _ _ ⟨rfl,rfl⟩;refine⟨_,_,yl _ DO DP,zR c ?_⟩
  try simp only[AI,AV,A7]
  refine zg ?_;refine λc=>((d _ _ _ DO y).mono ?_).v
  rintro _ _ rfl;refine⟨_,_,rfl,zR c ?_⟩;refine zg ?_;exact zu (k+1) [] hc DO (by simp[zy k (by omega)]) (by rw[a0]) DP
 ·simp at hc;obtain rfl:k=r:=DO
  refine zC (DY ?_);exact zj ⟨_,_,rfl,⟨by simp[zr],rfl⟩,yb (f _)⟩
open Go Go.Proofs Hp
structure InstK (x:Inst) (n:Nat):Prop where
 a:InstA x n
 kind:∀c∈x.cust,Zs3 c
 start:∀c∈x.cust,c.start<=c.size
open Go Go.Proofs Hp
theorem ZuC(p:zH){S:Store}{id v:Nat}{old:PV}(b:S id=.cells v 30 [old]):Spec prog 85 [.agg [L p],.ptr id v 0] S (λ_ S'=>S'=S.set id (.cells v 30 [L p])):=by
 refine yt func85 ntmps85 results85 λnx c=>?_
 have a:id<nx:=qi c b DP;have d:=λobs=>(zJ (S:=S) (obs:=obs) a).trans b
 have g1:¬nx<=id:=DO
 refine DY ?_;intro v0;refine zi [] (zq d g1) ?_;exact⟨_,_,rfl,by simp,yb (YS c a _)⟩
def Vz(h:List zH):PV:=match h.getLast? with
 | none=>yD
 | some p=>L p
theorem ZjK(h:List zH)(p:zH):Vz (h++[p])=L p:=by unfold Vz;rw[List.getLast?_append];rfl
theorem ZuD(x:Inst)(n:Nat)(b:Int)(p:zH)(s:Int)(k:Nat):Vz (YT x n b p s k)=L (wQ x n b p s k).1:=by
 cases k with
 | zero=>rfl
 | succ k=>rw[ZjJ,ZjK]
def Qq(x:Inst)(n:Nat)(seed:Int)(r:Nat)(b:Int):zH × Int :=
 if (xx x b).2=0 then ((wQ x n b (xx x b).1 (IntKind.u64.wrap seed) r).1,0) else ([],(xx x b).2)
theorem ZuE{x:Inst}{n:Nat}(w:InstA x n)(q:0<n)(f:∀b,(xx x b).2=0->PlanG x n (xx x b).1)(a:Int)(r:Nat)(y:r<=1000)(b:Int)(hb:b<=9223372036854775807)(cl:Int):
  Pure prog 35 [.agg (zE x),.agg (Xc a r b cl)] (.tup [.agg [L (Qq x n a r b).1],I (Qq x n a r b).2]):=by
 have t:=λ(S:Store) fn cs St h1 h2 h3=>ZuB w q f a r y b hb cl fn cs (S:=S) St h1 h2 h3
 have c:Qq x n a r b=if (xx x b).2=0 then ((wQ x n b (xx x b).1 (IntKind.u64.wrap a) r).1,0) else ([],(xx x b).2):=rfl
 have hl:=λp s=>ZuD x n b p s r
 generalize xx x b=st at *;obtain⟨p0,e⟩:=st;simp only at t c;generalize IntKind.u64.wrap a=s0 at *;refine zx func35 ntmps35 results35 λS nx u=>?_
 refine DY ?_;intro v0 v1 z;refine DY ?_;intro v3;obtain⟨S1,g⟩:∃S1,S1=ext S nx [.cells v0 25 (zE x),.cells v1 65 (Xc a r b cl),.cells z 30 [yD],.cells v3 30 [yD]]:=⟨_,rfl⟩;have h1:S1 (nx+3)=.cells v3 30 [yD]:=by rw[g,zY];rfl
 have j:=t S1 85 [.ptr (nx+3) v3 0] (λh=>S1.set (nx+3) (.cells v3 30 [Vz h])) (by
   funext i
   by_cases hi:i=nx+3
   ·subst hi;rw[q11];exact h1.symm
   ·exact q10 _ _ _ _ hi) (λk d h=>YS d (qi d h1 DP) _) (λk d h p obs _ _=>by
   have l:nx+3<k:=qi d h1 DP;refine(ZuC p (id:=nx+3) (v:=v3) (old:=Vz h) (by rw[zJ l];exact q11 _ _ _)).mono ?_;rintro _ _ rfl;rw[qq _ l,Store.set_set,ZjK])
 rw[g]at j;refine DY ?_;refine λm=>(j.mono ?_).v
 rintro _ _ ⟨rfl,rfl⟩;refine⟨_,_,yl _ DO DP,zR m ?_⟩
 try simp only[AI,AV,A7]
 by_cases o:e=0
 ·rw[if_pos o]at c;rw[c];simp only[if_pos o,hl];subst o;refine DY ?_;exact DZ u
 ·rw[if_neg o]at c;rw[c];simp only[if_neg o]
  show PW _ _ _ _ _ _ _ (ext _ _ _)
  refine DY ?_;refine yn 2 0 rfl rfl ?_;exact DZ u
open Go Go.Proofs Hp
structure MayP (x:Inst):Prop where
 days:1<=x.days/\x.days<=64
 cust:x.cust.length<=2000
 veh:0<=x.veh/\x.veh<=2147483648
 cap:0<=x.cap/\x.cap<=2147483648
 len:0<=x.len/\x.len<=2147483648
 custs:∀c∈x.cust,j7 c x.days=true
 dist:Zi x.dist (x.cust.length+1)=true
theorem Jm{x:Inst}(h:yS x=true):MayP x:=by
 unfold yS at h;simp only[Ar,Aw,decide_eq_true_eq,zX]at h;obtain⟨⟨⟨⟨⟨⟨h1,h2⟩,h3⟩,h4⟩,h5⟩,h6⟩,h7⟩:=h;exact⟨h1,h2,h3,h4,h5,h6,h7⟩
def ZuF(c:Cust)(d:Int):Prop:=c.kind=1/\(1<=c.demand/\c.demand<=2147483648)/\(∀p∈c.pats,w9 p d<0)/\(1<=c.pats.length/\c.pats.length<=64)/\c.rate=0/\c.size=0/\c.start=0/\c.rule=0/\c.hold=0
def ZuG(c:Cust):Prop:=c.kind=2/\(0<=c.rate/\c.rate<=2147483648)/\(1<=c.size/\c.size<=2147483648)/\(0<=c.start/\c.start<=c.size)/\(c.rule=1\/c.rule=2)/\(0<=c.hold/\c.hold<=1024)/\c.pats=[]/\c.demand=0
theorem Zbx{c:Cust}{d:Int}(h:j7 c d=true):ZuF c d\/ZuG c:=by
 unfold j7 at h;split at h
 ·rename_i a;simp only[Ar,zX,decide_eq_true_eq,we,uh,Aw]at h;obtain⟨⟨h1,h2,h3⟩,b⟩:=h;exact .inl ⟨a,h1,h2,by omega,b⟩
 ·split at h
  ·rename_i a;simp only[Ar,zX,decide_eq_true_eq,ui,uJ]at h;obtain⟨⟨⟨⟨⟨h1,h2⟩,h3⟩,b⟩,h5⟩,h6,h7⟩:=h;exact .inr ⟨a,h1,h2,h3,b,h5,Av h6,h7⟩
  ·cases h
theorem ZjL{p n:Nat}(h:w9 p n<0):∀d∈yH p 0 64,d<n:=by
 have h0:yH p (n:Int).toNat 64=[]:=by
  unfold w9 at h;cases e:yH p (n:Int).toNat 64 with
  | nil=>rfl
  | cons a l =>
   rw[e]at h;obtain⟨k,rfl,-⟩:=Vi (p:=p) (a:=(n:Int).toNat) (k:=64) (d:=a) (by rw[e];simp);simp only[List.headD_cons]at h;omega
 grind[Zdz,List.filter_eq_nil_iff]
theorem ZuH{p n:Nat}(b:p<2 ^ 64)(h:∀d∈yH p 0 64,d<(n:Int)):p<2 ^ n:=by
 apply Nat.lt_pow_two_of_testBit;intro i hi
 by_cases a:i<64
 ·rw[X3,decide_eq_false_iff_not];intro hb;have:(i:Int)∈yH p 0 64:=by
   simp only[yH,Al,Bn,AK,Ar,decide_eq_true_eq];exact⟨i,⟨a,by omega,hb⟩,rfl⟩
  grind
 ·exact Cv (Bj b (BH DV DO))
theorem ZjM(n:Nat):∀(l:List (List Int)) (a:Nat),vf n a l=true->∀r∈l,r.length=n/\∀z∈r,0<=z/\z<=2147483648
 | [],_,_=>by simp
 | row :: l,a,h=>by
  simp only[vf,Ar,decide_eq_true_eq,Aw,zX]at h;obtain⟨⟨⟨h1,h2⟩,h3⟩,c⟩:=h;intro r b;rcases Au.1 b with rfl | b
  ·simp_all
  ·exact ZjM n l (a+1) c r b
theorem VA{x:Inst}(h:Zi x.dist (x.cust.length+1)=true):x.dist.length=x.cust.length+1/\(∀r∈x.dist,r.length=x.cust.length+1/\∀z∈r,0<=z/\z<=2147483648)/\qQ x/\arc x 0 0=0:=by
 unfold Zi at h;simp only[Ar,decide_eq_true_eq]at h;have c:=ZjM _ _ _ h.2;refine⟨h.1,c,λa b=>?_,?_⟩
 ·unfold arc;split
  ·omega
  ·rw[Aa,Aa];cases e:x.dist[a.toNat]? with
   | none=>simp
   | some r =>
    rw[Option.getD_some];cases e2:r[b.toNat]? with
    | none=>simp
    | some z=>exact(c r (Ab e)).2 z (Ab e2)
 ·obtain⟨h1,h2⟩:=h;cases e:x.dist<;>simp_all[vf,arc]
structure InstQ (x:Inst) (n:Nat):Prop where
 k:InstK x n
 m:yS x=true
 t:InstT x n
 six:x.cust.length<=6
 n7:n<=7
theorem ZuI{x:Inst}{n:Nat}(h:yS x=true)(o:∀c∈x.cust,∀p∈c.pats,p<2 ^ 64)(hn:x.days=n)(w:n<=7)(y:x.cust.length<=6):InstQ x n:=by
 have hm:=Jm h;obtain⟨d1,q,d3,d4⟩:=VA hm.dist;have hc:=λc hc=>Zbx (hm.custs c hc)
 rw[hn]at hc;have i:∀c∈x.cust,CustMade c n:=λc d=>by
  rcases hc c d with ⟨k,a,b,l,r1,r2,r3,r4,r5⟩ | ⟨k,r,s,t,j,ho,e,m⟩
  ·exact⟨⟨by omega,by omega,by omega⟩,o c d,by omega,λ_=>⟨λp f=>ZjL (b p f),by omega,by omega⟩⟩
  ·exact⟨⟨by omega,by omega,by omega⟩,o c d,by rw[e];simp,λh=>by omega⟩
 have g:∀z:Int,0<=z->z<=2147483648->Z9 z:=λz a b=>⟨a,by omega⟩
 refine⟨⟨⟨⟨by omega,d4,d3,hm.veh.1⟩,hn,by omega,i,λc d=>?_⟩,λc d=>?_,λc d=>?_⟩,h,⟨hn,by have:=hm.days;omega,by omega,⟨g _ hm.veh.1 hm.veh.2,g _ hm.cap.1 hm.cap.2,g _ hm.len.1 hm.len.2⟩,by omega,λc d=>?_,d1,λr u=>⟨(q r u).1,λz v=>g z ((q r u).2 z v).1 ((q r u).2 z v).2⟩⟩,y,w⟩
 ·rcases hc c d with ⟨k,a,b,l,r1,r2,r3,r4,r5⟩ | ⟨k,r,s,t,j,ho,e,m⟩<;>grind
 ·rcases hc c d with ⟨k,a,b,l,r1,r2,r3,r4,r5⟩ | ⟨k,r,s,t,j,ho,e,m⟩
  ·exact .inl ⟨k,r4⟩
  ·exact .inr ⟨k,j⟩
 ·rcases hc c d with ⟨k,a,b,l,r1,r2,r3,r4,r5⟩ | ⟨k,r,s,t,j,ho,e,m⟩<;>omega
 ·rcases hc c d with ⟨k,a,b,l,r1,r2,r3,r4,r5⟩ | ⟨k,r,s,t,j,ho,e,m⟩
  ·exact⟨.inl ⟨k,g _ DO DO,λp f=>ZuH (o c d p f) (ZjL (b p f)),r1,r2,r3,r4,r5⟩⟩
  ·exact⟨.inr ⟨k,m,e,g _ DO DO,g _ DO DO,g _ DO DO,j,g _ DO DO⟩⟩
theorem ZuJ(x:Inst):∀c∈(yO x).cust,∀p∈c.pats,p<2 ^ 64:=λc hc=>((ZsU x).made c hc).pats
theorem ZuK(x:Inst){n:Nat}(hn:(yO x).days=n):InstQ (yO x) n:=ZuI (Zs1 x) (ZuJ x) hn (by have:=Vj x;omega) (ZcX x)
end Go.Proofs.YtcocagkbfpgmiaaGreatDoor.Pv
