/- Part of a proof, packed. -/
import Derived.Test.YtcocagkbfpgmiaaGreatDoorY5
open Go.Proofs.Tryz (prog)
set_option maxRecDepth 100000
set_option maxHeartbeats 3200000
namespace Go.Proofs.YtcocagkbfpgmiaaGreatDoor.Pv
open Go Go.Proofs Go.RowKit Go.Shelf
theorem ZrQ{C:Ctx}{S:Store}{w:World}{b:UInt8}{v:Value}(h:Rel C S w (U8 b) v):v=.int .u8 (b.toNat:Int):=by cases h;rfl
theorem ZrR(k:Nat)(hk:2<=k):liesAt prog prog.depth 113 (k / prog.cellsOf 113) 0 113 1=true:=by
 have hc:prog.cellsOf 113=2:=by kernel_rfl
 have hl:sameLayout prog prog.depth 113 113=true:=by kernel_rfl
 obtain⟨d,hd⟩:∃d,prog.depth=d+1:=⟨prog.depth-1,by kernel_rfl⟩;have h1:1<=k / 2:=by omega
 rw[hc];rw[hd]at hl ⊢;unfold liesAt;rw[hd];unfold rowAt;simp[hc,hl,h1]
theorem ZrS(b k:Nat)(w:World)(h0:w.cell? ⟨b,0,none⟩=some (.pointer none))(hsh:w.shape? b=some (113,k))(hk:2<=k)(hfz:w.frozen? ⟨b,0,none⟩=false):
  Calls prog 98 #[.pointer (some ⟨b,0,none⟩)] w λe w'=>e=.returned (.tuple #[])/\w'=w.setCell ⟨b,0,none⟩ (.pointer (some ⟨b,0,none⟩)):=by
 obtain⟨j,hj,hjs⟩:∃j,prog.info? 113=some j/\j.size=2:=by
  have:(prog.info? 113).map (·.size)=some 2:=by kernel_rfl
  exact Ap.1 this
 go_enter Tryz.func98,Tryz.ntmps98
 go_wp2
 rw[Lib.run_to_unsafe w ⟨b,0,none⟩ Tryz.underlying110 Tryz.underlying191 hj (by rw[hjs];decide) hsh (by show 0<k;omega)];simp only[Result.andThen];rw[Oper.upon_value]
 go_wp2
 rw[run_callFunc_extern Tryz.func134 (by kernel_rfl) (by kernel_rfl) (by kernel_rfl) (e:=Extern.AbiNoEscape.same) (by kernel_rfl)];rw[Lib.run_noEscape];simp only[Result.andThen];rw[Oper.upon_value]
 go_wp2
 rw[Lib.run_from_unsafe w ⟨b,0,none⟩ Tryz.underlying191 Tryz.underlying110 hj hsh (ZrR k hk)];simp only[Result.andThen];rw[Oper.upon_value]
 go_wp2
 go_end0
 exact⟨rfl,rfl⟩
theorem Yh(S:Store)(o:Nat)(x:Ob)(h:S o=x):S.set o x=S:=by
 funext i;simp only[Store.set];split
 ·rename_i e;rw[e,h]
 ·rfl
theorem Zc2{vs:Array Value}(h:1=vs.size):∃v,vs=#[v]:=by
 match vs,h with
 | ⟨[v]⟩,_=>exact⟨v,rfl⟩
theorem Zh6{vs:Array Value}(h:2=vs.size):∃u v,vs=#[u,v]:=by
 match vs,h with
 | ⟨[u,v]⟩,_=>exact⟨u,v,rfl⟩
theorem Zc3{C:Ctx}{S:Store}{w:World}(hS:Sim C S w){id v e:Nat}{p s:PV}(h:S id=.cells v e [p,s]):∃(b k:Nat) (c:Array Value) (c0 c1:Value),C.loc id=some (b,k)/\w.heap[b]?=some (.cells c e (0,0))/\c.size=k/\2<=k/\c[0]?=some c0/\c[1]?=some c1/\Rel C S w p c0/\Rel C S w s c1 /\
  (∀(i:Nat) (u:Value),i<2->c[i]?=some u->u.oneCell'=true):=by
 rcases hS.cells id v e _ h with ⟨_,hn⟩ | ⟨b,k,c,g1,g2,g3,g4,g5,g6⟩
 ·cases hn
 ·simp only[Ae,Ah]at g4;have e0:c[0]?=some (c[0]'(by omega)):=AL (by omega);have e1:c[1]?=some (c[1]'(by omega)):=AL (by omega);exact⟨b,k,c,_,_,g1,g2,g3,g4,e0,e1,g6 0 p _ rfl e0,g6 1 s _ rfl e1,g5⟩
theorem Zh7{S:Store}{id v:Nat}{p s:PV}(hS:S id=.cells v 113 [p,s])(hp:p=.sc (.pointer none)\/p=.ptr id v 0):
  Spec prog 98 [.ptr id v 0] S (λ_ S'=>S'=S.set id (.cells v 113 [.ptr id v 0,s])):=by
 refine⟨qh Tryz.func98 (by rfl) rfl,?_⟩;intro C w vs hC hl hr;obtain⟨u,rfl⟩:=Zc2 hl;have hu:=hr 0 _ u rfl rfl;cases hu with
 | ptr h1 h2 h3 =>
  obtain⟨b,k,hloc,rfl⟩:=(h3 v (by rw[hS];rfl)).2 rfl;obtain⟨b',k',c,c0,c1,g1,g2,g3,g4,e0,e1,r0,r1,g5⟩:=Zc3 hC hS;rw[hloc]at g1;cases g1;have hcell:w.cell? ⟨b,0,none⟩=some c0:=by simp[World.cell?,g2,e0]
  have hself:Rel C S w (.ptr id v 0) (.pointer (some ⟨b,0,none⟩)):=.ptr h1 h2 h3;rcases hp with rfl | rfl
  ·cases r0;refine(ZrS b k w hcell (by simp[World.shape?,g2,g3]) g4 (by simp[World.frozen?,g2])).mono ?_;rintro e w' ⟨rfl,rfl⟩;have hh:(w.setCell ⟨b,0,none⟩ (.pointer (some ⟨b,0,none⟩))).heap[b]?=some (.cells (c.setIfInBounds 0 (.pointer (some ⟨b,0,none⟩))) 113 (0,0)):=by
    simp[World.setCell,Bv,g2]
   obtain⟨t1,t2⟩:=hC.turn (l:=C.loc id) (ver':=v) (cs':=[.ptr id v 0,s]) hS (Ag _) (λ_=>rfl) (w':=w.setCell ⟨b,0,none⟩ (.pointer (some ⟨b,0,none⟩)))
    (by rw[hloc];exact⟨⟨rfl,rfl,rfl,by simp[World.setCell],λj _ hj=>by simp[World.setCell,Bv];intro e;exact absurd (by rw[e];rfl) hj⟩,Ag _⟩)
    (.inr ⟨b,k,_,hloc,.inr (by rw[hloc];rfl),hh,by simp[g3],g4,λi u hi hu=>by
      match i,hi with
      | 0,_=>rw[BI (by omega)]at hu;cases hu;rfl
      | 1,_=>rw[B6 (by omega)]at hu;exact g5 1 u (by omega) hu,
     λi q u hq hu=>by
      match i,hq with
      | 0,hq=>cases hq;rw[BI (by omega)]at hu;cases hu;exact hself
      | 1,hq=>cases hq;rw[B6 (by omega),e1]at hu;cases hu;exact r1⟩)
   exact⟨.junk,_,_,_,rfl,rfl,.junk _,t1,t2⟩
  ·have hc0:c0=.pointer (some ⟨b,0,none⟩):=by
    cases r0 with
    | ptr i1 i2 i3 =>
     obtain⟨b2,k2,hl2,rfl⟩:=(i3 v (by rw[hS];rfl)).2 rfl;rw[hloc]at hl2;cases hl2;rfl
   subst hc0;refine(Any.Builder_copyCheck_used { Tryz.lays156 with } Tryz.Builder_Extra_156.toX72 b w hcell).mono ?_;rintro e w' ⟨rfl,rfl⟩;exact⟨.junk,_,_,_,rfl,(Yh S id _ hS).symm,.junk _,hC,.refl _ _ _⟩
theorem Sim.lose{C:Ctx}{S:Store}{w w':World}{id:Nat}(h:Sim C S w)(hne:S id≠.dead)(hg:w.grownBy w' ((C.loc id).map (·.1))/\w.drawn<=w'.drawn):Sim C (S.set id .dead) w'/\Step C S w C (S.set id .dead) w':=by
 have hold:∀o,(S.set id .dead) o≠.dead->o≠id/\(S.set id .dead) o=S o:=by
  intro o ho
  by_cases e:o=id
  ·subst e;rw[q11]at ho;exact absurd rfl ho
  ·exact⟨e,q10 _ _ _ _ e⟩
 have hfar:∀i b k,i≠id->S i≠.dead->C.loc i=some (b,k)->some b≠(C.loc id).map (·.1):=by
  intro i b k hi hd hb he;cases ho:C.loc id with
  | none=>rw[ho]at he;cases he
  | some x =>
   obtain⟨b2,k2⟩:=x;rw[ho]at he;cases he;exact hi (h.dist i id _ _ _ hd hne hb ho)
 have st:Step C S w C (S.set id .dead) w':=by
  refine⟨hg.1.os,⟨hg.1.tape,hg.2⟩,hg.1.output,hg.1.size,Ag _,Ag _,λb hlt hM=>⟨hg.1.block b hlt λe=>?_,?_⟩,λo v1 hv=>?_⟩
  ·cases ho:C.loc id with
   | none=>rw[ho]at e;cases e
   | some x =>
    obtain⟨b2,k2⟩:=x;rw[ho]at e;cases e;exact hM ⟨id,k2,hne,ho⟩
  ·rintro⟨o,k,ho,hl⟩;obtain⟨e1,e2⟩:=hold o ho;rw[e2]at ho;exact hM ⟨o,k,ho,hl⟩
  ·obtain⟨e1,e2⟩:=hold o (by intro e;rw[e]at hv;cases hv);rw[e2]at hv;exact .inr ⟨v1,hv,Ag _,λ_=>rfl⟩
 refine⟨⟨λo ho=>?_,λo v hv=>?_,λo o' b k k' h1 h2 h3 h4=>?_,λo v e cs ho=>?_,λo v es ho=>?_⟩,st⟩
 ·obtain⟨e1,e2⟩:=hold o ho;rw[e2]at ho;exact h.lt o ho
 ·obtain⟨e1,e2⟩:=hold o (by intro e;rw[e]at hv;cases hv);rw[e2]at hv;exact h.clk o v hv
 ·obtain⟨e1,e2⟩:=hold o h1;obtain⟨e3,e4⟩:=hold o' h2;rw[e2]at h1;rw[e4]at h2;exact h.dist o o' b k k' h1 h2 h3 h4
 ·obtain⟨e1,e2⟩:=hold o (by rw[ho];simp);rw[e2]at ho;rcases h.cells o v e cs ho with hn | ⟨b,k,c,g1,g2,g3,g4,g5,g6⟩
  ·exact .inl hn
  ·exact .inr ⟨b,k,c,g1,(hg.1.block b (qg g2) (hfar o b k e1 (by rw[ho];simp) g1)).trans g2,g3,g4,g5,λi p u hp hu=>(g6 i p u hp hu).mono st⟩
 ·obtain⟨e1,e2⟩:=hold o (by rw[ho];simp);rw[e2]at ho;obtain⟨b,k,ms,cl,g1,g2,g3,g4⟩:=h.maps o v es ho;exact⟨b,k,ms,cl,g1,(hg.1.block b (qg g2) (hfar o b k e1 (by rw[ho];simp) g1)).trans g2,g3,λi x m he hm=>⟨(g4 i x m he hm).1,(g4 i x m he hm).2.mono st⟩⟩
theorem ZrT(b g cap:Nat)(c cur:Array Value)(l:List UInt8)(w:World)(hbk:w.heap[b]?=some (.cells c 113 (0,0)))(h1:c[1]?=some (.slice (some ⟨g,0,none⟩) l.length cap))(h0:l≠[])(hlen:l.length<=140737488355328)
  (hg:w.heap[g]?=some (.cells cur 5 (0,0))) (hcur:l.length<=cur.size) (hcap:l.length<=cap) (hcell:∀(j:Nat) (x:UInt8),l[j]?=some x->cur[j]?=some (.int .u8 (x.toNat:Int))) :
  Calls prog 64 #[.pointer (some ⟨b,0,none⟩)] w λe w'=>e=.returned (.string (bs l))/\w'=w.drew.freeze ⟨g,0,none⟩ l.length:=by
 have hl0:l.length≠0:=by simpa using h0
 have c1:w.drew.cell? ⟨b,1,none⟩=some (.slice (some ⟨g,0,none⟩) l.length cap):=by
  have:w.drew.heap[b]?=some (.cells c 113 (0,0)):=hbk;rw[Lib.cell_of_heap this];exact h1
 have hg':w.drew.heap[g]?=some (.cells cur 5 (0,0)):=hg;have hSD:(Builtin.unsafeSliceData_ #[111] 161 #[.slice (some ⟨g,0,none⟩) l.length cap]).run prog w.drew=.ok (.pointer (some ⟨g,0,none⟩)) w.drew :=
  Lib.run_unsafeSliceData_row _ _ _ _ _ _ (by omega)
 have hUS:(Builtin.unsafeString_ #[161,3] 9 #[.pointer (some ⟨g,0,none⟩),.int .i64 l.length]).run prog w.drew=.ok (.string (bs l)) (w.drew.freeze ⟨g,0,none⟩ l.length):=by
  refine Lib.run_unsafeString_row w.drew 161 3 9 5 Tryz.underlying161 (by kernel_rfl) g cur.size (by simp[World.shape?,hg']) l h0 hcur (by omega) ?_;intro j x hx;rw[Addr.add_plain,AR];simp[World.cell?,hg',hcell j x hx]
 go_enter Tryz.func64,Tryz.ntmps64
 go_wp2
 go_region
 all_goals (go_wp2;go_ret;exact⟨rfl,rfl⟩)
theorem ZrU{S:Store}{id v ib w0:Nat}{p:PV}(l:List UInt8)(hS:S id=.cells v 113 [p,.sl ib w0 1 0 l.length])(hB:S ib=.cells w0 5 (l.map U8))(h0:l≠[])(hlen:l.length<=140737488355328):
  Spec prog 64 [.ptr id v 0] S (λq S'=>q=T (bs l)/\S'=S.set ib .dead):=by
 refine⟨qh Tryz.func64 (by rfl) rfl,?_⟩;intro C w vs hC hl hr;obtain⟨u,rfl⟩:=Zc2 hl;have hu:=hr 0 _ u rfl rfl;have hl0:l.length≠0:=by simpa using h0
 cases hu with
 | ptr h1 h2 h3 =>
  obtain⟨b,k,hloc,rfl⟩:=(h3 v (by rw[hS];rfl)).2 rfl;obtain⟨b',k',c,c0,c1,g1,g2,g3,g4,e0,e1,r0,r1,g5⟩:=Zc3 hC hS;rw[hloc]at g1;cases g1;cases r1 with
  | sl i1 i2 i3 =>
   rcases (i3 w0 (by rw[hB];rfl)).2 rfl with ⟨_,q,_⟩ | ⟨g,kg,ad,cap,hlg,rfl,hq0,hq1⟩
   ·exact absurd q hl0
   obtain⟨rfl,hq⟩:=hq0 rfl;obtain⟨a1,cp,e2,c3,_⟩:=i1;cases e2;rcases hC.cells ib w0 _ _ hB with ⟨hn,_⟩ | ⟨b2,k2,cur,f1,f2,f3,f4,f5,f6⟩
   ·rw[hn]at hlg;cases hlg
   rw[hlg]at f1;cases f1;rw[List.length_map]at f4;have hcell:∀(j:Nat) (x:UInt8),l[j]?=some x->cur[j]?=some (.int .u8 (x.toNat:Int)):=by
    intro j x hx;have hj:=(Ac.1 hx).1;have hc:=AL (xs:=cur) (i:=j) (by omega);rw[hc,ZrQ (f6 j (U8 x) _ (by rw[Aj,hx];rfl) hc)]
   refine(ZrT b g cap c cur l w g2 e1 h0 hlen f2 (by omega) c3 hcell).mono ?_;rintro e w' ⟨rfl,rfl⟩;obtain⟨t1,t2⟩:=hC.lose (id:=ib) (w':=w.drew.freeze ⟨g,0,none⟩ l.length) (by rw[hB];simp) (by
    rw[hlg];unfold World.freeze;rw[if_neg hl0];exact⟨⟨rfl,rfl,rfl,by simp,λj _ hj=>by
     rw[Bv,if_neg (λe=>hj (by rw[<-e];rfl))];rfl⟩,CW _⟩)
   exact⟨_,_,_,_,rfl,⟨rfl,rfl⟩,.sc _,t1,t2⟩
open Go Go.Proofs Go.RowKit Go.Shelf
theorem ZrV{w:Wd}{i:Nat}{c:UInt8}(h:w[i]?=some c)(h1:¬(c.toNat=48\/c.toNat=49)):wH w=false:=by
 unfold wH;have:w.all (λc=>decide (c.toNat=48\/c.toNat=49))=false:=by
  rw[Bu];exact⟨c,Ab h,by simpa using h1⟩
 rw[this,Dn]
theorem ZrW{w:Wd}{i:Nat}{c:UInt8}(h:w[i]?=some c):xI w (i+1)=if c=49 then qC (xI w i) i else xI w i:=by
 have:w.getD i 0=c:=by rw[Aa,h];rfl
 show (if w.getD i 0=49 then qC (xI w i) i else xI w i)=_
 rw[this]
def vQ(w:Wd):Nat × Int:=if wH w=true then if 64<w.length then (0,3) else (xI w w.length,0) else (0,2)
theorem ZrX(n d:Nat)(hn:n<2 ^ 64)(w:World):Calls prog 226 #[.int .u64 n,.int .i64 d] w λe w'=>e=.returned (.int .u64 (qC n d))/\w'=w:=by
 go_enter Tryz.func226,Tryz.ntmps226
 by_cases h:(d:Int)<64
 ·have h3:=ZgH d (by omega);have h4:bits BinOp.or IntKind.u64 (n:Int) (2 ^ d)=((n ||| 2 ^ d:Nat):Int):=by
   have:=bits_or_u64_nat n (2 ^ d) (by omega) (by have:(2:Nat) ^ d<2 ^ 64:=CE (by decide) (by omega);omega);simpa using this
  have h5:qC n d=n ||| 2 ^ d:=by unfold qC;rw[if_pos ⟨by omega,h⟩];rfl
  go_wp2
  go_ret
  exact⟨by show Ending.returned (.int .u64 ((n ||| 2 ^ d:Nat):Int))=_;rw[h5],rfl⟩
 ·have h5:qC n d=n:=by unfold qC;rw[if_neg (by omega)]
  go_wp2
  go_ret
  exact⟨rfl,rfl⟩
theorem ZrY(s:Wd)(hl:s.length<=1048576)(w:World):Calls prog 191 #[.string (bs s)] w λe w'=>e=.returned (.tuple #[.int .u64 (vQ s).1,.int .i64 (vQ s).2])/\∃i,w'=w.iter (bs s) i:=by
 have hsz:=wE s
 go_enter Tryz.func191,Tryz.ntmps191
 go_wp2
 go_loopg [4,5] s.length (λg s4 s5 wx=>∃i:Nat,i+g=s.length/\s4=.int .u64 (xI s i)/\s5=.int .i64 i/\wx=w.iter (bs s) i/\∀c∈s.take i,c.toNat=48\/c.toNat=49)
 case atStart=>exact⟨0,by omega,rfl,rfl,rfl,by simp⟩
 case round =>
  obtain⟨i,hig,rfl,rfl,rfl,hno'⟩:=hrel;have hno:Aside (∀c∈s.take i,c.toNat=48\/c.toNat=49):=hno';clear hno';cases gk with
  | zero =>
   obtain rfl:i=s.length:=by omega
   have hnx:=λty=>run_next_end (P:=prog) w (bs s) s.length ty (by rw[hsz];omega)
   have hsg:s≠[]->wH s=true:=λh0=>by
    unfold wH;rw[decide_eq_true h0,Dx,As];have h9:=hno.out;rw[Ao]at h9;exact λc hc=>decide_eq_true (h9 c hc)
   by_cases h0:s=[]
   ·subst h0;clear hsg;simp only[Ah]at hnx
    go_wp2
    go_ret2
    exact⟨rfl,_,rfl⟩
   ·have hs1:=hsg h0;clear hsg;have hne:¬(s.length:Int)=0:=by intro h;exact h0 (Aw (by omega))
    rcases Bf 64 s.length with h64 | h64
    ·have h64':(64:Int)<s.length:=by omega
     have hsp:vQ s=(0,3):=by unfold vQ;rw[if_pos hs1,if_pos h64]
     go_wp2
     go_ret2
     exact⟨by rw[hsp];rfl,_,rfl⟩
    ·have h64':¬(64:Int)<s.length:=by omega
     have hsp:vQ s=(xI s s.length,0):=by unfold vQ;rw[if_pos hs1,if_neg (by omega)]
     go_wp2
     go_ret2
     exact⟨rfl,_,rfl⟩
  | succ g =>
   have hi:i<s.length:=by omega
   obtain⟨x,hx⟩:∃x:UInt8,s[i]?=some x:=⟨_,Ad hi⟩;have hb:i<(bs s).size:=by omega
   have hxb:(bs s)[i]'hb=x:=by
    have:=Ac.1 hx;exact this.2
   have Hx:Aside (s[i]?=some x):=hx;have hset:=ZrW hx;clear hx;have hlts:=Zar s i
   by_cases q0:x.toNat=48
   ·have hnx:=λty=>run_next_ascii (P:=prog) w (bs s) i ty hb (by rw[hxb,q0];decide)
    rw[hxb,q0]at hnx;have hne:¬x=49:=by rintro rfl;exact absurd q0 (by decide)
    rw[if_neg hne]at hset
    go_wp2
    go_roundg g
    case measure=>omega
    case rel =>
     refine⟨i+1,by omega,by rw[hset],by simp,rfl,?_⟩;rw[AN,Hx.out];intro c hc;rw[AC]at hc;rcases hc with hc | hc
     ·exact hno.out c hc
     ·obtain rfl:c=x:=by simpa using hc
      exact .inl q0
   ·by_cases q1:x.toNat=49
    ·have hx1:x=49:=UInt8.toNat_inj.1 q1;have hnx:=λty=>run_next_ascii (P:=prog) w (bs s) i ty hb (by rw[hxb,q1];decide)
     rw[hxb,q1]at hnx;rw[if_pos hx1]at hset;have hww:=ZrX (xI s i) i hlts
     go_wp2_with fail
     refine(hww _).mono ?_;rintro _ _ ⟨rfl,rfl⟩;rw[<-hset];clear hww
     go_wp2
     go_roundg g
     case measure=>omega
     case rel =>
      refine⟨i+1,by omega,by rw[hset],by simp,rfl,?_⟩;rw[AN,Hx.out];intro c hc;rw[AC]at hc;rcases hc with hc | hc
      ·exact hno.out c hc
      ·obtain rfl:c=x:=by simpa using hc
       exact .inr q1
    ·have hsp:vQ s=(0,2):=by unfold vQ;rw[if_neg (by rw[ZrV Hx.out (λh=>h.elim q0 q1)];simp)]
     have hnx:=λty=>run_next_any (P:=prog) w (bs s) i ty hb
     have hdec:(Utf8.decode (bs s) i).1≠48/\(Utf8.decode (bs s) i).1≠49:=by
      by_cases h128:x.toNat<128
      ·rw[decode_ascii (bs s) i hb (by rw[hxb];exact h128),hxb];exact⟨q0,q1⟩
      ·have:=(decode_high (bs s) i hb (by rw[hxb];omega)).1;omega
     obtain⟨r,hr⟩:∃r,r=Utf8.decode (bs s) i:=⟨_,rfl⟩;rw[<-hr]at hnx hdec;have q2:¬(r.1:Int)=48:=by have:=hdec.1;omega
     have q3:¬(r.1:Int)=49:=by have:=hdec.2;omega
     clear hr hdec hset
     go_wp2
     go_ret2
     exact⟨by rw[hsp];rfl,_,rfl⟩
theorem ZrZ(s:Wd)(hl:s.length<=1048576):Pure prog 191 [T (bs s)] (.tup [U (vQ s).1,I (vQ s).2]):=by
 intro S;refine⟨ZkJ,λC w us hS hl' hr=>?_⟩;obtain⟨u0,rfl⟩:=Zc2 hl';have r0:=hr 0 _ u0 rfl rfl;cases r0;refine(ZrY s hl w).mono ?_;rintro _ _ ⟨rfl,i,rfl⟩;obtain⟨t1,t2,_⟩:=hS.alloc (.stringIter (bs s) i);refine⟨_,_,S,C,rfl,⟨rfl,rfl⟩,.tup rfl λj c v h1 h2=>?_,t1,t2⟩
 match j,h1,h2 with
 | 0,h1,h2=>cases h1;cases h2;exact .sc _
 | 1,h1,h2=>cases h1;cases h2;exact .sc _
open Go Go.Proofs Go.RowKit Go.Shelf
theorem Zr0(b n:Nat)(c:Array Value)(w:World)(hbk:w.heap[b]?=some (.cells c 113 (0,0)))(h1:c[1]?=some (.slice none 0 0))(hn:n<=281474976710656):
  Calls prog 188 #[.pointer (some ⟨b,0,none⟩),.int .i64 n] w λe w'=>e=.returned (.tuple #[])/\∃cs:Array Value,(n<=maxLen->cs.size<=maxLen)/\w'=((w.alloc (.cells cs 5)).setCell ⟨b,1,none⟩ (.slice (some ⟨w.heap.size,0,none⟩) 0 cs.size)).drew.drew.drew:=by
 obtain⟨cs,hrun,hle,hmax⟩:=Lib.run_makeNoZero (P:=prog) w.drew #[3] 111 5 Tryz.underlying111 n hn;have hw:IntKind.i64.wrap (n:Int)=n:=by
  rw[AI];omega
 have hcall:(callFunc 221 #[.int .i64 (IntKind.i64.wrap (n:Int))]).run prog w.drew=.ok (.value (.slice (some ⟨w.drew.heap.size,0,none⟩) n cs.size)) (w.drew.drew.drew.alloc (.cells cs 5)):=by
  rw[hw,run_callFunc_extern Tryz.func221 (by kernel_rfl) (by kernel_rfl) (by kernel_rfl) (e:=Extern.BytealgMakeNoZero.makeNoZero #[3] #[111]) (by kernel_rfl),hrun];rfl
 have hlt:b<w.heap.size:=qg hbk;have c1:w.drew.cell? ⟨b,1,none⟩=some (.slice none 0 0):=by
  have:w.drew.heap[b]?=some (.cells c 113 (0,0)):=hbk;rw[Lib.cell_of_heap this];exact h1
 have c2:(w.alloc (.cells cs 5)).cell? ⟨b,1,none⟩=some (.slice none 0 0):=by
  rw[Lib.cell_of_heap ((Lib.alloc_old w _ b hlt).trans hbk)];exact h1
 have f2:(w.alloc (.cells cs 5)).frozen? ⟨b,1,none⟩=false:=Lib.frozen_of_heap ((Lib.alloc_old w _ b hlt).trans hbk) 1;have hcopy:∀W:World,(Builtin.copy_ #[111,111] 3 #[.slice (some ⟨w.heap.size,0,none⟩) 0 cs.size,.slice none 0 0]).run prog W=.ok (goInt 0) W :=
  λW=>run_copy_none W 111 111 3 5 _ _ 0 cs.size 0 0 Tryz.underlying111 (by kernel_rfl) rfl
 clear hw hlt
 go_enter Tryz.func188,Tryz.ntmps188
 go_wp2
 go_region
 all_goals (go_wp2;go_end0;exact⟨rfl,cs,hmax,rfl⟩)
theorem Zr1{S:Store}{id v nx:Nat}{p:PV}(n:Nat)(hn:n<=140737488355328)(hS:S id=.cells v 113 [p,.sc (.slice none 0 0)])(hd:S nx=.dead):
  Spec prog 188 [.ptr id v 0,I n] S (λ_ S'=>∃w0,S'=(S.set nx (.cells w0 5 [])).set id (.cells v 113 [p,.sl nx w0 1 0 0])):=by
 refine⟨qh Tryz.func188 (by rfl) rfl,?_⟩;intro C w vs hC hl hr;obtain⟨u,u2,rfl⟩:=Zh6 hl;have hu:=hr 0 _ u rfl rfl;have hu2:=hr 1 _ u2 rfl rfl;cases hu2;cases hu with
 | ptr h1 h2 h3 =>
  obtain⟨b,k,hloc,rfl⟩:=(h3 v (by rw[hS];rfl)).2 rfl;obtain⟨b',k',c,c0,c1,g1,g2,g3,g4,e0,e1,r0,r1,g5⟩:=Zc3 hC hS;rw[hloc]at g1;cases g1;cases r1;refine(Zr0 b n c w g2 e1 (by omega)).mono ?_;rintro e w' ⟨rfl,cs,hmax,rfl⟩;have hlt:b<w.heap.size:=qg g2;have hne:id≠nx:=by rintro rfl;rw[hS]at hd;cases hd
  obtain⟨a1,a2⟩:=hC.object' (o:=nx) (ver:=C.clock) ⟨hd,.inr (Ag _)⟩ 5 cs [] (Cs _) (λi u hi=>absurd hi (DN _)) (λi q u hq=>by simp at hq);have hS1:(S.set nx (.cells C.clock 5 [])) id=.cells v 113 [p,.sc (.slice none 0 0)]:=(q10 _ _ _ _ hne).trans hS;have hloc1:(C.put nx C.clock (some (w.heap.size,cs.size))).loc id=some (b,k):=by simp[Ctx.put,hne,hloc]
  have hg2:(w.alloc (.cells cs 5)).heap[b]?=some (.cells c 113 (0,0)):=(uL w _ b hlt).trans g2;have hsl:Rel (C.put nx C.clock (some (w.heap.size,cs.size))) (S.set nx (.cells C.clock 5 [])) (w.alloc (.cells cs 5)) (.sl nx C.clock 1 0 0) (.slice (some ⟨w.heap.size,0,none⟩) 0 cs.size):=by
   refine .sl ⟨_,_,rfl,Cs _,Cs _,hmax (by unfold maxLen;omega),λh=>absurd rfl h⟩ ⟨by simp only[Ctx.put];omega,by simp only[Ctx.put];omega⟩ λv0 hv0=>?_
   rw[q11]at hv0;cases hv0;exact⟨Ag _,λ_=>.inr ⟨w.heap.size,cs.size,_,_,by simp[Ctx.put],rfl,λ_=>⟨rfl,BT _⟩,λ_=>rfl⟩⟩
  have hh:((w.alloc (.cells cs 5)).setCell ⟨b,1,none⟩ (.slice (some ⟨w.heap.size,0,none⟩) 0 cs.size)).heap[b]?=some (.cells (c.setIfInBounds 1 (.slice (some ⟨w.heap.size,0,none⟩) 0 cs.size)) 113 (0,0)):=by
   simp only[World.setCell,Bv,if_true,hg2,A3];rfl
  obtain⟨t1,t2⟩:=a1.turn (l:=(C.put nx C.clock (some (w.heap.size,cs.size))).loc id) (ver':=v) (cs':=[p,.sl nx C.clock 1 0 0]) hS1 (Ag _) (λ_=>rfl) (w':=(w.alloc (.cells cs 5)).setCell ⟨b,1,none⟩ (.slice (some ⟨w.heap.size,0,none⟩) 0 cs.size))
   (by rw[hloc1];exact⟨⟨rfl,rfl,rfl,by simp[World.setCell],λj _ hj=>by
      show ((w.alloc (.cells cs 5)).heap.modify b _)[j]?=_
      rw[Bv,if_neg (λe=>hj (by rw[<-e];rfl))]⟩,Ag _⟩)
   (.inr ⟨b,k,_,hloc1,.inr (by rw[hloc1];rfl),hh,by simp[g3],g4,λi u hi hu=>by
     match i,hi with
     | 0,_=>rw[B6 (by omega)]at hu;exact g5 0 u (by omega) hu
     | 1,_=>rw[BI (by omega)]at hu;cases hu;rfl,
    λi q u hq hu=>by
     match i,hq with
     | 0,hq=>cases hq;rw[B6 (by omega),e0]at hu;cases hu;exact r0.mono a2
     | 1,hq=>cases hq;rw[BI (by omega)]at hu;cases hu;exact hsl⟩)
  obtain⟨d1,d2⟩:=t1.drew;obtain⟨d3,d4⟩:=d1.drew;obtain⟨d5,d6⟩:=d3.drew;exact⟨.junk,_,_,_,rfl,⟨_,rfl⟩,.junk _,d5,(((a2.trans t2).trans d2).trans d4).trans d6⟩
theorem Zr2{P:Program}{r:Rd}{n:Nat}{F:Nat->PV}{S:Store}{o:Oper}{x:Operand}{t e:TypeId}{K:PV->Store->Prop}(ho:o.op=.call { callee:=.builtin .cap,args:=#[x],argTypes:=#[t] })(ht:P.underlying t=some (.slice e))(hx:ev F x=.sc (.slice none 0 0))(hK:K (I 0) S):PO P r n o F S K:=by
 intro G hG C w a N st next Q' hnext;have e1:=st.ev x;rw[(hG x (by simp[ho,Op.operands,Call.operands])).trans hx]at e1;have hnd:∀c,o.op≠.defer c:=by intro c hc;rw[ho]at hc;cases hc
 generalize hv:a.eval x=v at e1;cases e1;have hrun:(execOp a.eval o).run P w=.ok (.value (.int .i64 0)) w:=by
  unfold execOp;simp[ho,resolve,invoke,builtin,hv,Builtin.cap_,goInt,run_underlying ht]
 exact qb hnd hrun (hnext _ _ _ _ _ hK (.sc _) st.sim (Step.refl _ _ _))
open Go Go.Proofs
theorem qE{S:Store}{nx id:Nat}{o:Ob}(hd:zT nx S)(h:S id=o)(hne:o≠.dead):id<nx:=by
 rcases Bf id nx with q | q
 ·exact q
 ·rw[hd id q]at h;exact absurd h.symm hne
theorem qz{S:Store}{nx id:Nat}(hd:zT nx S)(hlt:id<nx)(o:Ob):zT nx (S.set id o):=λi hi=>by rw[q10 _ _ _ _ (by omega)];exact hd i hi
theorem Zr3(l:List UInt8):((bs l).data.toList.map λb=>(.sc (.int .u8 (b.toNat:Int)):PV))=l.map U8:=rfl
abbrev Xt(id v ib w n:Nat):List PV:=[.ptr id v 0,.sl ib w 1 0 n]
theorem Zr4{S:Store}{id v ib w0:Nat}{p:PV}(l m:List UInt8)(hS:S id=.cells v 113 [p,.sl ib w0 1 0 l.length])(hp:p=.sc (.pointer none)\/p=.ptr id v 0)(hB:S ib=.cells w0 5 (l.map U8))(hlen:l.length+m.length<=140737488355328):
  Spec prog 61 [.ptr id v 0,T (bs m)] S (λq S'=>q=.tup [I m.length,.sc .nilIface]/\S'=(S.set ib (.cells (w0+1) 5 ((l++m).map U8))).set id (.cells v 113 (Xt id v ib (w0+1) (l++m).length))):=by
 have hne:id≠ib:=by rintro rfl;rw[hS]at hB;cases hB
 have hsz:=wE m;have hcc:=λS (h:S id=_)=>Zh7 (S:=S) (id:=id) (v:=v) (p:=p) (s:=.sl ib w0 1 0 l.length) h hp
 refine yh Tryz.func61 Tryz.ntmps61 Tryz.results61 λnx hd=>?_
 have hlt:id<nx:=qE hd hS (by simp);have hlt2:ib<nx:=qE hd hB (by simp);refine za (zb ?_);refine za (zb ?_);refine λhsuf=>((hcc _ ((zA hlt).trans hS)).mono ?_).v
 rintro _ _ rfl;refine⟨_,_,qc _ hlt,zL hsuf ?_⟩;obtain⟨A,hA⟩:∃A,A=Ob.cells v 113 [.ptr id v 0,.sl ib w0 1 0 l.length]:=⟨_,rfl⟩;have x1:∀obs,ext (S.set id A) nx obs id=.cells v 113 [.ptr id v 0,.sl ib w0 1 0 l.length]:=λobs=>by rw[zA hlt,q11,hA]
 have x2:∀obs,ext (S.set id A) nx obs ib=.cells w0 5 (l.map U8):=λobs=>(zA hlt2).trans ((q10 _ _ _ _ (Ne.symm hne)).trans hB)
 have x3:∀B obs,ext ((S.set id A).set ib B) nx obs id=.cells v 113 [.ptr id v 0,.sl ib w0 1 0 l.length]:=λB obs=>by rw[zA hlt,q10 _ _ _ _ hne,q11,hA]
 rw[<-hA];have g1:¬nx<=id:=by omega
 have g2:¬nx<=ib:=by omega
 have g3:m.length<=9223372036854775807:=by omega
 have htk:(l.map U8).take l.length=l.map U8:=Af (by simp);refine za (ze [] (yl x1 x2 x3 hsz g1 (zE g2 g3 Zr3)) ?_);refine⟨by omega,?_⟩;refine za (ze [] hsz ?_);have hfin:((S.set id A).set ib (.cells (w0+1) 5 (l.map U8++m.map U8))).set id (.cells v 113 [.ptr id v 0,.sl ib (w0+1) 1 0 (l.length+m.length)])=(S.set ib (.cells (w0+1) 5 ((l++m).map U8))).set id (.cells v 113 (Xt id v ib (w0+1) (l++m).length)):=by
  rw[List.map_append,Ar,<-Store.set_comm S ib id _ _ (hne),Store.set_set]
 refine zg ⟨_,_,by simp;rfl,⟨by simp[zp],by rw[htk];exact hfin⟩,zN ?_⟩;exact qz (qz (qz hd hlt _) hlt2 _) hlt _
theorem Zr5{S:Store}{id v nx:Nat}(n:Nat)(h0:0<n)(hn:n<=140737488355328)(hS:S id=.cells v 113 [.sc (.pointer none),.sc (.slice none 0 0)])(hd:zT nx S):
  Spec prog 133 [.ptr id v 0,I n] S (λ_ S'=>∃w0,S'=(S.set nx (.cells w0 5 [])).set id (.cells v 113 (Xt id v nx w0 0))):=by
 have hlt:id<nx:=qE hd hS (by simp);have hcc:=λS (h:S id=_)=>Zh7 (S:=S) (id:=id) (v:=v) (p:=.sc (.pointer none)) (s:=.sc (.slice none 0 0)) h (.inl rfl)
 refine ut hd Tryz.func133 Tryz.ntmps133 Tryz.results133 ?_;refine za (zb ?_);refine λhsuf=>((hcc _ ((zA hlt).trans hS)).mono ?_).v
 rintro _ _ rfl;refine⟨_,_,qc _ hlt,zL hsuf ?_⟩;obtain⟨A,hA⟩:∃A,A=Ob.cells v 113 [.ptr id v 0,.sc (.slice none 0 0)]:=⟨_,rfl⟩;have x1:∀obs,ext (S.set id A) nx obs id=.cells v 113 [.ptr id v 0,.sc (.slice none 0 0)]:=λobs=>by rw[zA hlt,q11,hA]
 rw[<-hA];have g1:¬nx<=id:=by omega
 repeat apply za
 refine zb ?_;refine zm (by simp) ?_;refine zh ?_;have hgr:=λS (h:S id=_) (hd:S nx=.dead)=>Zr1 (S:=S) (id:=id) (v:=v) (nx:=nx) (p:=.ptr id v 0) n hn h hd
 refine za (zz (some [id]) (Row.pures [0,1,2,3,5,6,7,8,9,11] (.alt 4 (Row.pures [10,12] .done) .stop)) mixed (zo x1 g1) ?_);refine⟨by rfl,(Zr2 rfl Tryz.underlying111 (by simp) ?_)⟩;refine⟨by simp[yE],js trivial ?_⟩;refine zn (by simp;omega) ?_;refine zb ?_;refine λhsuf=>((hgr _ (x1 []) (uN (nx:=nx) (obs:=[]))).mono ?_).v
 rintro _ _ ⟨w0,rfl⟩;have hne:id≠nx:=by omega
 have e1:((ext (S.set id A) nx []).set nx (.cells w0 5 [])).set id (.cells v 113 [.ptr id v 0,.sl nx w0 1 0 0])=ext (S.set id (.cells v 113 [.ptr id v 0,.sl nx w0 1 0 0])) nx [.cells w0 5 []]:=by
  have:=qN (S:=S.set id A) (nx:=nx) (obs:=[]) (.cells w0 5 []);simp only[Ah,Bm,AS]at this;rw[this,qc _ hlt,Store.set_set]
 refine⟨_,_,e1,zL hsuf ?_⟩;have e2:(S.set nx (.cells w0 5 [])).set id (.cells v 113 (Xt id v nx w0 0))=ext (S.set id (.cells v 113 [.ptr id v 0,.sl nx w0 1 0 0])) nx [.cells w0 5 []]:=by
  have:=qN (S:=S) (nx:=nx) (obs:=[]) (.cells w0 5 []);simp only[Ah,Bm,AS,qB hd]at this;rw[this,qc _ hlt]
 exact⟨_,_,rfl,⟨w0,e2.symm⟩,λo=>.inl rfl⟩
theorem WF:∀ws:List (List UInt8),(yf ws).length=(ws.map List.length).sum+(ws.length-1)
 | []=>rfl
 | [w]=>by simp[yf]
 | w :: v :: ws=>by
  have:=WF (v :: ws);rw[Qt,Ar,Ae,this];simp only[Ax,BP,Ae];omega
theorem Zh8(l:List Nat)(k:Nat):(l.take k).sum<=l.sum:=by
 conv=>rhs;rw[<-List.take_append_drop k l]
 rw[De];omega
def ZF(ws:List (List UInt8))(k:Nat):Nat:=((ws.take k).map List.length).sum
theorem Zh9(ws:List (List UInt8))(k:Nat):ZF ws k<=(ws.map List.length).sum:=by unfold ZF;rw[List.map_take];exact Zh8 _ k
theorem Zr6{ws:List (List UInt8)}{k:Nat}{u:List UInt8}(h:ws[k]?=some u):ZF ws (k+1)=ZF ws k+u.length:=by unfold ZF;rw[AN,h];simp
theorem wr2{S:Store}{nx:Nat}{A B A2 B2:Ob}:((ext S nx [A,B]).set (nx+1) B2).set nx A2=ext S nx [A2,B2]:=by
 rw[yg _ (by omega) (by simp),yg _ (by omega) (by simp)];simp
theorem Zc5:∀(w:List UInt8) (rs:List (List UInt8)),yf (w :: rs)=w++(rs.map λu=>32 :: u).flatten
 | w,[]=>by simp[yf]
 | w,v :: rs=>by rw[Qt,Zc5 v rs];simp
def vR(w0:List UInt8)(rs:List (List UInt8))(k:Nat):List UInt8:=w0++((rs.take k).map λu=>32 :: u).flatten
theorem Zr7(w0:List UInt8)(rs:List (List UInt8)):vR w0 rs 0=w0:=by simp[vR]
theorem Zr8{w0:List UInt8}{rs:List (List UInt8)}{k:Nat}{u:List UInt8}(h:rs[k]?=some u):vR w0 rs (k+1)=(vR w0 rs k++[32])++u:=by unfold vR;rw[AN,h];simp
theorem Zr9(w0:List UInt8)(rs:List (List UInt8)):vR w0 rs rs.length=yf (w0 :: rs):=by unfold vR;rw[Ao,Zc5]
theorem Zsa(w0:List UInt8)(rs:List (List UInt8))(k:Nat):(vR w0 rs k).length<=(yf (w0 :: rs)).length:=by
 rw[Zc5];unfold vR;simp;exact Zh8 _ k
theorem Zsb(ws:List (List UInt8))(hl:ws.length<=1048576)(hw:(yf ws).length<=140737488355328):Pure prog 97 [L (ws.map bs),T (bs [32])] (T (bs (yf ws))):=by
 match ws,hl,hw with
 | [],_,_ =>
  refine zt Tryz.func97 Tryz.ntmps97 Tryz.results97 λS nx hd=>?_
  refine za (zb ?_)
  repeat apply za
  refine zb ?_;refine zj (za (zb ?_));refine zn (by simp) ?_;refine za (zb ?_);exact zg (zi hd (by simp;rfl) rfl)
 | [w],_,_ =>
  refine zt Tryz.func97 Tryz.ntmps97 Tryz.results97 λS nx hd=>?_
  refine za (zb ?_)
  repeat apply za
  refine zb ?_;refine zj (za (zb ?_));refine zm (by simp) ?_;refine za (zb ?_);refine zn (by simp) ?_;refine za (zb ?_);exact zg (zi hd (by simp;rfl) rfl)
 | w0 :: v0 :: r0,hl,hw =>
 obtain⟨rs,hrs⟩:∃rs,rs=v0 :: r0:=⟨_,rfl⟩;obtain⟨ws,hws⟩:∃ws,ws=w0 :: rs:=⟨_,rfl⟩;obtain⟨mm,hm⟩:∃mm,ws.length=mm+1:=⟨rs.length,by rw[hws];rfl⟩;have hmm:1<=mm:=by rw[hws,hrs]at hm;simp at hm;omega
 have hrm:rs.length=mm:=by rw[hws]at hm;simpa using hm
 rw[<-hrs,<-hws]at hl hw ⊢;have hjl:=WF ws;rw[hm]at hl hjl;have hs1:(bs [32]).size=1:=rfl;have w1:IntKind.i64.wrap ((ws.length:Int)-1)=(mm:Int):=by rw[AI];omega
 have q0:¬(mm:Int)=0:=by omega
 have q0n:¬mm=0:=by omega
 have q1:¬IntKind.i64.wrap ((9223372036854775807:Int).tdiv mm)<=1:=by
  rw[CC (by omega)];have h1:(9223372036854775807:Int) / mm<=9223372036854775807:=Int.ediv_le_self _ (by omega);have h2:2<=(9223372036854775807:Int) / mm:=(Int.le_ediv_iff_mul_le (by omega)).2 (by omega);rw[AI];omega
 have w2:IntKind.i64.wrap (mm:Int)=mm:=wr _ (by omega) (by omega);have hnil:¬ws=[]:=by intro h;rw[h]at hm;simp at hm
 clear hrs;refine zt Tryz.func97 Tryz.ntmps97 Tryz.results97 λS nx hd=>?_
 refine za (zb ?_)
 repeat apply za
 refine zb ?_;refine zj (za (zb ?_));refine zm (by simp[hnil]) ?_;refine za (zb ?_);refine zm (by simp;omega) ?_;refine zh (za (zb ?_))
 repeat apply za
 refine ze [] hs1 ?_;refine zn (by simp) ?_
 repeat apply za
 refine ze [] (yG hs1 w1 q0 q0n q1) ?_;refine zm (by simp) ?_;refine zh (ze [] (zE hs1 w1 w2) ?_)
 repeat apply za
 refine zb ?_;refine zj (zD (λk:Nat=>k<=ws.length) (λk=>[(0,L (ws.map bs)),(1,T (bs [32])),(5,I ((mm+ZF ws k:Nat):Int)),(39,L (ws.map bs)),(40,I ws.length),(41,I k)]) (λ_=>[]) (λk=>ws.length-k) 0 [] (by simp) (by simp[ZF]) (by simp) ?_)
 ·rintro k hk;have hsk:=Zh9 ws k;refine za (zb ?_);refine za (zv rfl (λhc=>?_) (λhc=>?_))
  ·simp at hc;obtain⟨t,tl,b1,b2,b3,f0⟩:=zF rfl (ws.map bs) k (by simpa using hc);obtain⟨u,hu,rfl⟩:∃u,ws[k]?=some u/\bs u=t:=by rw[Aj]at b1;simpa using b1
   have hsk1:=Zh9 ws (k+1);have hsum:=Zr6 hu;have husz:=wE u;rw[hsum]at hsk1;generalize ZF ws k=c0 at *;have hkl:k<ws.length:=by simpa using hc
   have hbd:mm+c0+u.length<=140737488355328:=by omega
   have v1:IntKind.i64.wrap (9223372036854775807-((mm:Int)+c0))=9223372036854775807-((mm:Int)+c0):=by rw[AI];omega
   have v2:¬(9223372036854775807-((mm:Int)+c0))<u.length:=by omega
   have v3:IntKind.i64.wrap ((mm:Int)+c0+u.length)=(mm:Int)+c0+u.length:=by rw[AI];omega
   refine zh (za (zj (za (ze [] (zo f0 hkl) ?_))))
   repeat apply za
   refine ze [] (zE husz v1 v2) ?_;refine zm (by simp) ?_;refine zh (ze [] (zo husz v3) ?_);refine zb ?_;exact zq (k+1) [] hkl (by omega) (by simp[zu k (by omega),hsum];try omega) rfl (by simp)
  ·simp at hc;obtain rfl:k=ws.length:=by omega
   refine zy ?_;have hls:ZF ws ws.length=(ws.map List.length).sum:=by unfold ZF;rw[Ao]
   obtain⟨c,hcd⟩:∃c,c=mm+(ws.map List.length).sum:=⟨_,rfl⟩;have hci:((mm:Int)+(ZF ws ws.length:Int))=(c:Int):=by rw[hls,hcd];rfl
   have hc0:0<c:=by omega
   have hcn:c<=140737488355328:=by omega
   have hgs:=λ(v:Nat) S (h:S nx=.cells v 113 [.sc (.pointer none),.sc (.slice none 0 0)]) (hd:zT (nx+1) S)=>Zr5 (S:=S) (id:=nx) (v:=v) (nx:=nx+1) c hc0 hcn h hd
   refine za (ze [] hci ?_);intros;rename_i v;have g1:¬nx+1<=nx:=by omega
   have hdd:∀A,zT (nx+1) (ext S nx [A]):=λA=>jF (obs:=[A])
   refine za (zb ?_);refine λhsuf=>((hgs v _ (by rw[vw];rfl) (hdd _)).mono ?_).v
   rintro _ _ ⟨wx,rfl⟩;have e1:∀A B A',((ext S nx [A]).set (nx+1) B).set nx A'=ext S nx [A',B]:=λA B A'=>by
    have:=qN (S:=S) (nx:=nx) (obs:=[A]) B;simp only[Bs,List.singleton_append]at this;rw[this,yg _ (by omega) (by simp)];simp
   refine⟨_,_,e1 _ _ _,zL hsuf ?_⟩;obtain⟨t,tl,b1,b2,b3,f0⟩:=zF rfl (ws.map bs) 0 (by simp;omega);obtain rfl:bs w0=t:=by rw[hws]at b1;simpa using b1
   have hwl:0<ws.length:=by omega
   have hwa:∀(S:Store) (wx:Nat) (l m:List UInt8),(yf ws).length<=140737488355328->l.length+m.length<=(yf ws).length->S nx=.cells v 113 (Xt nx v (nx+1) wx l.length)->S (nx+1)=.cells wx 5 (l.map U8)->_:=λS wx l m hw hl h1 h2=>Zr4 (S:=S) (id:=nx) (v:=v) (ib:=nx+1) (w0:=wx) l m h1 (.inr rfl) h2 (by omega)
   have hcl:∀k,(vR w0 rs k).length<=(yf ws).length:=λk=>by rw[hws];exact Zsa w0 rs k
   have hc0':=Zr7 w0 rs;have hcl0:=hcl 0;rw[hc0']at hcl0;refine za (ze [] (zo f0 hwl) ?_);refine λhsuf=>((hwa _ wx [] w0 hw (by simpa using hcl0) (by rw[vw];rfl) (by rw[zU];rfl)).mono ?_).v
   rintro _ _ ⟨rfl,rfl⟩;refine⟨_,_,wr2,zL hsuf ?_⟩;have hwl1:1<=ws.length:=hwl;have ht1:ws.length-1=rs.length:=by rw[hws];rfl
   have htl:List.take rs.length (List.flatMap Enc.enc (ws.map bs)).tail=(rs.map bs).flatMap Enc.enc:=by
    have:(List.flatMap Enc.enc (ws.map bs)).tail=(rs.map bs).flatMap Enc.enc:=by rw[hws];rfl
    rw[this];exact Af (by rw[j4];simp[Enc.sz])
   have hlr:(PV.lst rs.length ((rs.map bs).flatMap Enc.enc))=L (rs.map bs):=by unfold L;rw[List.length_map]
   repeat apply za
   refine ze [] (zE hwl1 ht1 htl) ?_;rw[<-hc0'];refine zj (zD (λk:Nat=>k<=rs.length) (λk=>[(1,T (bs [32])),(8,.ptr nx v 0),(63,L (rs.map bs)),(64,I rs.length),(65,I k)]) (λk=>[.cells v 113 (Xt nx v (nx+1) (wx+1+2*k) (vR w0 rs k).length),.cells (wx+1+2*k) 5 ((vR w0 rs k).map U8)]) (λk=>rs.length-k) 0 [] (by simp) (by simp[hlr]) (by simp) ?_);rintro k hk;refine za (zb ?_);refine za (zv rfl (λhc=>?_) (λhc=>?_))
   ·simp at hc;obtain⟨t,tl,b1,b2,b3,f0⟩:=zF rfl (rs.map bs) k (by simpa using hc);obtain⟨u,hu,rfl⟩:∃u,rs[k]?=some u/\bs u=t:=by rw[Aj]at b1;simpa using b1
    have hkl:k<rs.length:=by simpa using hc
    have hcs:=Zr8 (w0:=w0) hu;have hk1:=hcl (k+1);rw[hcs]at hk1;simp only[Ar,Bs]at hk1;refine zh (za (zj (za (ze [] (zo f0 hkl) ?_))));refine za (zb ?_);refine λhsuf=>((hwa _ _ (vR w0 rs k) [32] hw (by simp;omega) (by rw[vw];rfl) (by rw[zU];rfl)).mono ?_).v
    rintro _ _ ⟨rfl,rfl⟩;obtain⟨mid,hmid⟩:∃mid,mid=vR w0 rs k++[32]:=⟨_,rfl⟩;rw[<-hmid]at hcs ⊢;have hml:mid.length=(vR w0 rs k).length+1:=by rw[hmid];simp
    refine⟨_,_,wr2,zL hsuf ?_⟩;refine zb ?_;refine λhsuf=>((hwa _ _ mid u hw (by rw[hml];omega) (by rw[vw];rfl) (by rw[zU];rfl)).mono ?_).v
    rintro _ _ ⟨rfl,rfl⟩;rw[<-hcs];refine⟨_,_,wr2,zL hsuf ?_⟩;refine zb ?_;exact zq (k+1) [] hkl (by omega) (by simp[zu k (by omega)];try omega) rfl (by simp only[show wx+1+2*(k+1)=wx+1+2*k+1+1 by omega,AF])
   ·simp at hc;obtain rfl:k=rs.length:=by omega
    refine zy ?_;rw[Zr9,<-hws];have hne0:yf ws≠[]:=by intro h;rw[h]at hjl;simp only[Ah]at hjl;omega
    refine za (zb ?_);refine λhsuf=>((ZrU (id:=nx) (v:=v) (ib:=nx+1) (w0:=wx+1+2*rs.length) (p:=.ptr nx v 0) (yf ws) (by rw[vw];rfl) (by rw[zU];rfl) hne0 hw).mono ?_).v
    rintro _ _ ⟨rfl,rfl⟩;rw[yg _ (by omega) (by simp)];refine⟨_,_,rfl,zL hsuf ?_⟩;exact zg (zi hd (by simp;rfl) rfl)
theorem Zsc(ws:List (List UInt8))(hl:ws.length<=1048576)(hw:(yf ws).length<=1048576):Pure prog 59 [L (ws.map bs)] (T (bs (yf ws++[10]))):=by
 have hj:=Zsb ws hl (by omega);have hs:=Jj (yf ws) [10] (by simp only[Bs];omega);refine zt Tryz.func59 Tryz.ntmps59 Tryz.results59 λS nx hd=>?_
 refine za (zb ?_);refine za (zb ?_);refine qt [] hj hs ?_;exact zg (zi hd (by simp;rfl) rfl)
open Go Go.Proofs
theorem Xu{a b:List UInt8}:bs a=bs b<->a=b:=by
 constructor
 ·intro h;have:=congrArg (λx:ByteArray=>x.data.toList) h;exact this
 ·rintro rfl;rfl
theorem Xv(ws:Ln)(k:Nat)(h:k<ws.length):∃u tl,ws[k]?=some u/\List.drop k ((ws.map bs).flatMap Enc.enc)=Enc.enc (bs u)++tl:=by
 obtain⟨t,tl,b1,b2,b3,f0⟩:=zF rfl (ws.map bs) k (by simpa using h);obtain⟨u,hu,rfl⟩:∃u,ws[k]?=some u/\bs u=t:=by rw[Aj]at b1;simpa using b1
 exact⟨u,tl,hu,f0⟩
theorem Zia(a b:Ln)(ha:a.length<=1048576)(hb:b.length<=1048576):Pure prog 139 [L (a.map bs),L (b.map bs)] (B (decide (a=b))):=by
 refine zt Tryz.func139 Tryz.ntmps139 Tryz.results139 λS nx hd=>?_
 refine za (zb ?_)
 by_cases hl:a.length=b.length
 ·repeat apply za
  refine ze [] hl ?_;refine zm (by simp[hl]) ?_;refine zh ?_
  repeat apply za
  refine zb ?_;refine zj (zD (λk:Nat=>k<=a.length/\a.take k=b.take k) (λk=>[(0,L (a.map bs)),(1,L (b.map bs)),(12,I a.length),(13,I k)]) (λ_=>[]) (λk=>a.length-k) 0 [] (by simp) (by simp[hl]) (by simp) ?_);rintro k ⟨hk,he⟩;refine za (zb ?_);refine za (zv rfl (λhc=>?_) (λhc=>?_))
  ·simp at hc;obtain⟨u,tl,hu,f0⟩:=Xv a k hc;obtain⟨v,tl2,hv,f1⟩:=Xv b k (by omega);have hkb:k<b.length:=by omega
   refine zh (za (zj (za (zb ?_))))
   by_cases huv:u=v
   ·subst huv;refine za (zz none (Row.pures [0,1,2,3,4,5,6,7,8] .done) mixed (yG f0 f1 hc hkb Zc0) ?_);refine zm (by simp) ?_;refine zh (zb ?_);exact zq (k+1) [] ⟨hc,by rw[AN,AN,hu,hv,he]⟩ (by omega) (by simp[zu k (by omega)]) rfl (by simp)
   ·have hne:=Zc1 (λh=>huv (Xu.1 h):bs u≠bs v);refine za (zz none (Row.pures [0,1,2,3,4,5,6,7,8] .done) mixed (yG f0 f1 hc hkb hne) ?_);refine zn (by simp) ?_;refine za (zb ?_);have hab:¬a=b:=by rintro rfl;rw[hu]at hv;exact huv (Option.some.inj hv)
    exact zg (zi hd (by simp;rfl) (by simp[hab,zp]))
  ·simp at hc;obtain rfl:k=a.length:=by omega
   rw[Ao,hl,Ao]at he;subst he;refine zy (za (zb ?_));exact zg (zi hd (by simp;rfl) (by simp))
 ·repeat apply za
  refine zb ?_;refine zn (by simp;omega) ?_;refine za (zb ?_);have hab:¬a=b:=by rintro rfl;exact hl rfl
  exact zg (zi hd (by simp;rfl) (by simp[hab,zp]))
structure Rdr where
 pos:Nat
 d:Int
 v:Int
 c:Int
 l:Int
 m:Int
 bad:Bool
abbrev YW(ls:List Ln)(r:Rdr)(cs ds:PV):List PV:=[L (wl ls),I r.pos,I r.d,I r.v,I r.c,I r.l,cs,ds,I r.m,B r.bad]
def yX(ls:List Ln)(r:Rdr):Rdr:=if r.pos<ls.length then { r with pos:=r.pos+1 } else r
theorem WG{S:Store}{id ver:Nat}(ls:List Ln)(r:Rdr)(cs ds:PV)(hS:S id=.cells ver 164 (YW ls r cs ds))(hl:ls.length<=1048576):
  Spec prog 140 [.ptr id ver 0] S (λq S'=>q=L ((zO ls r.pos).map bs)/\S'=S.set id (.cells ver 164 (YW ls (yX ls r) cs ds))):=by
 obtain⟨pos,d,v,c,l,m,bad⟩:=r;have hwl:(wl ls).length=ls.length:=by simp
 refine yh Tryz.func140 Tryz.ntmps140 Tryz.results140 λnx hd=>?_
 have hlt:id<nx:=qE hd hS (by simp);have g1:¬nx<=id:=by omega
 have x1:∀obs,ext S nx obs id=.cells ver 164 (YW ls ⟨pos,d,v,c,l,m,bad⟩ cs ds):=λobs=>(zA hlt).trans hS
 by_cases hp:pos<ls.length
 ·have hp2:¬(ls.length:Int)<=pos:=by omega
  refine za (zb ?_)
  repeat apply za
  refine zz (some [id]) (Row.pures [0,1,2,3,4,5,6,7,8,9] .done) mixed (zS x1 g1 hwl hp2) ?_;refine zm (by simp) ?_;refine zh ?_;have w1:IntKind.i64.wrap ((pos:Int)+1)=(pos:Int)+1:=by rw[AI];omega
  refine za (ze [] (zE x1 g1 w1) ?_);obtain⟨A,hA⟩:∃A,A=Ob.cells ver 164 (YW ls ⟨pos+1,d,v,c,l,m,bad⟩ cs ds):=⟨_,rfl⟩;have hnx:yX ls ⟨pos,d,v,c,l,m,bad⟩=⟨pos+1,d,v,c,l,m,bad⟩:=if_pos hp;have hset:ext (S.set id (.cells ver 164 [L (wl ls),I ((pos:Int)+1),I d,I v,I c,I l,cs,ds,I m,B bad])) nx []=ext (S.set id A) nx []:=by rw[hA];rfl
  have x2:∀obs,ext (S.set id A) nx obs id=.cells ver 164 (YW ls ⟨pos+1,d,v,c,l,m,bad⟩ cs ds):=λobs=>by rw[zA hlt,q11,hA]
  rw[hset];obtain⟨t,tl,b1,b2,b3,f0⟩:=zF rfl (wl ls) pos (by rw[hwl];exact hp);have hline:t=(zO ls pos).map bs:=by
   have:ls[pos]?=some (zO ls pos):=by unfold zO;rw[Aa,Ad hp];rfl
   rw[Aj,this]at b1;exact(Option.some.inj b1).symm
  have w2:IntKind.i64.wrap (pos:Int)=(pos:Int):=by rw[AI];omega
  refine za (zz (some [id]) (Row.pures [0,1,2,3,4,5,6,7,8,9,10,11] .done) mixed (yl x2 g1 w2 f0 hwl hp) ?_);refine zg ⟨_,_,by simp;rfl,⟨by simp[zp,hline],by rw[hnx,hA]⟩,zN ?_⟩;exact qz hd hlt _
 ·have hp2:(ls.length:Int)<=pos:=by omega
  have hnx:yX ls ⟨pos,d,v,c,l,m,bad⟩=⟨pos,d,v,c,l,m,bad⟩:=if_neg hp;have hline:zO ls pos=[]:=by unfold zO;rw[Aa,Ai (by omega)];rfl
  refine za (zb ?_)
  repeat apply za
  refine zz (some [id]) (Row.pures [0,1,2,3,4,5,6,7,8,9] .done) mixed (zS x1 g1 hwl hp2) ?_;refine zn (by simp) ?_;refine za (zb ?_);refine ZU 2 rfl ?_;rw[hnx];simp only[hline];rw[Yh S id _ hS];exact zg (zi hd (by simp;rfl) rfl)
def LnsOk(ls:List Ln):Prop:=ls.length<=1048576/\∀l∈ls,l.length<=1048576/\∀w∈l,w.length<=1048576
theorem LnsOk.at{ls:List Ln}(h:LnsOk ls)(k:Nat):(zO ls k).length<=1048576/\∀w∈zO ls k,w.length<=1048576:=by
 unfold zO;rw[Aa];cases hk:ls[k]? with
 | none=>simp
 | some l=>exact h.2 l (Ab hk)
theorem Zsd(l:Ln)(k:Nat):xz l (k+1)=xz l k++[l.getD (2*k+1) []]:=by simp[xz,AO]
theorem Zau(l:Ln)(k:Nat):(xz l k).length=k:=by simp[xz]
theorem Zse{l:Ln}{k:Nat}(hw:∀w∈l,w.length<=1048576):∀w∈xz l k,w.length<=1048576:=by
 intro w hm;obtain⟨i,_,rfl⟩:=An.1 hm;rw[Aa];cases hk:l[2*i+1]? with
 | none=>simp
 | some u=>exact hw u (Ab hk)
theorem WH{ws:Ln}{k:Nat}{u:Wd}(h:ws[k]?=some u):ws.getD k []=u:=by rw[Aa,h];rfl
theorem Zib{S:Store}{id ver:Nat}(ls:List Ln)(r:Rdr)(cs ds:PV)(names:Ln)(hS:S id=.cells ver 164 (YW ls r cs ds))(hl:LnsOk ls)(hn:names.length<=1000):
  Spec prog 141 [.ptr id ver 0,L (names.map bs)] S (λq S'=>q=vn (yV (zO ls r.pos) names)/\S'=S.set id (.cells ver 164 (YW ls (yX ls r) cs ds))):=by
 have hnext:=λS (h:S id=_)=>WG (S:=S) (id:=id) (ver:=ver) ls r cs ds h hl.1
 obtain⟨hll,hlw⟩:=hl.at r.pos;obtain⟨S1,hS1⟩:∃S1,S1=S.set id (.cells ver 164 (YW ls (yX ls r) cs ds)):=⟨_,rfl⟩;rw[<-hS1];generalize zO ls r.pos=ln at *;refine yh Tryz.func141 Tryz.ntmps141 Tryz.results141 λnx hd=>?_
 have hlt:id<nx:=qE hd hS (by simp);have g1:¬nx<=id:=by omega
 have hd1:zT nx S1:=by rw[hS1];exact qz hd hlt _
 refine za (zb ?_);refine za (xl [] (by rfl) (by rfl) λK Gc Gh hK hGc hGh X hX0 hX=>?_);simp -implicitDefEqProofs [hX0,hX]
 try clear hX0 hX X
 refine hGc _ _ _ _ _ _ _ λhsuf=>((hnext _ ((zA hlt).trans hS)).mono ?_).v
 rintro _ _ ⟨rfl,rfl⟩;refine⟨S1,[],by rw[qc _ hlt,<-hS1],?_⟩;clear hGc hGh;clear Gc Gh;refine xL hsuf (D:=[]) (by rfl) λGc Gh hGc hGh X hX0 hX=>?_
 simp -implicitDefEqProofs [hX0,hX];clear hX0 hX X;refine hK _ _ _ ?_;clear hK hGc hGh;clear K Gc Gh;clear hnext hsuf hd hS1 hS;have hd:=hd1;have w0:IntKind.i64.wrap (2*(names.length:Int))=2*names.length:=by rw[AI];omega
 by_cases hlen:ln.length=2*names.length
 ·have c0:(ln.length:Int)=2*names.length:=by omega
  repeat apply za
  refine ze [] (zo w0 c0) ?_;refine zm (by simp) ?_;refine zh (za (zb ?_));refine za (jf 7 9 1 rfl λv1=>?_);refine za (zb ?_);refine zj (zD (λs:Nat × Nat=>s.1<=names.length/\∀i,i<s.1->ln.getD (2*i) []=names.getD i []) (λ(k,v)=>[(6,L (ln.map bs)),(7,.sl nx v 1 0 k),(18,L (names.map bs)),(19,I names.length),(20,I k)]) (λ(k,v)=>[.cells v 9 (((xz ln k).map bs).flatMap Enc.enc)]) (λs=>names.length-s.1) (0,v1) [] ⟨by simp,λi hi=>absurd hi (DN _)⟩ (by simp) (by simp[xz]) ?_);rintro⟨k,v⟩ ⟨hk,hq⟩;simp only at hk hq ⊢;refine za (zb ?_);refine za (zv rfl (λhc=>?_) (λhc=>?_))
  ·simp at hc;obtain⟨a,tl,ha,f0⟩:=Xv names k hc;obtain⟨u,tl2,hu,f1⟩:=Xv ln (2*k) (by omega);obtain⟨x,tl3,hx,f2⟩:=Xv ln (2*k+1) (by omega);have k1:2*k<ln.length:=by omega
   have k2:2*k+1<ln.length:=by omega
   have w1:IntKind.i64.wrap (2*(k:Int))=((2*k:Nat):Int):=by rw[AI];omega
   have w2:IntKind.i64.wrap (((2*k:Nat):Int)+1)=((2*k+1:Nat):Int):=zu _ (by omega);obtain⟨k2k,hk2⟩:∃n,n=2*k:=⟨_,rfl⟩;obtain⟨k2l,hk3⟩:∃n,n=2*k+1:=⟨_,rfl⟩;rw[<-hk2]at f1 k1 w1 w2 hu;rw[<-hk3]at f2 k2 hx;have w2':IntKind.i64.wrap ((k2k:Int)+1)=(k2l:Int):=by rw[w2,hk2,hk3]
   refine zh (za (zj (za (ze [] (zo f0 hc) ?_))))
   by_cases hua:u=a
   ·subst hua
    repeat apply za
    refine ze [] (zS f1 k1 w1 Zc0) ?_;refine zm (by simp) ?_;refine zh ?_;have hol:(xz ln k).length=k:=Zau ln k;refine ze [] (zS f2 k2 w1 w2') ?_;refine⟨by omega,?_⟩;refine zb ?_;have hod:((xz ln (k+1)).map bs).flatMap Enc.enc=List.take k (((xz ln k).map bs).flatMap Enc.enc)++[T (bs x)]:=by
     rw[Af (by rw[Zab,List.length_map,hol];exact Ag _),Zsd,<-hk3,WH hx,List.map_append,Av];rfl
    exact zq (k+1,v+1) [] ⟨hc,λi hi=>by
     rcases Bf i k with q | q
     ·exact hq i q
     ·obtain rfl:i=k:=by omega
      rw[<-hk2,WH hu,WH ha]⟩ (by omega) (by simp[zu k (by omega)]) rfl (by simp only[hod,AF])
   ·have hne:=Zc1 (λh=>hua (Xu.1 h):bs u≠bs a)
    repeat apply za
    refine ze [] (zS f1 k1 w1 hne) ?_;refine zn (by simp) ?_;refine za (zb ?_);have hnb:yV ln names=none:=by
     unfold yV Jo;rw[if_neg];rw[Au,As];rintro⟨_,h2⟩;have:=of_decide_eq_true (h2 k (AJ.2 hc));rw[<-hk2,WH hu,WH ha]at this;exact hua this
    exact zg (zi hd (by simp;rfl) (by rw[hnb];rfl))
  ·simp at hc;obtain rfl:k=names.length:=by omega
   have hnb:yV ln names=jB (xz ln names.length):=by
    unfold yV Jo;rw[if_pos];rw[Au,As];exact⟨decide_eq_true hlen,λi hi=>decide_eq_true (hq i (AJ.1 hi))⟩
   have hnum:=ZcY (xz ln names.length) (by rw[Zau];omega) (λw hw=>by have:=Zse hlw w hw;omega);have hol:(xz ln names.length).length=names.length:=Zau ln _;rw[hnb];generalize xz ln names.length=od at *;refine zy (yb 0 rfl ?_);have hol2:=hol.symm;rw[show L (od.map bs)=.lst od.length ((od.map bs).flatMap Enc.enc) by unfold L;rw[List.length_map]]at hnum;cases hz:jB od with
   | none =>
    rw[hz]at hnum;simp only[vn]at hnum ⊢;refine za (ze [] hol2 ?_);refine zr hnum ?_;exact zg (zi hd (by simp;rfl) rfl)
   | some z =>
    rw[hz]at hnum;simp only[vn]at hnum ⊢;refine za (ze [] hol2 ?_);refine zr hnum ?_;exact zg (zi hd (by simp;rfl) rfl)
 ·have c0:¬(ln.length:Int)=2*names.length:=by omega
  repeat apply za
  refine ze [] (zo w0 c0) ?_;refine zn (by simp) ?_;refine za (zb ?_);have hnb:yV ln names=none:=by unfold yV Jo;rw[decide_eq_false hlen];rfl
  exact zg (zi hd (by simp;rfl) (by rw[hnb];rfl))
open Go Go.Proofs
theorem Xw{l names:Ln}{z:List Int}(h:yV l names=some z):z.length=names.length:=by
 unfold yV at h;split at h
 ·rw[ZhZ h,Zau]
 ·cases h
abbrev yd(ver:Nat)(ls:List Ln)(r:Rdr)(cs ds:PV):Ob:=.cells ver 164 (YW ls r cs ds)
theorem Zsf{S:Store}{id ver:Nat}(ls:List Ln)(r:Rdr)(cs ds:PV)(hS:S id=yd ver ls r cs ds)(hl:LnsOk ls):
  Spec prog 102 [.ptr id ver 0] S (λq S'=>q=B (decide (zO ls r.pos=[xV,[49]]))/\S'=S.set id (yd ver ls (yX ls r) cs ds)):=by
 have hnext:=λS (h:S id=_)=>WG (S:=S) (id:=id) (ver:=ver) ls r cs ds h hl.1
 have heq:=Zia (zO ls r.pos) [xV,[49]] (hl.at r.pos).1 (by simp);obtain⟨S1,hS1⟩:∃S1,S1=S.set id (yd ver ls (yX ls r) cs ds):=⟨_,rfl⟩;rw[<-hS1];generalize zO ls r.pos=ln at *;refine yh Tryz.func102 Tryz.ntmps102 Tryz.results102 λnx hd=>?_
 have hlt:id<nx:=qE hd hS (by simp);have hd1:zT nx S1:=by rw[hS1];exact qz hd hlt _
 refine za (zb ?_);refine za (zb ?_);refine λhsuf=>((hnext _ ((zA hlt).trans hS)).mono ?_).v
 rintro _ _ ⟨rfl,rfl⟩;refine⟨S1,[],by rw[qc _ hlt,<-hS1],zL hsuf ?_⟩;refine λhsuf=>((heq _).mono ?_).v
 rintro _ _ ⟨rfl,rfl⟩;refine⟨_,_,rfl,zL hsuf ?_⟩;clear hnext hd hS1 hS;have hd:=hd1;exact zg (zi hd (by simp;rfl) rfl)
theorem Zsg{S:Store}{id ver:Nat}(ls:List Ln)(r:Rdr)(cs ds:PV)(hS:S id=yd ver ls r cs ds)(hl:LnsOk ls):
  Spec prog 103 [.ptr id ver 0] S (λq S'=>match yV (zO ls r.pos) [xW,xX,xY,xZ] with
   | some [d,v,c,l]=>q=B true/\S'=S.set id (yd ver ls { yX ls r with d:=d,v:=v,c:=c,l:=l } cs ds)
   | _=>q=B false/\S'=S.set id (yd ver ls (yX ls r) cs ds)):=by
 have hnamed:=λS (h:S id=_)=>Zib (S:=S) (id:=id) (ver:=ver) ls r cs ds [xW,xX,xY,xZ] h hl (by simp)
 cases hz:yV (zO ls r.pos) [xW,xX,xY,xZ] with
 | none =>
  rw[hz]at hnamed;simp only[vn]at hnamed ⊢;obtain⟨S1,hS1⟩:∃S1,S1=S.set id (yd ver ls (yX ls r) cs ds):=⟨_,rfl⟩;rw[<-hS1];refine yh Tryz.func103 Tryz.ntmps103 Tryz.results103 λnx hd=>?_
  have hlt:id<nx:=qE hd hS (by simp);have hd1:zT nx S1:=by rw[hS1];exact qz hd hlt _
  refine za (zb ?_);refine za (xl [] (by rfl) (by rfl) λK Gc Gh hK hGc hGh X hX0 hX=>?_);simp -implicitDefEqProofs [hX0,hX]
  try clear hX0 hX X
  refine hGc _ _ _ _ _ _ _ λhsuf=>((hnamed _ ((zA hlt).trans hS)).mono ?_).v
  rintro _ _ ⟨rfl,rfl⟩;refine⟨S1,[],by rw[qc _ hlt,<-hS1],?_⟩;clear hGc hGh;clear Gc Gh;refine xL hsuf (D:=[]) (by rfl) λGc Gh hGc hGh X hX0 hX=>?_
  simp -implicitDefEqProofs [hX0,hX];clear hX0 hX X;refine hK _ _ _ ?_;clear hK hGc hGh;clear K Gc Gh;clear hnamed hsuf hd hS1 hS;have hd:=hd1
  repeat apply za
  refine zb ?_;refine zm (by simp) ?_;refine zh (za (zb ?_));exact zg (zi hd (by simp;rfl) rfl)
 | some z =>
  obtain⟨d,v,c,l,rfl⟩:∃d v c l,z=[d,v,c,l]:=by
   have:=Xw hz
   match z,this with
   | [d,v,c,l],_=>exact⟨d,v,c,l,rfl⟩
  rw[hz]at hnamed;simp only[vn]at hnamed ⊢;generalize yX ls r=r1 at *;obtain⟨pos,d0,v0,c0,l0,m,bad⟩:=r1;refine yh Tryz.func103 Tryz.ntmps103 Tryz.results103 λnx hd=>?_
  have hlt:id<nx:=qE hd hS (by simp);refine za (zb ?_);refine za (zb ?_);refine λhsuf=>((hnamed _ ((zA hlt).trans hS)).mono ?_).v
  rintro _ _ ⟨rfl,rfl⟩;refine⟨_,[],qc _ hlt,zL hsuf ?_⟩;obtain⟨S1,hS1⟩:∃S1,S1=S.set id (yd ver ls ⟨pos,d0,v0,c0,l0,m,bad⟩ cs ds):=⟨_,rfl⟩;rw[<-hS1];have g1:¬nx<=id:=by omega
  have x1:∀obs,ext S1 nx obs id=yd ver ls ⟨pos,d0,v0,c0,l0,m,bad⟩ cs ds:=λobs=>by rw[zA hlt,hS1,q11]
  repeat apply za
  refine zb ?_;refine zn (by simp) ?_;have x2:∀A obs,ext (S1.set id A) nx obs id=A:=λA obs=>by rw[zA hlt,q11]
  refine zz (some []) (Row.pures [0,1,2,3,4,5,6,7,8,9,10,11,12,13,14,15,16,17,18] (.alt 19 (Row.pures [20,21,22] (.alt 23 (Row.pures [24,25,26] (.alt 27 (Row.pures [28,29,30] (.alt 31 (.done) .stop)) .stop)) .stop)) .stop)) mixed (zS x1 g1 x2 Store.set_set) ?_;have hfin:S1.set id (.cells ver 164 [L (wl ls),I pos,I d,I v,I c,I l,cs,ds,I m,B bad])=S.set id (yd ver ls ⟨pos,d,v,c,l,m,bad⟩ cs ds):=by rw[hS1,Store.set_set]
  rw[hfin];refine za (zb ?_);refine zg ⟨_,_,by simp;rfl,⟨by simp[zp],rfl⟩,zN ?_⟩;exact qz hd hlt _
theorem Zsh{S:Store}{id ver:Nat}(ls:List Ln)(r:Rdr)(cs ds:PV)(hS:S id=yd ver ls r cs ds)(hl:LnsOk ls):
  Spec prog 104 [.ptr id ver 0] S (λq S'=>match yV (zO ls r.pos) [x7] with
   | some [m]=>q=B true/\S'=S.set id (yd ver ls { yX ls r with m:=m } cs ds)
   | _=>q=B false/\S'=S.set id (yd ver ls (yX ls r) cs ds)):=by
 have hnamed:=λS (h:S id=_)=>Zib (S:=S) (id:=id) (ver:=ver) ls r cs ds [x7] h hl (by simp)
 cases hz:yV (zO ls r.pos) [x7] with
 | none =>
  rw[hz]at hnamed;simp only[vn]at hnamed ⊢;obtain⟨S1,hS1⟩:∃S1,S1=S.set id (yd ver ls (yX ls r) cs ds):=⟨_,rfl⟩;rw[<-hS1];refine yh Tryz.func104 Tryz.ntmps104 Tryz.results104 λnx hd=>?_
  have hlt:id<nx:=qE hd hS (by simp);have hd1:zT nx S1:=by rw[hS1];exact qz hd hlt _
  refine za (zb ?_);refine za (xl [] (by rfl) (by rfl) λK Gc Gh hK hGc hGh X hX0 hX=>?_);simp -implicitDefEqProofs [hX0,hX]
  try clear hX0 hX X
  refine hGc _ _ _ _ _ _ _ λhsuf=>((hnamed _ ((zA hlt).trans hS)).mono ?_).v
  rintro _ _ ⟨rfl,rfl⟩;refine⟨S1,[],by rw[qc _ hlt,<-hS1],?_⟩;clear hGc hGh;clear Gc Gh;refine xL hsuf (D:=[]) (by rfl) λGc Gh hGc hGh X hX0 hX=>?_
  simp -implicitDefEqProofs [hX0,hX];clear hX0 hX X;refine hK _ _ _ ?_;clear hK hGc hGh;clear K Gc Gh;clear hnamed hsuf hd hS1 hS;have hd:=hd1
  repeat apply za
  refine zb ?_;refine zm (by simp) ?_;refine zh (za (zb ?_));exact zg (zi hd (by simp;rfl) rfl)
 | some z =>
  obtain⟨m,rfl⟩:∃m,z=[m]:=by
   have:=Xw hz
   match z,this with
   | [m],_=>exact⟨m,rfl⟩
  rw[hz]at hnamed;simp only[vn]at hnamed ⊢;generalize yX ls r=r1 at *;obtain⟨pos,d,v,c,l,m0,bad⟩:=r1;refine yh Tryz.func104 Tryz.ntmps104 Tryz.results104 λnx hd=>?_
  have hlt:id<nx:=qE hd hS (by simp);refine za (zb ?_);refine za (zb ?_);refine λhsuf=>((hnamed _ ((zA hlt).trans hS)).mono ?_).v
  rintro _ _ ⟨rfl,rfl⟩;refine⟨_,[],qc _ hlt,zL hsuf ?_⟩;obtain⟨S1,hS1⟩:∃S1,S1=S.set id (yd ver ls ⟨pos,d,v,c,l,m0,bad⟩ cs ds):=⟨_,rfl⟩;rw[<-hS1];have g1:¬nx<=id:=by omega
  have x1:∀obs,ext S1 nx obs id=yd ver ls ⟨pos,d,v,c,l,m0,bad⟩ cs ds:=λobs=>by rw[zA hlt,hS1,q11]
  repeat apply za
  refine zb ?_;refine zn (by simp) ?_;refine ze [] (zo x1 g1) ?_;have hfin:S1.set id (.cells ver 164 [L (wl ls),I pos,I d,I v,I c,I l,cs,ds,I m,B bad])=S.set id (yd ver ls ⟨pos,d,v,c,l,m,bad⟩ cs ds):=by rw[hS1,Store.set_set]
  rw[hfin];refine za (zb ?_);refine zg ⟨_,_,by simp;rfl,⟨by simp[zp],rfl⟩,zN ?_⟩;exact qz hd hlt _
theorem Zsi{S:Store}{id ver:Nat}(ls:List Ln)(r:Rdr)(cs ds:PV)(hS:S id=yd ver ls r cs ds):
  Spec prog 107 [.ptr id ver 0] S (λq S'=>q=B (decide (r.pos=ls.length))/\S'=S):=by
 obtain⟨pos,d,v,c,l,m,bad⟩:=r;have hwl:(wl ls).length=ls.length:=by simp
 refine yh Tryz.func107 Tryz.ntmps107 Tryz.results107 λnx hd=>?_
 have hlt:id<nx:=qE hd hS (by simp);have g1:¬nx<=id:=by omega
 have x1:∀obs,ext S nx obs id=yd ver ls ⟨pos,d,v,c,l,m,bad⟩ cs ds:=λobs=>(zA hlt).trans hS
 refine za (zb ?_);refine za (zz (some [id]) (Row.pures [0,1,2,3,4,5,6,7,8,9,10] .done) mixed (zE x1 g1 hwl) ?_);exact zg (zi hd (by simp;rfl) (by simp[zp,Int.natCast_inj]))
open Go Go.Proofs
def ZG(n:Int)(ps:Ln)(k:Nat):Bool:=!((ps.take k).all λw=>decide ((w.length:Int)=n))
theorem Zsj(n:Int)(ps:Ln):ZG n ps 0=false:=by simp[ZG]
theorem Zsk{n:Int}{ps:Ln}{k:Nat}{w:Wd}(h:ps[k]?=some w):ZG n ps (k+1)=(ZG n ps k || !decide ((w.length:Int)=n)):=by
 unfold ZG;rw[AN,h];simp
theorem Zsl{w:Wd}(h:wH w=true):(vQ w).1=jW w/\(vQ w).2≠2:=by
 unfold vQ jW;rw[if_pos h];split<;>simp
theorem Zsm{w:Wd}(h:wH w=false):(vQ w).2=2:=by
 unfold vQ;rw[if_neg (by rw[h];simp)]
theorem Zsn{S:Store}{id ver idC vC:Nat}(ls:List Ln)(r:Rdr)(cu:List Cust)(ds:PV)(l:Ln)(hS:S id=yd ver ls r (.sl idC vC 8 0 cu.length) ds)(hC:S idC=.cells vC 87 (cu.flatMap Enc.enc))(hcu:cu.length<=1048576)(hl:l.length<=1048576/\∀w∈l,w.length<=1048576):
  Spec prog 142 [.ptr id ver 0,L (l.map bs)] S (λq S'=>match QC r.d l with
   | none=>q=B false/\∃b,S'=S.set id (yd ver ls { r with bad:=b } (.sl idC vC 8 0 cu.length) ds)
   | some (c,ok)=>q=B true/\S'=(S.set id (yd ver ls { r with bad:=r.bad || !ok } (.sl idC (vC+1) 8 0 (cu.length+1)) ds)).set idC (.cells (vC+1) 87 ((cu++[c]).flatMap Enc.enc))):=by
 have hne:id≠idC:=by rintro rfl;rw[hS]at hC;simp at hC
 obtain⟨pos,d,v,c,ln,m,bad⟩:=r;rcases l with _ | ⟨dw,ps⟩
 ·simp only[QC];refine yh Tryz.func142 Tryz.ntmps142 Tryz.results142 λnx hd=>?_
  refine za (zb ?_)
  repeat apply za
  refine zb ?_;refine zn (by simp) ?_;refine za (zb ?_);refine zg ⟨_,_,by simp;rfl,⟨by simp[zp],bad,(Yh S id _ hS).symm⟩,zN ?_⟩;exact hd
 ·rw[ZcW];have hnum:=Zhn dw (by have:=hl.2 dw (by simp);omega);cases hz:jV dw with
  | none =>
   rw[hz]at hnum;simp only[Xk,Dh,A6,false_and,if_false]at hnum ⊢;refine yh Tryz.func142 Tryz.ntmps142 Tryz.results142 λnx hd=>?_
   refine za (zb ?_)
   repeat apply za
   refine zb ?_;refine zm (by simp;omega) ?_;refine zh (za (zb ?_));refine zr hnum ?_
   repeat apply za
   refine zb ?_;refine zn (by simp) ?_;refine za (zb ?_);refine zg ⟨_,_,by simp;rfl,⟨by simp[zp],bad,(Yh S id _ hS).symm⟩,zN ?_⟩;exact hd
  | some dn =>
   have hdv:yQ dw=dn:=by unfold yQ;rw[hz];rfl
   rw[hz]at hnum;simp only[Xk]at hnum;refine yh Tryz.func142 Tryz.ntmps142 Tryz.results142 λnx hd=>?_
   have hlt:id<nx:=qE hd hS (by simp);have hltC:idC<nx:=qE hd hC (by simp);have g1:¬nx<=id:=by omega
   refine za (zb ?_)
   repeat apply za
   refine zb ?_;refine zm (by simp;omega) ?_;refine zh (za (zb ?_));refine zr hnum ?_
   repeat apply za
   refine zb ?_;refine zm (by simp) ?_;refine zh (za (zb ?_));intro v0;refine jg 0 2 98 1 rfl rfl λv1=>?_
   obtain⟨o,ho⟩:∃o,o=(if (some dn).isSome=true/\(ps.all wH)=true then some (Yg dw ps,ps.all λw=>decide ((w.length:Int)=d)) else none):=⟨_,rfl⟩;rw[<-ho];have htk:List.take ps.length ((ps.map bs).flatMap Enc.enc)=(ps.map bs).flatMap Enc.enc:=Af (by rw[Zab,List.length_map];exact Ag _);obtain⟨rdB,hrd⟩:∃rdB:Nat->Store,∀k,rdB k=S.set id (yd ver ls ⟨pos,d,v,c,ln,m,bad || ZG d ps k⟩ (.sl idC vC 8 0 cu.length) ds):=⟨_,λ_=>rfl⟩;have hr0:rdB 0=S:=by rw[hrd,Zsj,Bool.or_false];exact Yh S id _ hS
   have x1:∀k obs,ext (rdB k) nx obs id=yd ver ls ⟨pos,d,v,c,ln,m,bad || ZG d ps k⟩ (.sl idC vC 8 0 cu.length) ds:=λk obs=>by rw[zA hlt,hrd,q11]
   have hdB:∀k,zT nx (rdB k):=λk=>by rw[hrd];exact qz hd hlt _
   have hpl:ps.length<=1048576:=by have:=hl.1;simp at this;omega
   repeat apply za
   refine ze [] htk ?_;refine zj (jr (λs:Nat × Nat × Nat=>s.1<=ps.length/\∀w∈ps.take s.1,wH w=true) (λ(k,w0,w1)=>[(0,.ptr id ver 0),(7,.ptr nx w0 0),(27,L (ps.map bs)),(28,I ps.length),(29,I k)]) (λs=>rdB s.1) (λ(k,w0,w1)=>[.cells w0 87 [I 1,I dn,.sl (nx+1) w1 1 0 k,I 0,I 0,I 0,I 0,I 0],.cells w1 98 (((ps.map jW).take k).flatMap Enc.enc)]) (λs=>ps.length-s.1) (zY (0,v0,v1) [] (by simp) (by simp) hr0 (by simp)) ?_);rintro⟨k,w0,w1⟩ ⟨hk,hso⟩;simp only at hk hso ⊢;refine za (zb ?_);refine za (zv rfl (λhc=>?_) (λhc=>?_))
   ·simp at hc;obtain⟨w,tl,hw,f0⟩:=Xv ps k hc;have hwl:w.length<=1048576:=hl.2 w (by simp[Ab hw]);have hdp:=ZrZ w hwl;have hsz:=wE w;refine zh (za (zj (za (ze [] (zo f0 hc) ?_))));refine za (zb ?_);refine zr hdp ?_;cases hsg:wH w with
    | false =>
     have hf:=Zsm hsg;have hon:o=none:=by
      rw[ho,if_neg];rintro⟨_,h2⟩;have:=As.1 h2 w (Ab hw);rw[hsg]at this;cases this
     repeat apply za
     refine ze [] hf ?_;refine zn (by simp) ?_;refine za (zb ?_);refine zg ⟨_,_,by simp;rfl,by rw[hon];exact⟨by simp[zp],_,hrd k⟩,zN (hdB k)⟩
    | true =>
     obtain⟨hf1,hf2⟩:=Zsl hsg;have hso':∀u∈ps.take (k+1),wH u=true:=by
      rw[AN,hw];intro u hu;rw[AC]at hu;rcases hu with hu | hu
      ·exact hso u hu
      ·obtain rfl:u=w:=by simpa using hu
       exact hsg
     have hnx:((ps.map jW).take (k+1)).flatMap Enc.enc=((ps.map jW).take k).flatMap Enc.enc++[U (jW w)]:=by rw[AN,Aj,hw,Av];rfl
     have hol:(((ps.map jW).take k).flatMap Enc.enc).length=k:=by rw[Zel,Ay,List.length_map];omega
     have htk2:List.take k (((ps.map jW).take k).flatMap Enc.enc)=((ps.map jW).take k).flatMap Enc.enc:=Af (by rw[hol];exact Ag _);have hbk:=Zsk (n:=d) hw
     repeat apply za
     refine ze [] hf2 ?_;refine zm (by simp) ?_;refine zh ?_
     by_cases hq:(w.length:Int)=d
     ·have hrk:rdB (k+1)=rdB k:=by rw[hrd,hrd,hbk,decide_eq_true hq,Bool.not_true,Bool.or_false]
      repeat apply za
      refine ze [] (zE x1 hsz hq) ?_;refine zm (by simp) ?_;refine zh (ze [] (zo hf1 htk2) ?_);refine⟨by omega,?_⟩;refine zb ?_;exact zq (k+1,w0,w1+1) [] ⟨hc,hso'⟩ (by omega) (by simp[zu k (by omega)]) hrk (by simp only[hnx,AF])
     ·have hrk:(rdB k).set id (yd ver ls ⟨pos,d,v,c,ln,m,true⟩ (.sl idC vC 8 0 cu.length) ds)=rdB (k+1):=by rw[hrd,hrd,hbk,decide_eq_false hq,Dk,Bool.or_true,Bool.or_true,Store.set_set]
      repeat apply za
      refine ze [] (zE x1 hsz hq) ?_;refine zn (by simp) ?_;refine ze [] (zo x1 g1) ?_;have hrk2:(rdB k).set id (.cells ver 164 [L (wl ls),I pos,I d,I v,I c,I ln,.sl idC vC 8 0 cu.length,ds,I m,B true])=rdB (k+1):=hrk;rw[hrk2];refine ze [] (zo hf1 htk2) ?_;refine⟨by omega,?_⟩;refine zb ?_;exact zq (k+1,w0,w1+1) [] ⟨hc,hso'⟩ (by omega) (by simp[zu k (by omega)]) rfl (by simp only[hnx,AF])
   ·simp at hc;obtain rfl:k=ps.length:=by omega
    rw[Ao]at hso;refine zy ?_;have hon:o=some (Yg dw ps,ps.all λw=>decide ((w.length:Int)=d)):=by
     rw[ho,if_pos ⟨rfl,As.2 hso⟩]
    have hbl:ZG d ps ps.length=!(ps.all λw=>decide ((w.length:Int)=d)):=by unfold ZG;rw[Ao]
    have hpl2:(ps.map jW).length=ps.length:=by simp
    rw[show (ps.map jW).take ps.length=ps.map jW from Af (by simp)];refine yb 1 rfl ?_;have hx1:=x1 ps.length;have g2:¬nx<=idC:=by omega
    have hxC:∀obs,ext (rdB ps.length) nx obs idC=.cells vC 87 (cu.flatMap Enc.enc):=λobs=>by rw[zA hltC,hrd,q10 _ _ _ _ (Ne.symm hne),hC]
    have hx2:∀A obs,ext ((rdB ps.length).set idC A) nx obs id=yd ver ls ⟨pos,d,v,c,ln,m,bad || ZG d ps ps.length⟩ (.sl idC vC 8 0 cu.length) ds:=λA obs=>by rw[zA hlt,q10 _ _ _ _ hne,hrd,q11]
    refine za (zz (some [nx]) (Row.pures [0,1,2,3,4,6,7] (.alt 5 (.alt 8 (Row.pures [9,10,11] (.alt 12 (.done) .stop)) .stop) .stop)) mixed (yl hx1 hxC hx2 g1 g2 hpl2) ?_);refine⟨by omega,?_⟩;have hcl:(cu++[Yg dw ps]).flatMap Enc.enc=cu.flatMap Enc.enc++[I 1,I dn,.lst ps.length ((ps.map jW).flatMap Enc.enc),I 0,I 0,I 0,I 0,I 0]:=by
     rw[Av];congr 1
     show ye (Yg dw ps)=_
     unfold Yg ye;rw[hdv]
     show [I 1,I dn,.lst (ps.map jW).length ((ps.map jW).flatMap Enc.enc),I 0,I 0,I 0,I 0,I 0]=_
     rw[hpl2]
    rw[<-hcl];have hfin:((rdB ps.length).set idC (.cells (vC+1) 87 ((cu++[Yg dw ps]).flatMap Enc.enc))).set id (.cells ver 164 [L (wl ls),I pos,I d,I v,I c,I ln,.sl idC (vC+1) 8 0 (cu.length+1),ds,I m,B (bad || ZG d ps ps.length)])=(S.set id (yd ver ls ⟨pos,d,v,c,ln,m,bad || !(ps.all λw=>decide ((w.length:Int)=d))⟩ (.sl idC (vC+1) 8 0 (cu.length+1)) ds)).set idC (.cells (vC+1) 87 ((cu++[Yg dw ps]).flatMap Enc.enc)):=by
     rw[<-hbl,hrd,Store.set_comm _ idC id _ _ hne,Store.set_set]
    rw[hfin];refine za (zb ?_);refine zg ⟨_,_,by simp;rfl,by rw[hon];exact⟨by simp[zp],by rw[Av];rfl⟩,zN ?_⟩;exact qz (qz hd hlt _) hltC _
theorem Zic(a:ByteArray):jQ .eql a a=some (.bool true):=by simp[jQ]
theorem Zid{l:Ln}(h:l.length≠5):YU l=none:=by
 match l,h with
 | [],_=>rfl
 | [_],_=>rfl
 | [_,_],_=>rfl
 | [_,_,_],_=>rfl
 | [_,_,_,_],_=>rfl
 | [_,_,_,_,_],h=>exact absurd rfl h
 | _ :: _ :: _ :: _ :: _ :: _ :: _,_=>rfl
theorem Zso{S:Store}{id ver idC vC:Nat}(ls:List Ln)(r:Rdr)(cu:List Cust)(ds:PV)(l:Ln)(hS:S id=yd ver ls r (.sl idC vC 8 0 cu.length) ds)(hC:S idC=.cells vC 87 (cu.flatMap Enc.enc))(hcu:cu.length<=1048576)(hl:l.length<=1048576/\∀w∈l,w.length<=1048576):
  Spec prog 143 [.ptr id ver 0,L (l.map bs)] S (λq S'=>match YU l with
   | none=>q=B false/\S'=S
   | some c=>q=B true/\S'=(S.set id (yd ver ls r (.sl idC (vC+1) 8 0 (cu.length+1)) ds)).set idC (.cells (vC+1) 87 ((cu++[c]).flatMap Enc.enc))):=by
 have hneq:id≠idC:=by rintro rfl;rw[hS]at hC;simp at hC
 obtain⟨pos,d,v,c,ln,m,bad⟩:=r
 by_cases h5:l.length=5
 ·obtain⟨a,b,e,ru,h,rfl⟩:∃a b c d e,l=[a,b,c,d,e]:=by
   match l,h5 with
   | [a,b,c,d,e],_=>exact⟨a,b,c,d,e,rfl⟩
  obtain⟨o,ho⟩:∃o,o=YU [a,b,e,ru,h]:=⟨_,rfl⟩;rw[<-ho];rw[ZcX]at ho;have hnum:=ZcY [a,b,e,h] (by simp) (λw hw=>by
   have:=hl.2 w (by simp at hw ⊢;rcases hw with rfl | rfl | rfl | rfl<;>simp);omega)
  cases hz:jB [a,b,e,h] with
  | none =>
   rw[hz]at hnum;simp only[vn]at hnum;have hon:o=none:=by rw[ho,hz];simp
   refine yh Tryz.func143 Tryz.ntmps143 Tryz.results143 λnx hd=>?_
   refine za (zb ?_)
   repeat apply za
   refine zb ?_;refine zm (by simp) ?_;refine zh (za (zz none (Row.pures [0,1,2,3,4,5,6,7,8,9,10,11,12,13,14,15,16,17,18] .done) mixed trivial ?_));refine zJ (hnum) trivial ?_
   repeat apply za
   refine zb ?_;refine zn (by simp) ?_;refine za (zb ?_);refine zg ⟨_,_,by simp;rfl,by rw[hon];exact⟨by simp[zp],rfl⟩,zN hd⟩
  | some z =>
   have hzv:z=[yQ a,yQ b,yQ e,yQ h]:=by
    unfold jB at hz;split at hz<;>cases hz;rfl
   subst hzv;rw[hz]at hnum ho;simp only[vn]at hnum;obtain⟨na,hna⟩:∃x,x=yQ a:=⟨_,rfl⟩;obtain⟨nb,hnb⟩:∃x,x=yQ b:=⟨_,rfl⟩;obtain⟨ne,hne'⟩:∃x,x=yQ e:=⟨_,rfl⟩;obtain⟨nh,hnh⟩:∃x,x=yQ h:=⟨_,rfl⟩;rw[<-hna,<-hnb,<-hne',<-hnh]at hnum ho;have hfill:ru=uh->jQ .eql (bs ru) ⟨#[102,105,108,108]⟩=some (.bool true):=λq=>by rw[q];exact Zic _
   have hnfill:ru≠uh->jQ .eql (bs ru) ⟨#[102,105,108,108]⟩=some (.bool false):=λq=>ZcF λhh=>q (Xu.1 hh)
   have hany:ru=uH->jQ .eql (bs ru) ⟨#[97,110,121]⟩=some (.bool true):=λq=>by rw[q];exact Zic _
   have hnany:ru≠uH->jQ .eql (bs ru) ⟨#[97,110,121]⟩=some (.bool false):=λq=>ZcF λhh=>q (Xu.1 hh)
   refine yh Tryz.func143 Tryz.ntmps143 Tryz.results143 λnx hd=>?_
   have hlt:id<nx:=qE hd hS (by simp);have hltC:idC<nx:=qE hd hC (by simp);have g1:¬nx<=id:=by omega
   have g2:¬nx<=idC:=by omega
   refine za (zb ?_)
   repeat apply za
   refine zb ?_;refine zm (by simp) ?_;refine zh (za (zz none (Row.pures [0,1,2,3,4,5,6,7,8,9,10,11,12,13,14,15,16,17,18] .done) mixed trivial ?_));refine zJ (hnum) trivial ?_
   repeat apply za
   refine zb ?_;refine zm (by simp) ?_;refine zh (za (zz (some []) (Row.pures [0,1,2,3,4,5,6,7,8,9,10,11,12] (.alt 13 (.alt 14 (.done) .stop) .stop)) mixed trivial ?_));intro v0;refine qk 0 2 rfl rfl ?_
   repeat apply za
   refine zb ?_;refine zj ?_
   by_cases hf:ru=uh
   ·have e1:=hfill hf;refine za (ze [] e1 ?_);refine zn (by simp) ?_;refine zb ?_;have hon:o=some ⟨2,0,[],na,nb,ne,1,nh⟩:=by rw[ho,if_pos ⟨rfl,.inl hf⟩];unfold Xr;rw[if_pos hf]
    have hx1:∀obs,ext S nx obs id=yd ver ls ⟨pos,d,v,c,ln,m,bad⟩ (.sl idC vC 8 0 cu.length) ds:=λobs=>(zA hlt).trans hS
    have hxC:∀obs,ext S nx obs idC=.cells vC 87 (cu.flatMap Enc.enc):=λobs=>(zA hltC).trans hC
    have hx2:∀A obs,ext (S.set idC A) nx obs id=yd ver ls ⟨pos,d,v,c,ln,m,bad⟩ (.sl idC vC 8 0 cu.length) ds:=λA obs=>by rw[zA hlt,q10 _ _ _ _ hneq,hS]
    refine za (zz (some [nx]) (Row.pures [0,1,2,3,4,6,7] (.alt 5 (.alt 8 (Row.pures [9,10,11] (.alt 12 (.done) .stop)) .stop) .stop)) mixed (yG hx1 hxC hx2 g1 g2) ?_);refine⟨by omega,?_⟩;have hcl:(cu++[(⟨2,0,[],na,nb,ne,1,nh⟩:Cust)]).flatMap Enc.enc=cu.flatMap Enc.enc++[I 2,I 0,.lst 0 [],I na,I nb,I ne,I 1,I nh]:=by rw[Av];rfl
    have hfin:(S.set idC (.cells (vC+1) 87 (cu.flatMap Enc.enc++[I 2,I 0,.lst 0 [],I na,I nb,I ne,I 1,I nh]))).set id (.cells ver 164 [L (wl ls),I pos,I d,I v,I c,I ln,.sl idC (vC+1) 8 0 (cu.length+1),ds,I m,B bad])=(S.set id (yd ver ls ⟨pos,d,v,c,ln,m,bad⟩ (.sl idC (vC+1) 8 0 (cu.length+1)) ds)).set idC (.cells (vC+1) 87 ((cu++[(⟨2,0,[],na,nb,ne,1,nh⟩:Cust)]).flatMap Enc.enc)):=by
     rw[hcl,Store.set_comm _ idC id _ _ hneq]
    rw[hfin];refine za (zb ?_);refine zg ⟨_,_,by simp;rfl,by rw[hon];exact⟨by simp[zp],by rw[Av];rfl⟩,zN ?_⟩;exact qz (qz hd hlt _) hltC _
   ·have e1:=hnfill hf;refine za (ze [] e1 ?_);refine zm (by simp) ?_
    by_cases hy:ru=uH
    ·have e2:=hany hy;refine za (ze [] e2 ?_);refine zn (by simp) ?_;refine zb ?_;have hon:o=some ⟨2,0,[],na,nb,ne,2,nh⟩:=by rw[ho,if_pos ⟨rfl,.inr hy⟩];unfold Xr;rw[if_neg hf]
     have hx1:∀obs,ext S nx obs id=yd ver ls ⟨pos,d,v,c,ln,m,bad⟩ (.sl idC vC 8 0 cu.length) ds:=λobs=>(zA hlt).trans hS
     have hxC:∀obs,ext S nx obs idC=.cells vC 87 (cu.flatMap Enc.enc):=λobs=>(zA hltC).trans hC
     have hx2:∀A obs,ext (S.set idC A) nx obs id=yd ver ls ⟨pos,d,v,c,ln,m,bad⟩ (.sl idC vC 8 0 cu.length) ds:=λA obs=>by rw[zA hlt,q10 _ _ _ _ hneq,hS]
     refine za (zz (some [nx]) (Row.pures [0,1,2,3,4,6,7] (.alt 5 (.alt 8 (Row.pures [9,10,11] (.alt 12 (.done) .stop)) .stop) .stop)) mixed (yG hx1 hxC hx2 g1 g2) ?_);refine⟨by omega,?_⟩;have hcl:(cu++[(⟨2,0,[],na,nb,ne,2,nh⟩:Cust)]).flatMap Enc.enc=cu.flatMap Enc.enc++[I 2,I 0,.lst 0 [],I na,I nb,I ne,I 2,I nh]:=by rw[Av];rfl
     have hfin:(S.set idC (.cells (vC+1) 87 (cu.flatMap Enc.enc++[I 2,I 0,.lst 0 [],I na,I nb,I ne,I 2,I nh]))).set id (.cells ver 164 [L (wl ls),I pos,I d,I v,I c,I ln,.sl idC (vC+1) 8 0 (cu.length+1),ds,I m,B bad])=(S.set id (yd ver ls ⟨pos,d,v,c,ln,m,bad⟩ (.sl idC (vC+1) 8 0 (cu.length+1)) ds)).set idC (.cells (vC+1) 87 ((cu++[(⟨2,0,[],na,nb,ne,2,nh⟩:Cust)]).flatMap Enc.enc)):=by
      rw[hcl,Store.set_comm _ idC id _ _ hneq]
     rw[hfin];refine za (zb ?_);refine zg ⟨_,_,by simp;rfl,by rw[hon];exact⟨by simp[zp],by rw[Av];rfl⟩,zN ?_⟩;exact qz (qz hd hlt _) hltC _
    ·have e2:=hnany hy;have hon:o=none:=by rw[ho,if_neg];rintro⟨_,q | q⟩;exact hf q;exact hy q
     refine za (ze [] e2 ?_);refine zm (by simp) ?_;refine za (zb ?_);refine zg ⟨_,_,by simp;rfl,by rw[hon];exact⟨by simp[zp],rfl⟩,zN hd⟩
 ·rw[Zid h5];refine yh Tryz.func143 Tryz.ntmps143 Tryz.results143 λnx hd=>?_
  refine za (zb ?_);have h5':¬(l.length:Int)=5:=by omega
  repeat apply za
  refine ze [] h5' ?_;refine zn (by simp) ?_;refine za (zb ?_);refine zg ⟨_,_,by simp;rfl,⟨by simp[zp],rfl⟩,zN hd⟩
open Go Go.Proofs
theorem Xx(ls:List Ln)(p k:Nat):yW ls p (k+1)=yW ls p k++[zO ls (p+k)]:=by simp[yW,AO]
theorem Zav(ls:List Ln)(p k:Nat):(yW ls p k).length=k:=by simp[yW]
theorem Zie{ls:List Ln}{p k n:Nat}{f:Ln->Bool}(hk:k<n)(h:f (zO ls (p+k))=false):(yW ls p n).all f=false:=by
 rw[Bu];exact⟨zO ls (p+k),An.2 ⟨k,AJ.2 hk,rfl⟩,by simp[h]⟩
theorem Zif{a b:ByteArray}(h:a≠b):(a == b)=false:=by
 have e:(a == b)=(a.data == b.data):=by cases a;cases b;rfl
 rw[e,beq_eq_false_iff_ne];exact λhh=>h (by cases a;cases b;cases hh;rfl)
abbrev Xy(id ver:Nat):List (Value × PV):=[(.string ⟨#[118,105,115,105,116]⟩,.fn (.func 142) [.ptr id ver 0] []),(.string ⟨#[116,97,110,107]⟩,.fn (.func 143) [.ptr id ver 0] [])]
def jp(ls:List Ln)(d:Int)(p k:Nat):List Cust:=(yW ls p k).map λl=>(vf d l).1
def jO(ls:List Ln)(d:Int)(p k:Nat):Bool:=(yW ls p k).all λl=>(vf d l).2
theorem Zig(ls:List Ln)(d:Int)(p k:Nat):jp ls d p (k+1)=jp ls d p k++[(vf d (zO ls (p+k))).1]:=by simp[jp,Xx]
theorem Zih(ls:List Ln)(d:Int)(p k:Nat):jO ls d p (k+1)=(jO ls d p k && (vf d (zO ls (p+k))).2):=by simp[jO,Xx]
theorem Zii(ls:List Ln)(d:Int)(p k:Nat):(jp ls d p k).length=k:=by simp[jp,Zav]
theorem Zsp{S:Store}{id ver idC vC:Nat}(ls:List Ln)(r:Rdr)(n:Nat)(ds:PV)(hS:S id=yd ver ls r (.sl idC vC 8 0 0) ds)(hC:S idC=.cells vC 87 [])(hl:LnsOk ls)(hm:r.m=n)(hp:r.pos<=ls.length)(hb:r.bad=false):
  Spec prog 105 [.ptr id ver 0] S (λq S'=>if (yW ls r.pos n).all (λl=>(x8 r.d l).isSome)=true then
    q=B true/\r.pos+n<=ls.length/\S'=(S.set id (yd ver ls { r with pos:=r.pos+n,bad:=!(jO ls r.d r.pos n) } (.sl idC (vC+n) 8 0 n) ds)).set idC (.cells (vC+n) 87 ((jp ls r.d r.pos n).flatMap Enc.enc))
   else q=B false/\∃r' cs' oC,S'=(S.set id (yd ver ls r' cs' ds)).set idC oC):=by
 have hne:id≠idC:=by rintro rfl;rw[hS]at hC;simp at hC
 obtain⟨pos,d,v,c,ln,m,bad⟩:=r;simp only at hm hp hb ⊢;subst hm hb;obtain⟨o,ho⟩:∃o,o=(yW ls pos n).all (λl=>(x8 d l).isSome):=⟨_,rfl⟩;rw[<-ho];obtain⟨St,hSt⟩:∃St:Nat->Store,∀k,St k=(S.set id (yd ver ls ⟨pos+k,d,v,c,ln,n,!(jO ls d pos k)⟩ (.sl idC (vC+k) 8 0 k) ds)).set idC (.cells (vC+k) 87 ((jp ls d pos k).flatMap Enc.enc)):=⟨_,λ_=>rfl⟩;have hS0:St 0=S:=by
  rw[hSt];have e1:S.set id (yd ver ls ⟨pos+0,d,v,c,ln,n,!(jO ls d pos 0)⟩ (.sl idC (vC+0) 8 0 0) ds)=S:=Yh S id _ hS;rw[e1];exact Yh S idC _ hC
 refine yh Tryz.func105 Tryz.ntmps105 Tryz.results105 λnx hd=>?_
 have hlt:id<nx:=qE hd hS (by simp);have hltC:idC<nx:=qE hd hC (by simp);have g1:¬nx<=id:=by omega
 have g2:¬nx<=idC:=by omega
 have xi:∀k,St k id=yd ver ls ⟨pos+k,d,v,c,ln,n,!(jO ls d pos k)⟩ (.sl idC (vC+k) 8 0 k) ds:=λk=>by rw[hSt,q10 _ _ _ _ hne,q11]
 have xc:∀k,St k idC=.cells (vC+k) 87 ((jp ls d pos k).flatMap Enc.enc):=λk=>by rw[hSt,q11]
 have hdS:∀k,zT nx (St k):=λk=>by rw[hSt];exact qz (qz hd hlt _) hltC _
 have x1:∀obs,ext S nx obs id=yd ver ls ⟨pos,d,v,c,ln,n,false⟩ (.sl idC vC 8 0 0) ds:=λobs=>(zA hlt).trans hS
 refine za (zb ?_);refine za (zb ?_);intro v0;refine λhsuf=>Yy (.inr rfl) Tryz.underlying202 Tryz.underlying9 rfl rfl rfl (by rw[vw];rfl) rfl ?_
 refine⟨_,_,yg _ (Ag _) (by simp),zL hsuf ?_⟩;refine λhsuf=>Yy (.inr rfl) Tryz.underlying202 Tryz.underlying9 rfl rfl rfl (by rw[vw];simp;rfl) (by simp[qX,qM];rfl) ?_
 refine⟨_,_,yg _ (Ag _) (by simp),zL hsuf ?_⟩
 repeat apply za
 refine ze [] x1 ?_;have hform:∀k r' cs',(St k).set id (yd ver ls r' cs' ds)=(S.set id (yd ver ls r' cs' ds)).set idC (.cells (vC+k) 87 ((jp ls d pos k).flatMap Enc.enc)):=λk r' cs'=>by
  rw[hSt,Store.set_comm _ idC id _ _ hne,Store.set_set]
 refine zj (jr (λk:Nat=>k<=n/\pos+k<=ls.length/\∀l∈yW ls pos k,(x8 d l).isSome=true) (λk=>[(0,.ptr id ver 0),(3,.mp nx v0),(16,I n),(17,I k)]) St (λ_=>[.map v0 (Xy id ver)]) (λk=>n-k) (zY 0 [] ⟨by simp,by simpa using hp,by simp[yW]⟩ (by simp) hS0 rfl) ?_);rintro k ⟨hk,hpk,hall⟩;refine za (zb ?_);refine za (zv rfl (λhc=>?_) (λhc=>?_))
 ·simp at hc;have hkn:k<n:=by omega
  have hnext:=λS (h:S id=_)=>WG (S:=S) (id:=id) (ver:=ver) ls ⟨pos+k,d,v,c,ln,n,!(jO ls d pos k)⟩ (.sl idC (vC+k) 8 0 k) ds h hl.1
  have hla:=hl.at (pos+k);refine zh (za (zj ?_));obtain⟨S1,hS1⟩:∃S1,S1=(St k).set id (yd ver ls (yX ls ⟨pos+k,d,v,c,ln,n,!(jO ls d pos k)⟩) (.sl idC (vC+k) 8 0 k) ds):=⟨_,rfl⟩;have hd1:zT nx S1:=by rw[hS1];exact qz (hdS k) hlt _
  have hbad:x8 d (zO ls (pos+k))=none->o=false:=λq=>by rw[ho];exact Zie hkn (by rw[q];rfl)
  simp only at hnext;refine za (xl [] (by rfl) (by rfl) λK Gc Gh hK hGc hGh X hX0 hX=>?_);simp -implicitDefEqProofs [hX0,hX]
  try clear hX0 hX X
  refine hGc _ _ _ _ _ _ _ λhsuf=>((hnext _ ((zA hlt).trans (xi k))).mono ?_).v
  rintro _ _ ⟨rfl,rfl⟩;refine⟨S1,_,by rw[qc _ hlt,<-hS1],?_⟩;clear hGc hGh;clear Gc Gh;refine xL hsuf (D:=[]) (by rfl) λGc Gh hGc hGh X hX0 hX=>?_
  simp -implicitDefEqProofs [hX0,hX];clear hX0 hX X;refine hK _ _ _ ?_;clear hK hGc hGh;clear K Gc Gh;clear hnext hsuf;rcases hline:zO ls (pos+k) with _ | ⟨w,l'⟩
  ·have hof:=hbad (by rw[hline];rfl)
   repeat apply za
   refine zb ?_;refine zn (by simp) ?_;refine za (zb ?_);refine zg ⟨_,_,by simp;rfl,by rw[hof];simp only[A6,if_false];exact⟨by simp[zp],_,_,_,by rw[hS1];exact hform k _ _⟩,zN hd1⟩
  ·repeat apply za
   refine zb ?_;refine zm (by simp;omega) ?_;refine zh ?_;have hm0:ext S1 nx [.map v0 (Xy id ver)] nx=.map v0 (Xy id ver):=by rw[vw];rfl
   have hp1:pos+k<ls.length:=by
    apply DD;intro hh;unfold zO at hline;rw[Aa,Ai hh]at hline;cases hline
   have hnk:yX ls ⟨pos+k,d,v,c,ln,n,!(jO ls d pos k)⟩=⟨pos+k+1,d,v,c,ln,n,!(jO ls d pos k)⟩:=if_pos hp1;rw[hnk]at hS1;have hcl:=Zii ls d pos k;have hls:=hl.1;have hS1i:S1 id=yd ver ls ⟨pos+k+1,d,v,c,ln,n,!(jO ls d pos k)⟩ (.sl idC (vC+k) 8 0 (jp ls d pos k).length) ds:=by rw[hS1,q11,hcl]
   have hS1c:S1 idC=.cells (vC+k) 87 ((jp ls d pos k).flatMap Enc.enc):=by rw[hS1,q10 _ _ _ _ (Ne.symm hne),xc]
   have hl':l'.length<=1048576/\∀u∈l',u.length<=1048576:=by
    rw[hline]at hla;exact⟨by have:=hla.1;simp at this;omega,λu hu=>hla.2 u (by simp[hu])⟩
   have htl:List.take l'.length ((l'.map bs).flatMap Enc.enc)=(l'.map bs).flatMap Enc.enc:=Af (by rw[Zab,List.length_map];exact Ag _);have hLL:L (l'.map bs)=.lst l'.length ((l'.map bs).flatMap Enc.enc):=by unfold L;rw[List.length_map]
   have hset1:∀r' cs',S1.set id (yd ver ls r' cs' ds)=(S.set id (yd ver ls r' cs' ds)).set idC (.cells (vC+k) 87 ((jp ls d pos k).flatMap Enc.enc)):=λr' cs'=>by rw[hS1,Store.set_set,hform]
   have hset2:∀r' cs' oC,(S1.set id (yd ver ls r' cs' ds)).set idC oC=(S.set id (yd ver ls r' cs' ds)).set idC oC:=λr' cs' oC=>by rw[hset1,Store.set_set]
   obtain⟨zf,hzf⟩:∃z,Program.zeroOf prog 201=some z:=Ca.1 (by kernel_rfl);have q1:w≠vO->(bs w == ⟨#[118,105,115,105,116]⟩)=false:=λh=>Zif λhh=>h (Xu.1 hh)
   have q2:w≠QB->(bs w == ⟨#[116,97,110,107]⟩)=false:=λh=>Zif λhh=>h (Xu.1 hh)
   by_cases hv:w=vO
   ·have hf:qX .string (.string (bs w)) (Xy id ver) 0=some (some (0,.fn (.func 142) [.ptr id ver 0] [])):=by rw[hv];rfl
    refine za (zb ?_);refine λhsuf=>Zh rfl Tryz.underlying202 Tryz.underlying9 rfl rfl rfl hm0 hf hzf ?_
    refine⟨_,_,rfl,?_⟩;have hlk:ZR true zf (some (0,.fn (.func 142) [.ptr id ver 0] []))=.tup [.fn (.func 142) [.ptr id ver 0] [],B true]:=rfl;refine jH [] hlk hsuf ?_;have hvis:=λS (h1:S id=_) (h2:S idC=_)=>Zsn (S:=S) (id:=id) (ver:=ver) (idC:=idC) (vC:=vC+k) ls ⟨pos+k+1,d,v,c,ln,n,!(jO ls d pos k)⟩ (jp ls d pos k) ds l' h1 h2 (by rw[hcl];omega) hl'
    have hcz:x8 d (zO ls (pos+k))=QC d l':=by rw[hline];exact if_pos hv
    simp only[hLL]at hvis;cases hvz:QC d l' with
    | none =>
     have hof:=hbad (by rw[hcz,hvz]);rw[hvz]at hvis;simp only at hvis;refine za (ze [(2,34)] htl ?_);refine λhsuf=>((hvis _ ((zA hlt).trans hS1i) ((zA hltC).trans hS1c)).mono ?_).v
     rintro _ _ ⟨rfl,b,rfl⟩;refine⟨_,_,qc _ hlt,jH [(2,34)] trivial hsuf ?_⟩;refine zn (by simp) ?_;refine za (zb ?_);refine zg ⟨_,_,by simp;rfl,by rw[hof];simp only[A6,if_false];exact⟨by simp[zp],_,_,_,hset1 _ _⟩,zN (qz hd1 hlt _)⟩
    | some cc =>
     obtain⟨cu1,ok1⟩:=cc;rw[hvz]at hvis;simp only at hvis;refine za (ze [(2,34)] htl ?_);refine λhsuf=>((hvis _ ((zA hlt).trans hS1i) ((zA hltC).trans hS1c)).mono ?_).v
     rintro _ _ ⟨rfl,rfl⟩;refine⟨_,_,by rw[qc _ hlt,qc _ hltC],jH [(2,34)] trivial hsuf ?_⟩;refine zm (by simp) ?_;refine zh (zb ?_);have hcv:vf d (zO ls (pos+k))=(cu1,ok1):=by unfold vf;rw[hcz,hvz];rfl
     have hst:St (k+1)=(S1.set id (yd ver ls ⟨pos+k+1,d,v,c,ln,n,!(jO ls d pos k) || !ok1⟩ (.sl idC (vC+k+1) 8 0 ((jp ls d pos k).length+1)) ds)).set idC (.cells (vC+k+1) 87 ((jp ls d pos k++[cu1]).flatMap Enc.enc)):=by
      rw[hset2,hSt,Zih,Zig,hcv,hcl,Bool.not_and];rfl
     exact zq (k+1) [] ⟨hkn,hp1,λl hlm=>by
      rw[Xx,AC]at hlm;rcases hlm with q | q
      ·exact hall l q
      ·obtain rfl:l=zO ls (pos+k):=by simpa using q
       rw[hcz,hvz];rfl⟩ (by omega) (by simp[zu k (by omega)]) (hst.trans (by rw[Av];rfl)) rfl
   ·by_cases hk:w=QB
    ·have hf:qX .string (.string (bs w)) (Xy id ver) 0=some (some (1,.fn (.func 143) [.ptr id ver 0] [])):=by rw[hk];rfl
     refine za (zb ?_);refine λhsuf=>Zh rfl Tryz.underlying202 Tryz.underlying9 rfl rfl rfl hm0 hf hzf ?_
     refine⟨_,_,rfl,?_⟩;have hlk:ZR true zf (some (1,.fn (.func 143) [.ptr id ver 0] []))=.tup [.fn (.func 143) [.ptr id ver 0] [],B true]:=rfl;refine jH [] hlk hsuf ?_;have htan:=λS (h1:S id=_) (h2:S idC=_)=>Zso (S:=S) (id:=id) (ver:=ver) (idC:=idC) (vC:=vC+k) ls ⟨pos+k+1,d,v,c,ln,n,!(jO ls d pos k)⟩ (jp ls d pos k) ds l' h1 h2 (by rw[hcl];omega) hl'
     have hcz:x8 d (zO ls (pos+k))=(YU l').map (·,true):=by rw[hline];exact(if_neg hv).trans (if_pos hk)
     simp only[hLL]at htan;cases hvz:YU l' with
     | none =>
      have hof:=hbad (by rw[hcz,hvz];rfl);rw[hvz]at htan;simp only at htan;refine za (ze [(2,34)] htl ?_);refine λhsuf=>((htan _ ((zA hlt).trans hS1i) ((zA hltC).trans hS1c)).mono ?_).v
      rintro _ _ ⟨rfl,rfl⟩;refine⟨_,_,rfl,jH [(2,34)] trivial hsuf ?_⟩;refine zn (by simp) ?_;refine za (zb ?_);refine zg ⟨_,_,by simp;rfl,by rw[hof];simp only[A6,if_false];exact⟨by simp[zp],_,_,_,by rw[hS1];exact hform k _ _⟩,zN hd1⟩
     | some cu1 =>
      rw[hvz]at htan;simp only at htan;refine za (ze [(2,34)] htl ?_);refine λhsuf=>((htan _ ((zA hlt).trans hS1i) ((zA hltC).trans hS1c)).mono ?_).v
      rintro _ _ ⟨rfl,rfl⟩;refine⟨_,_,by rw[qc _ hlt,qc _ hltC],jH [(2,34)] trivial hsuf ?_⟩;refine zm (by simp) ?_;refine zh (zb ?_);have hcv:vf d (zO ls (pos+k))=(cu1,true):=by unfold vf;rw[hcz,hvz];rfl
      have hst:St (k+1)=(S1.set id (yd ver ls ⟨pos+k+1,d,v,c,ln,n,!(jO ls d pos k)⟩ (.sl idC (vC+k+1) 8 0 ((jp ls d pos k).length+1)) ds)).set idC (.cells (vC+k+1) 87 ((jp ls d pos k++[cu1]).flatMap Enc.enc)):=by
       rw[hset2,hSt,Zih,Zig,hcv,hcl,DX];rfl
      exact zq (k+1) [] ⟨hkn,hp1,λl hlm=>by
       rw[Xx,AC]at hlm;rcases hlm with q | q
       ·exact hall l q
       ·obtain rfl:l=zO ls (pos+k):=by simpa using q
        rw[hcz,hvz];rfl⟩ (by omega) (by simp[zu k (by omega)]) (hst.trans (by rw[Av];rfl)) rfl
    ·have hf:qX .string (.string (bs w)) (Xy id ver) 0=some none:=by
      simp[qX,Instr.sameNow,q1 hv,q2 hk]
     have hcz:x8 d (zO ls (pos+k))=none:=by rw[hline];exact(if_neg hv).trans (if_neg hk)
     have hof:=hbad hcz;refine za (zb ?_);refine λhsuf=>Zh rfl Tryz.underlying202 Tryz.underlying9 rfl rfl rfl hm0 hf hzf ?_
     refine⟨_,_,rfl,?_⟩;have hlk:ZR true zf none=.tup [ZM zf,B false]:=rfl;refine jH [] hlk hsuf ?_;refine za (ze [(2,34)] zH ?_);refine zn (by simp) ?_;refine za (zb ?_);refine zg ⟨_,_,by simp;rfl,by rw[hof];simp only[A6,if_false];exact⟨by simp[zp],_,_,_,by rw[hS1];exact hform k _ _⟩,zN hd1⟩
 ·simp at hc;obtain rfl:k=n:=by omega
  have hot:o=true:=by rw[ho,As];exact hall
  refine zy (za (zb ?_));refine zg ⟨_,_,by simp;rfl,by rw[hot];simp only[if_true];exact⟨by simp[zp],hpk,hSt _⟩,zN (hdS _)⟩
def xA(ls:List Ln)(p k:Nat):List (List Int):=(yW ls p k).map λl=>l.map yQ
theorem Zsq(ls:List Ln)(p k:Nat):xA ls p (k+1)=xA ls p k++[(zO ls (p+k)).map yQ]:=by simp[xA,Xx]
theorem Zij(ls:List Ln)(p k:Nat):(xA ls p k).length=k:=by simp[xA,Zav]
theorem Zsr{S:Store}{id ver idD vD:Nat}(ls:List Ln)(r:Rdr)(n:Nat)(cs:PV)(hS:S id=yd ver ls r cs (.sl idD vD 1 0 0))(hD:S idD=.cells vD 26 [])(hl:LnsOk ls)(hm:r.m=n)(hn:n<=1048576)(hp:r.pos<=ls.length):
  Spec prog 106 [.ptr id ver 0] S (λq S'=>if zO ls r.pos=[jo]/\(yW ls (r.pos+1) (n+1)).all (vg (n+1))=true then
    q=B true/\r.pos+1+(n+1)<=ls.length/\S'=(S.set id (yd ver ls { r with pos:=r.pos+1+(n+1) } cs (.sl idD (vD+(n+1)) 1 0 (n+1)))).set idD (.cells (vD+(n+1)) 26 ((xA ls (r.pos+1) (n+1)).flatMap Enc.enc))
   else q=B false/\∃r' ds' oD,S'=(S.set id (yd ver ls r' cs ds')).set idD oD):=by
 have hne:id≠idD:=by rintro rfl;rw[hS]at hD;simp at hD
 obtain⟨pos,d,v,c,ln,m,bad⟩:=r;simp only at hm hp ⊢;subst hm;obtain⟨o,ho⟩:∃o:Bool,o=(decide (zO ls pos=[jo]) && (yW ls (pos+1) (n+1)).all (vg (n+1))):=⟨_,rfl⟩;have hiff:(zO ls pos=[jo]/\(yW ls (pos+1) (n+1)).all (vg (n+1))=true)<->o=true:=by rw[ho,Au,decide_eq_true_eq]
 simp only[hiff];obtain⟨St,hSt⟩:∃St:Nat->Store,∀k,St k=(S.set id (yd ver ls ⟨pos+1+k,d,v,c,ln,n,bad⟩ cs (.sl idD (vD+k) 1 0 k))).set idD (.cells (vD+k) 26 ((xA ls (pos+1) k).flatMap Enc.enc)):=⟨_,λ_=>rfl⟩;have hnext0:=λS (h:S id=_)=>WG (S:=S) (id:=id) (ver:=ver) ls ⟨pos,d,v,c,ln,n,bad⟩ cs (.sl idD vD 1 0 0) h hl.1
 have heq:=Zia (zO ls pos) [jo] (hl.at pos).1 (by simp);obtain⟨S1,hS1⟩:∃S1,S1=S.set id (yd ver ls (yX ls ⟨pos,d,v,c,ln,n,bad⟩) cs (.sl idD vD 1 0 0)):=⟨_,rfl⟩;have hS1d:S1 idD=.cells vD 26 []:=by rw[hS1,q10 _ _ _ _ (Ne.symm hne),hD]
 refine yh Tryz.func106 Tryz.ntmps106 Tryz.results106 λnx hd=>?_
 have hlt:id<nx:=qE hd hS (by simp);have hltD:idD<nx:=qE hd hD (by simp);have g1:¬nx<=id:=by omega
 have g2:¬nx<=idD:=by omega
 have hd1:zT nx S1:=by rw[hS1];exact qz hd hlt _
 have hdS:∀k,zT nx (St k):=λk=>by rw[hSt];exact qz (qz hd hlt _) hltD _
 simp only at hnext0;refine za (zb ?_)
 repeat apply za
 refine zb ?_;refine λhsuf=>((hnext0 _ ((zA hlt).trans hS)).mono ?_).v
 rintro _ _ ⟨rfl,rfl⟩;refine⟨S1,[],by rw[qc _ hlt,<-hS1],zL hsuf ?_⟩;refine λhsuf=>((heq _).mono ?_).v
 rintro _ _ ⟨rfl,rfl⟩;refine⟨_,_,rfl,zL hsuf ?_⟩
 by_cases hw:zO ls pos=[jo]
 ·have hp1:pos<ls.length:=by
   apply DD;intro hh;unfold zO at hw;rw[Aa,Ai hh]at hw;cases hw
  have hnk:yX ls ⟨pos,d,v,c,ln,n,bad⟩=⟨pos+1,d,v,c,ln,n,bad⟩:=if_pos hp1;rw[hnk]at hS1;have hS10:St 0=S1:=by
   rw[hSt,hS1];refine Yh _ idD _ ?_;rw[q10 _ _ _ _ (Ne.symm hne),hD];rfl
  have x1:∀obs,ext S1 nx obs id=yd ver ls ⟨pos+1,d,v,c,ln,n,bad⟩ cs (.sl idD vD 1 0 0):=λobs=>by rw[zA hlt,hS1,q11]
  have xi:∀k,St k id=yd ver ls ⟨pos+1+k,d,v,c,ln,n,bad⟩ cs (.sl idD (vD+k) 1 0 k):=λk=>by rw[hSt,q10 _ _ _ _ hne,q11]
  have xd:∀k,St k idD=.cells (vD+k) 26 ((xA ls (pos+1) k).flatMap Enc.enc):=λk=>by rw[hSt,q11]
  have wn:IntKind.i64.wrap ((n:Int)+1)=(n:Int)+1:=by rw[AI];omega
  refine zm (by simp[hw]) ?_;refine zh ?_
  repeat apply za
  refine ze [] (zo x1 wn) ?_;refine zj (jr (λk:Nat=>k<=n+1/\pos+1+k<=ls.length/\∀l∈yW ls (pos+1) k,vg (n+1) l=true) (λk=>[(0,.ptr id ver 0),(14,I ((n:Int)+1)),(15,I k)]) St (λ_=>[]) (λk=>n+1-k) (zY 0 [] ⟨by simp,by omega,by simp[yW]⟩ (by simp) hS10 rfl) ?_);rintro k ⟨hk,hpk,hall⟩;refine za (zb ?_)
  by_cases hkn:k<n+1
  ·have hki:(k:Int)<(n:Int)+1:=by omega
   have hnext:=λS (h:S id=_)=>WG (S:=S) (id:=id) (ver:=ver) ls ⟨pos+1+k,d,v,c,ln,n,bad⟩ cs (.sl idD (vD+k) 1 0 k) h hl.1
   have hla:=hl.at (pos+1+k);have hnum:=ZcY (zO ls (pos+1+k)) hla.1 (λw hw=>by have:=hla.2 w hw;omega);obtain⟨S2,hS2⟩:∃S2,S2=(St k).set id (yd ver ls (yX ls ⟨pos+1+k,d,v,c,ln,n,bad⟩) cs (.sl idD (vD+k) 1 0 k)):=⟨_,rfl⟩;have hd2:zT nx S2:=by rw[hS2];exact qz (hdS k) hlt _
   have hform:∀r' ds',(St k).set id (yd ver ls r' cs ds')=(S.set id (yd ver ls r' cs ds')).set idD (.cells (vD+k) 26 ((xA ls (pos+1) k).flatMap Enc.enc)):=λr' ds'=>by
    rw[hSt,Store.set_comm _ idD id _ _ hne,Store.set_set]
   have hbad:vg (n+1) (zO ls (pos+1+k))=false->o=false:=λq=>by rw[ho,Zie hkn q,Dn]
   simp only at hnext;refine za (zn (by simp;omega) ?_);refine zh (za (zj ?_));obtain⟨p2,hr2⟩:∃p2,yX ls ⟨pos+1+k,d,v,c,ln,n,bad⟩=⟨p2,d,v,c,ln,n,bad⟩:=by
    unfold yX;split
    ·exact⟨_,rfl⟩
    ·exact⟨_,rfl⟩
   have hp2:pos+1+k<ls.length->p2=pos+1+k+1:=λh=>by
    unfold yX at hr2;rw[if_pos h]at hr2;exact(congrArg Rdr.pos hr2).symm
   rw[hr2]at hS2 hnext;have x2:∀obs,ext S2 nx obs id=yd ver ls ⟨p2,d,v,c,ln,n,bad⟩ cs (.sl idD (vD+k) 1 0 k):=λobs=>by rw[zA hlt,hS2,q11]
   cases hz:jB (zO ls (pos+1+k)) with
   | none =>
    have hof:=hbad (by unfold vg;rw[hz];rfl);rw[hz]at hnum;simp only[vn]at hnum;refine za (zb ?_);refine λhsuf=>((hnext _ ((zA hlt).trans (xi k))).mono ?_).v
    rintro _ _ ⟨rfl,rfl⟩;refine⟨S2,_,by rw[qc _ hlt,<-hS2],zL hsuf ?_⟩;refine λhsuf=>((hnum _).mono ?_).v
    rintro _ _ ⟨rfl,rfl⟩;refine⟨_,_,rfl,zL hsuf ?_⟩
    repeat apply za
    refine ze [(2,25)] zH ?_;refine zn (by simp) ?_;refine za (zb ?_);refine zg ⟨_,_,by simp;rfl,by rw[hof];simp only[A6,if_false];exact⟨by simp[zp],_,_,_,by rw[hS2];exact hform _ _⟩,zN hd2⟩
   | some z =>
    have hzl:=ZhZ hz;rw[hz]at hnum;simp only[vn]at hnum;refine za (zb ?_);refine λhsuf=>((hnext _ ((zA hlt).trans (xi k))).mono ?_).v
    rintro _ _ ⟨rfl,rfl⟩;refine⟨S2,_,by rw[qc _ hlt,<-hS2],zL hsuf ?_⟩;refine λhsuf=>((hnum _).mono ?_).v
    rintro _ _ ⟨rfl,rfl⟩;refine⟨_,_,rfl,zL hsuf ?_⟩
    by_cases hlen:z.length=n+1
    ·have hll:(z.length:Int)=(n:Int)+1:=by omega
     repeat apply za
     refine ze [(2,25)] (zE x2 wn hll) ?_;refine zm (by simp) ?_;refine zh ?_;have hll2:(zO ls (pos+1+k)).length=n+1:=by rw[<-hzl];exact hlen
     have hpl:pos+1+k<ls.length:=by
      apply DD;intro hh;unfold zO at hll2;rw[Aa,Ai hh]at hll2;simp at hll2
     obtain rfl:=hp2 hpl;have hzv:z=(zO ls (pos+1+k)).map yQ:=by
      unfold jB at hz;split at hz<;>cases hz;rfl
     have hdl:=Zij ls (pos+1) k;have hfl:((xA ls (pos+1) k).flatMap Enc.enc).length=k:=by rw[jT,hdl]
     have htk:List.take k ((xA ls (pos+1) k).flatMap Enc.enc)=(xA ls (pos+1) k).flatMap Enc.enc:=Af (by rw[hfl];exact Ag _);have xd2:∀obs,ext S2 nx obs idD=.cells (vD+k) 26 ((xA ls (pos+1) k).flatMap Enc.enc):=λobs=>by rw[zA hltD,hS2,q10 _ _ _ _ (Ne.symm hne),xd]
     have x3:∀A obs,ext (S2.set idD A) nx obs id=yd ver ls ⟨pos+1+k+1,d,v,c,ln,n,bad⟩ cs (.sl idD (vD+k) 1 0 k):=λA obs=>by rw[zA hlt,q10 _ _ _ _ hne,hS2,q11]
     have hkb:k<=1048576:=by omega
     clear hfl;refine ze [] (yl x2 xd2 x3 g1 g2 htk) ?_;refine⟨by omega,?_⟩;have hst:St (k+1)=(S2.set idD (.cells (vD+k+1) 26 ((xA ls (pos+1) k).flatMap Enc.enc++[L z]))).set id (.cells ver 164 [L (wl ls),I ((pos:Int)+1+k+1),I d,I v,I c,I ln,cs,.sl idD (vD+k+1) 1 0 (k+1),I n,B bad]):=by
      have e:(.cells ver 164 [L (wl ls),I ((pos:Int)+1+k+1),I d,I v,I c,I ln,cs,.sl idD (vD+k+1) 1 0 (k+1),I n,B bad]:Ob)=yd ver ls ⟨pos+1+k+1,d,v,c,ln,n,bad⟩ cs (.sl idD (vD+k+1) 1 0 (k+1)):=rfl;rw[e,hS2,Store.set_comm _ idD id _ _ hne,Store.set_set,hform,Store.set_set,hSt,Zsq,Av,<-hzv];rfl
     rw[<-hst];refine zb ?_;exact zq (k+1) [] ⟨hkn,hpl,λl hlm=>by
      rw[Xx,AC]at hlm;rcases hlm with q | q
      ·exact hall l q
      ·obtain rfl:l=zO ls (pos+1+k):=by simpa using q
       unfold vg;rw[hz,decide_eq_true hll2];rfl⟩ (by omega) (by simp[zu k (by omega)]) rfl rfl
    ·have hll:¬(z.length:Int)=(n:Int)+1:=by omega
     have hof:=hbad (by unfold vg;rw[hz,<-hzl,decide_eq_false hlen];rfl)
     repeat apply za
     refine ze [(2,25)] (zE x2 wn hll) ?_;refine zn (by simp) ?_;refine za (zb ?_);refine zg ⟨_,_,by simp;rfl,by rw[hof];simp only[A6,if_false];exact⟨by simp[zp],_,_,_,by rw[hS2];exact hform _ _⟩,zN hd2⟩
  ·obtain rfl:k=n+1:=by omega
   have hot:o=true:=by rw[ho,decide_eq_true hw,As.2 hall];rfl
   refine za (zm (by simp) ?_);refine zy (za (zb ?_));refine zg ⟨_,_,by simp;rfl,by rw[hot];simp only[if_true];exact⟨by simp[zp],hpk,hSt _⟩,zN (hdS _)⟩
 ·have hof:o=false:=by rw[ho,decide_eq_false hw,C5]
  refine zn (by simp[hw]) ?_;refine za (zb ?_);refine zg ⟨_,_,by simp;rfl,by rw[hof];simp only[A6,if_false];exact⟨by simp[zp],_,_,_,(by rw[<-hS1];exact(Yh S1 idD _ hS1d).symm)⟩,zN hd1⟩
open Go Go.Proofs
abbrev RdX:=Rdr × List Cust × List (List Int)
def r0:Rdr:=⟨0,0,0,0,0,0,false⟩
def wI(ls:List Ln)(k:Nat)(x:RdX):Option RdX:=match k with
 | 0=>if zO ls x.1.pos=[xV,[49]] then some (yX ls x.1,x.2) else none
 | 1=>match yV (zO ls x.1.pos) [xW,xX,xY,xZ] with
  | some [d,v,c,l]=>some ({ yX ls x.1 with d:=d,v:=v,c:=c,l:=l },x.2)
  | _=>none
 | 2=>match yV (zO ls x.1.pos) [x7] with
  | some [m]=>some ({ yX ls x.1 with m:=m },x.2)
  | _=>none
 | 3=>if (yW ls x.1.pos x.1.m.toNat).all (λl=>(x8 x.1.d l).isSome)=true then some ({ x.1 with pos:=x.1.pos+x.1.m.toNat,bad:=!(jO ls x.1.d x.1.pos x.1.m.toNat) },jp ls x.1.d x.1.pos x.1.m.toNat,x.2.2) else none
 | 4=>if zO ls x.1.pos=[jo]/\(yW ls (x.1.pos+1) (x.1.m.toNat+1)).all (vg (x.1.m.toNat+1))=true then some ({ x.1 with pos:=x.1.pos+1+(x.1.m.toNat+1) },x.2.1,xA ls (x.1.pos+1) (x.1.m.toNat+1)) else none
 | 5=>if x.1.pos=ls.length then some x else none
 | _=>some x
def yv(ls:List Ln):Nat->Option RdX
 | 0=>some (r0,[],[])
 | k+1=>(yv ls k).bind (wI ls k)
theorem Xz{ls:List Ln}{r:Rdr}(h:zO ls r.pos≠[]):yX ls r={ r with pos:=r.pos+1 }/\r.pos+1<=ls.length:=by
 by_cases hp:r.pos<ls.length
 ·exact⟨if_pos hp,hp⟩
 ·exfalso;apply h;unfold zO;rw[Aa,Ai (by omega)];rfl
theorem Zax{l:Ln}{names:Ln}{z:List Int}(h:yV l names=some z)(hn:names≠[]):l≠[]:=by
 rintro rfl;unfold yV Jo at h;cases names with
 | nil=>exact hn rfl
 | cons a b=>simp at h
theorem Zik(w:Wd):0<=yQ w:=by unfold yQ;omega
theorem Zil{l names:Ln}{z:List Int}(h:yV l names=some z):∀x∈z,0<=x:=by
 unfold yV jB at h;split at h
 ·split at h
  ·cases h;intro x hx;obtain⟨w,_,rfl⟩:=An.1 hx;exact Zik w
  ·cases h
 ·cases h
theorem Zss(ls:List Ln):YV ls=(yv ls 6).map λx=>(⟨x.1.d,x.1.v,x.1.c,x.1.l,x.2.1,x.2.2⟩,!x.1.bad):=by
 unfold YV
 by_cases h0:zO ls 0=[xV,[49]]
 ·obtain⟨p0,q0⟩:=Xz (ls:=ls) (r:=r0) (by show zO ls 0≠[];rw[h0];simp);have s1:yv ls 1=some (⟨1,0,0,0,0,0,false⟩,[],[]):=by
   show (if zO ls r0.pos=[xV,[49]] then some (yX ls r0,_) else none)=_
   rw[p0];exact if_pos h0
  rw[if_pos h0];cases h1:yV (zO ls 1) [xW,xX,xY,xZ] with
  | none =>
   have s2:yv ls 2=none:=by
    show (yv ls 1).bind (wI ls 1)=none
    rw[s1]
    show (match yV (zO ls 1) _ with | some [d,v,c,l]=>_ | _=>none)=none
    rw[h1]
   have s6:yv ls 6=none:=by
    show ((((yv ls 2).bind _).bind _).bind _).bind _=none
    rw[s2];rfl
   rw[s6];rfl
  | some z =>
   obtain⟨d,v,c,l,rfl⟩:∃d v c l,z=[d,v,c,l]:=by
    have:=Xw h1
    match z,this with
    | [d,v,c,l],_=>exact⟨d,v,c,l,rfl⟩
   obtain⟨p1,q1⟩:=Xz (ls:=ls) (r:=⟨1,0,0,0,0,0,false⟩) (Zax h1 (by simp));have s2:yv ls 2=some (⟨2,d,v,c,l,0,false⟩,[],[]):=by
    show (yv ls 1).bind (wI ls 1)=_
    rw[s1]
    show (match yV (zO ls 1) _ with | some [d,v,c,l]=>some ({ yX ls _ with d:=d,v:=v,c:=c,l:=l },_) | _=>none)=_
    rw[h1,p1]
   simp only[];cases h2:yV (zO ls 2) [x7] with
   | none =>
    have s3:yv ls 3=none:=by
     show (yv ls 2).bind (wI ls 2)=none
     rw[s2]
     show (match yV (zO ls 2) _ with | some [m]=>_ | _=>none)=none
     rw[h2]
    have s6:yv ls 6=none:=by
     show (((yv ls 3).bind _).bind _).bind _=none
     rw[s3];rfl
    rw[s6];rfl
   | some z2 =>
    obtain⟨m,rfl⟩:∃m,z2=[m]:=by
     have:=Xw h2
     match z2,this with
     | [m],_=>exact⟨m,rfl⟩
    obtain⟨p2,q2⟩:=Xz (ls:=ls) (r:=⟨2,d,v,c,l,0,false⟩) (Zax h2 (by simp));have s3:yv ls 3=some (⟨3,d,v,c,l,m,false⟩,[],[]):=by
     show (yv ls 2).bind (wI ls 2)=_
     rw[s2]
     show (match yV (zO ls 2) _ with | some [m]=>some ({ yX ls _ with m:=m },_) | _=>none)=_
     rw[h2,p2]
    simp only[]
    by_cases h3:(yW ls 3 m.toNat).all (λl=>(x8 d l).isSome)=true
    ·have s4:yv ls 4=some (⟨3+m.toNat,d,v,c,l,m,!(jO ls d 3 m.toNat)⟩,jp ls d 3 m.toNat,[]):=by
      show (yv ls 3).bind (wI ls 3)=_
      rw[s3];exact if_pos h3
     by_cases h4:zO ls (3+m.toNat)=[jo]/\(yW ls (4+m.toNat) (m.toNat+1)).all (vg (m.toNat+1))=true
     ·have e4:3+m.toNat+1=4+m.toNat:=by omega
      have s5:yv ls 5=some (⟨4+m.toNat+(m.toNat+1),d,v,c,l,m,!(jO ls d 3 m.toNat)⟩,jp ls d 3 m.toNat,xA ls (4+m.toNat) (m.toNat+1)):=by
       show (yv ls 4).bind (wI ls 4)=_
       rw[s4]
       show (if zO ls (3+m.toNat)=[jo]/\(yW ls (3+m.toNat+1) (m.toNat+1)).all (vg (m.toNat+1))=true then some ((⟨3+m.toNat+1+(m.toNat+1),d,v,c,l,m,!(jO ls d 3 m.toNat)⟩:Rdr),jp ls d 3 m.toNat,xA ls (3+m.toNat+1) (m.toNat+1)) else none)=_
       rw[e4];exact if_pos h4
      by_cases h5:ls.length=5+2*m.toNat
      ·have s6:yv ls 6=some (⟨4+m.toNat+(m.toNat+1),d,v,c,l,m,!(jO ls d 3 m.toNat)⟩,jp ls d 3 m.toNat,xA ls (4+m.toNat) (m.toNat+1)):=by
        show (yv ls 5).bind (wI ls 5)=_
        rw[s5];exact if_pos (by show 4+m.toNat+(m.toNat+1)=ls.length;omega)
       rw[if_pos ⟨h3,h4.1,h4.2,h5⟩,s6];simp only[A3,Bool.not_not];rfl
      ·have s6:yv ls 6=none:=by
        show (yv ls 5).bind (wI ls 5)=_
        rw[s5];exact if_neg (by show ¬4+m.toNat+(m.toNat+1)=ls.length;omega)
       rw[if_neg (λh=>h5 h.2.2.2),s6];rfl
     ·have s5:yv ls 5=none:=by
       show (yv ls 4).bind (wI ls 4)=_
       rw[s4];exact if_neg (by show ¬(zO ls (3+m.toNat)=_/\(yW ls (3+m.toNat+1) _).all _=true);rw[show 3+m.toNat+1=4+m.toNat by omega];exact h4)
      have s6:yv ls 6=none:=by
       show (yv ls 5).bind _=none
       rw[s5];rfl
      rw[if_neg (λh=>h4 ⟨h.2.1,h.2.2.1⟩),s6];rfl
    ·have s4:yv ls 4=none:=by
      show (yv ls 3).bind (wI ls 3)=_
      rw[s3];exact if_neg h3
     have s6:yv ls 6=none:=by
      show ((yv ls 4).bind _).bind _=none
      rw[s4];rfl
     rw[if_neg (λh=>h3 h.1),s6];rfl
 ·have s1:yv ls 1=none:=by
   show (if zO ls r0.pos=[xV,[49]] then some (yX ls r0,_) else none)=_
   exact if_neg h0
  have s6:yv ls 6=none:=by
   show (((((yv ls 1).bind _).bind _).bind _).bind _).bind _=none
   rw[s1];rfl
  rw[if_neg h0,s6];rfl
theorem Zst{l:Ln}{w:Wd}(h:w∈l):w.length<=(yf l).length:=by
 rw[WF];have:w.length<=(l.map List.length).sum:=by
  induction l with
  | nil=>cases h
  | cons a l ih =>
   rw[Ax,BP];rcases Aq.1 h with rfl | h
   ·omega
   ·have:=ih h;omega
 omega
theorem Zsu{ls:List Ln}{l:Ln}(h:l∈ls):(yf l).length+1<=(qm ls).length:=by
 induction ls with
 | nil=>cases h
 | cons a ls ih =>
  rw[Wu];rcases Aq.1 h with rfl | h
  ·(simp<;>omega)
  ·have:=ih h;(simp<;>omega)
theorem Zsv(ls:List Ln):ls.length<=(qm ls).length:=by
 induction ls with
 | nil=>simp
 | cons a ls ih=>rw[Wu];(simp<;>omega)
theorem Zsw{t:List UInt8}{ls:List Ln}(h:xS t=some ls)(hl:t.length<=1048576):LnsOk ls:=by
 obtain⟨h1,_,_⟩:=Zqj t.length (Ag _) h;refine⟨by have:=Zsv ls;rw[h1]at this;omega,λl hm=>?_⟩;have h2:=Zsu hm;rw[h1]at h2;exact⟨by have:=WF l;omega,λw hw=>by have:=Zst hw;omega⟩
theorem Jp(w:Wd):zM (yQ w):=by
 have h0:=Zik w;unfold yQ at h0 ⊢;cases h:jV w with
 | none=>exact⟨by simp,by simp⟩
 | some n =>
  have:=Zql h
  show -9223372036854775808<=(n:Int)/\(n:Int)<=9223372036854775807
  omega
theorem Zsx{l names:Ln}{z:List Int}(h:yV l names=some z):∀x∈z,zM x:=by
 unfold yV jB at h;split at h
 ·split at h
  ·cases h;intro x hx;obtain⟨w,_,rfl⟩:=An.1 hx;exact Jp w
  ·cases h
 ·cases h
theorem Zsy(w:Wd):jW w<2 ^ 64:=by
 unfold jW;split
 ·exact Nat.two_pow_pos 64
 ·exact Zar w _
theorem Zsz{d:Int}{l:Ln}{x:Cust × Bool}(h:x8 d l=some x)(hl:l.length<=1048576):CustOk x.1:=by
 have z0:zM 0:=⟨by decide,by decide⟩;have z1:zM 1:=⟨by decide,by decide⟩;have z2:zM 2:=⟨by decide,by decide⟩
 match l,h,hl with
 | w :: l',h,hl =>
 have h':(if w=vO then QC d l' else if w=QB then (YU l').map (·,true) else none)=some x:=h;split at h'
 ·match l',h',hl with
  | dw :: ps,h',hl =>
  rw[ZcW]at h';split at h'
  ·cases h';refine⟨z1,Jp dw,?_,?_,z0,z0,z0,z0,z0⟩
   ·intro p hp;obtain⟨u,_,rfl⟩:=An.1 hp;exact Zsy u
   ·show (ps.map jW).length<=_
    simp at hl ⊢;omega
  ·cases h'
 ·split at h'
  ·obtain⟨c,hc,rfl⟩:=Ap.1 h'
   by_cases h5:l'.length=5
   ·obtain⟨a,b,e,ru,hh,rfl⟩:∃a b c d e,l'=[a,b,c,d,e]:=by
     match l',h5 with
     | [a,b,c,d,e],_=>exact⟨a,b,c,d,e,rfl⟩
    rw[ZcX]at hc;split at hc
    ·cases hc;refine⟨z2,z0,by simp,by simp,Jp _,Jp _,Jp _,?_,Jp _⟩
     show zM (Xr ru)
     unfold Xr;split
     ·exact⟨by decide,by decide⟩
     ·exact⟨by decide,by decide⟩
    ·cases hc
   ·rw[Zid h5]at hc;cases hc
  ·cases h'
theorem ZsA{ls:List Ln}{x:Inst}{b:Bool}(h:YV ls=some (x,b))(hl:LnsOk ls):InstOk x:=by
 unfold YV at h;split at h
 ·split at h
  ·rename_i d v c l h1;split at h
   ·rename_i m h2;split at h
    ·rename_i hh;obtain⟨e1,e2,e3,e4⟩:=hh;cases h;have q:=Zsx h1;have hmn:m.toNat<=1048576:=by have:=hl.1;omega
     refine⟨q d (by simp),q v (by simp),q c (by simp),q l (by simp),?_,?_,?_,?_⟩
     ·simp[Zav];omega
     ·intro cu hcu;obtain⟨line,hm,rfl⟩:=An.1 hcu;have hs:=As.1 e1 line hm;obtain⟨k,_,rfl⟩:=An.1 hm;obtain⟨y,hy⟩:=Ca.1 hs;have:vf d (zO ls (3+k))=y:=by unfold vf;rw[hy];rfl
      rw[this];exact Zsz hy (hl.at _).1
     ·simp[Zav];omega
     ·intro r hr;obtain⟨line,hm,rfl⟩:=An.1 hr;obtain⟨k,_,rfl⟩:=An.1 hm;refine⟨by have:=(hl.at (4+m.toNat+k)).1;simp;omega,λz hz=>?_⟩;obtain⟨w,_,rfl⟩:=An.1 hz;exact Jp w
    ·cases h
   ·cases h
  ·cases h
 ·cases h
open Go Go.Proofs
theorem WI{ls:List Ln}{k:Nat}(h:yv ls k=none)(hk:k<=6):yv ls 6=none:=by
 have:∀j,yv ls (k+j)=none:=by
  intro j
  induction j with
  | zero=>exact h
  | succ j ih=>show (yv ls (k+j)).bind _=none;rw[ih];rfl
 have:=this (6-k)
 rwa[Nat.add_sub_cancel' hk]at this
def Zim(ls:List Ln)(k:Nat)(x:RdX):Prop :=
 x.1.pos<=ls.length/\(k<=3->x.2.1=[]/\x.1.bad=false)/\(k<=4->x.2.2=[])/\0<=x.1.m/\(k=4->x.1.m.toNat<=1048576)
theorem ZsB(t:List UInt8)(hl:t.length<=1048576):Pure prog 65 [T (bs t)] (.tup [.agg (zx (qp t).1),I (qp t).2]):=by
 have hlines:=ZrP t hl;cases hz:xS t with
 | none =>
  rw[hz]at hlines;simp only[Zat]at hlines;have hp:qp t=(zI,2):=by unfold qp;rw[hz]
  rw[hp];refine zt Tryz.func65 Tryz.ntmps65 Tryz.results65 λS nx hd=>?_
  refine za (zb ?_);intro v0;refine za (zb ?_);refine zr hlines ?_
  repeat apply za
  refine zb ?_;refine zn (by simp) ?_;refine za (zb ?_);refine qk 0 4 rfl rfl ?_;refine qk 0 5 rfl rfl ?_;exact zg (zi hd (by simp;rfl) (by simp[zI,zp]))
 | some ls =>
  rw[hz]at hlines;simp only[Zat]at hlines;have hfit:=Zsw hz hl;have hp:qp t=match YV ls with
   | none=>(zI,2)
   | some (x,ok)=>if ok=true/\qV x=true then (x,0) else (zI,3):=by unfold qp;rw[hz];rfl
  have hrs:=Zss ls;obtain⟨res,hres⟩:∃res,res=qp t:=⟨_,rfl⟩;rw[<-hres];rw[<-hres]at hp;have hno:yv ls 6=none->res=(zI,2):=λh=>by rw[hp,hrs,h];rfl
  refine zt Tryz.func65 Tryz.ntmps65 Tryz.results65 λS nx hd=>?_
  refine za (zb ?_);intro v0;refine za (zb ?_);refine zr hlines ?_
  repeat apply za
  refine zb ?_;refine zm (by simp) ?_;refine zh (za (zb ?_));intro v1;refine jg 1 6 87 8 rfl rfl λw0=>?_
  refine jg 1 7 26 1 rfl rfl λw1=>?_
  repeat apply za
  refine zb ?_;refine zj (zD (λs:Nat × Rdr × List Cust × List (List Int) × Nat × Nat=>s.1<=6/\yv ls s.1=some (s.2.1,s.2.2.1,s.2.2.2.1)/\Zim ls s.1 (s.2.1,s.2.2.1,s.2.2.2.1)) (λ(k,r,cu,dd,vC,vD)=>[(2,.ptr nx v0 0),(6,.ptr (nx+1) v1 0),(32,.lst 6 [.fn (.func 102) [.ptr (nx+1) v1 0] [],.fn (.func 103) [.ptr (nx+1) v1 0] [],.fn (.func 104) [.ptr (nx+1) v1 0] [],.fn (.func 105) [.ptr (nx+1) v1 0] [],.fn (.func 106) [.ptr (nx+1) v1 0] [],.fn (.func 107) [.ptr (nx+1) v1 0] []]),(33,I 6),(34,I k)])
   (λ(k,r,cu,dd,vC,vD)=>[.cells v0 25 [I 0,I 0,I 0,I 0,vk,vk],yd v1 ls r (.sl (nx+2) vC 8 0 cu.length) (.sl (nx+3) vD 1 0 dd.length),.cells vC 87 (cu.flatMap Enc.enc),.cells vD 26 (dd.flatMap Enc.enc)]) (λs=>6-s.1) (0,r0,[],[],w0,w1) [] ⟨by simp,rfl,by simp[Zim,r0]⟩ (by simp[yY]) (by simp[r0]) ?_)
  rintro⟨k,r,cu,dd,vC,vD⟩ ⟨hk,hst,m1,m2,m3,m4,m5⟩;simp only at hk hst m1 m2 m3 m4 m5 ⊢;refine za (zb ?_);refine za (zv rfl (λhc=>?_) (λhc=>?_))
  ·simp at hc;refine zh (za (zj ?_));obtain rfl | rfl | rfl | rfl | rfl | rfl:k=0\/k=1\/k=2\/k=3\/k=4\/k=5:=by omega
   ·have hstep:yv ls 1=if zO ls r.pos=[xV,[49]] then some (yX ls r,cu,dd) else none:=by show (yv ls 0).bind (wI ls 0)=_;rw[hst];rfl
    refine za (zb ?_);refine za (zb ?_);refine λhsuf=>((Zsf ls r _ _ (by rw[zU];rfl) hfit).mono ?_).v
    rintro _ _ ⟨rfl,rfl⟩;refine⟨_,_,yg _ (by omega) (by simp),zL hsuf ?_⟩
    by_cases h:zO ls r.pos=[xV,[49]]
    ·rw[if_pos h]at hstep;obtain⟨n1,n2⟩:=Xz (ls:=ls) (r:=r) (by rw[h];simp);refine zm (by simp[h]) ?_;refine zh (zb ?_);exact zq (1,yX ls r,cu,dd,vC,vD) [] ⟨by omega,hstep,by rw[n1];exact⟨n2,λ_=>m2 (by omega),λ_=>m3 (by omega),m4,λh=>by omega⟩⟩ (by omega) (by simp;try exact wr _ (by omega) (by omega)) rfl (by simp;try rfl)
    ·rw[if_neg h]at hstep;have hr:=hno (WI hstep (by omega));refine zn (by simp[h]) ?_;refine za (zb ?_);refine qk 0 4 rfl rfl ?_;refine qk 0 5 rfl rfl ?_;exact zg (zi hd (by simp;rfl) (by simp[zI,zp,hr]))
   ·have hstep:yv ls 2=match yV (zO ls r.pos) [xW,xX,xY,xZ] with
     | some [d,v,c,l]=>some ({ yX ls r with d:=d,v:=v,c:=c,l:=l },cu,dd)
     | _=>none:=by show (yv ls 1).bind (wI ls 1)=_;rw[hst];rfl
    have hct:=λS (h:S (nx+1)=_)=>Zsg (S:=S) (id:=nx+1) (ver:=v1) ls r (.sl (nx+2) vC 8 0 cu.length) (.sl (nx+3) vD 1 0 dd.length) h hfit
    cases h:yV (zO ls r.pos) [xW,xX,xY,xZ] with
    | none =>
     rw[h]at hstep hct;simp only at hstep hct;have hr:=hno (WI hstep (by omega));refine za (zb ?_);refine za (zb ?_);refine λhsuf=>((hct _ (by rw[zU];rfl)).mono ?_).v
     rintro _ _ ⟨rfl,rfl⟩;refine⟨_,_,yg _ (by omega) (by simp),zL hsuf ?_⟩;refine zn (by simp) ?_;refine za (zb ?_);refine qk 0 4 rfl rfl ?_;refine qk 0 5 rfl rfl ?_;exact zg (zi hd (by simp;rfl) (by simp[zI,zp,hr]))
    | some z =>
     obtain⟨d,v,c,l,rfl⟩:∃d v c l,z=[d,v,c,l]:=by
      have:=Xw h
      match z,this with
      | [d,v,c,l],_=>exact⟨d,v,c,l,rfl⟩
     obtain⟨n1,n2⟩:=Xz (ls:=ls) (r:=r) (Zax h (by simp));have hnn:=Zil h;rw[h]at hstep hct;simp only at hstep hct;refine za (zb ?_);refine za (zb ?_);refine λhsuf=>((hct _ (by rw[zU];rfl)).mono ?_).v
     rintro _ _ ⟨rfl,rfl⟩;refine⟨_,_,yg _ (by omega) (by simp),zL hsuf ?_⟩;refine zm (by simp) ?_;refine zh (zb ?_);exact zq (2,{ yX ls r with d:=d,v:=v,c:=c,l:=l },cu,dd,vC,vD) [] ⟨by omega,hstep,by rw[n1];exact⟨n2,λ_=>m2 (by omega),λ_=>m3 (by omega),m4,λh=>by omega⟩⟩ (by omega) (by simp;try exact wr _ (by omega) (by omega)) rfl (by simp;try rfl)
   ·have hstep:yv ls 3=match yV (zO ls r.pos) [x7] with
     | some [m]=>some ({ yX ls r with m:=m },cu,dd)
     | _=>none:=by show (yv ls 2).bind (wI ls 2)=_;rw[hst];rfl
    have hct:=λS (h:S (nx+1)=_)=>Zsh (S:=S) (id:=nx+1) (ver:=v1) ls r (.sl (nx+2) vC 8 0 cu.length) (.sl (nx+3) vD 1 0 dd.length) h hfit
    cases h:yV (zO ls r.pos) [x7] with
    | none =>
     rw[h]at hstep hct;simp only at hstep hct;have hr:=hno (WI hstep (by omega));refine za (zb ?_);refine za (zb ?_);refine λhsuf=>((hct _ (by rw[zU];rfl)).mono ?_).v
     rintro _ _ ⟨rfl,rfl⟩;refine⟨_,_,yg _ (by omega) (by simp),zL hsuf ?_⟩;refine zn (by simp) ?_;refine za (zb ?_);refine qk 0 4 rfl rfl ?_;refine qk 0 5 rfl rfl ?_;exact zg (zi hd (by simp;rfl) (by simp[zI,zp,hr]))
    | some z =>
     obtain⟨m,rfl⟩:∃m,z=[m]:=by
      have:=Xw h
      match z,this with
      | [m],_=>exact⟨m,rfl⟩
     obtain⟨n1,n2⟩:=Xz (ls:=ls) (r:=r) (Zax h (by simp));have hnn:=Zil h;rw[h]at hstep hct;simp only at hstep hct;refine za (zb ?_);refine za (zb ?_);refine λhsuf=>((hct _ (by rw[zU];rfl)).mono ?_).v
     rintro _ _ ⟨rfl,rfl⟩;refine⟨_,_,yg _ (by omega) (by simp),zL hsuf ?_⟩;refine zm (by simp) ?_;refine zh (zb ?_);exact zq (3,{ yX ls r with m:=m },cu,dd,vC,vD) [] ⟨by omega,hstep,by rw[n1];exact⟨n2,λ_=>m2 (by omega),λ_=>m3 (by omega),hnn m (by simp),λh=>by omega⟩⟩ (by omega) (by simp;try exact wr _ (by omega) (by omega)) rfl (by simp;try rfl)
   ·obtain⟨rfl,hb⟩:=m2 (by omega);have hm:r.m=(r.m.toNat:Int):=by omega
    have hstep:yv ls 4=if (yW ls r.pos r.m.toNat).all (λl=>(x8 r.d l).isSome)=true then some ({ r with pos:=r.pos+r.m.toNat,bad:=!(jO ls r.d r.pos r.m.toNat) },jp ls r.d r.pos r.m.toNat,dd) else none:=by show (yv ls 3).bind (wI ls 3)=_;rw[hst];rfl
    have hct:=λS (h:S (nx+1)=_) (h2:S (nx+2)=_)=>Zsp (S:=S) (id:=nx+1) (ver:=v1) (idC:=nx+2) (vC:=vC) ls r r.m.toNat (.sl (nx+3) vD 1 0 dd.length) h h2 hfit hm m1 hb
    by_cases h:(yW ls r.pos r.m.toNat).all (λl=>(x8 r.d l).isSome)=true
    ·rw[if_pos h]at hstep;simp only[if_pos h]at hct;have hcl:=Zii ls r.d r.pos r.m.toNat;refine za (zb ?_);refine za (zb ?_);refine λhsuf=>((hct _ (by rw[zU];rfl) (by rw[zU];rfl)).mono ?_).v
     rintro _ _ ⟨rfl,hpl,rfl⟩;refine⟨_,_,by rw[yg _ (by omega) (by simp),yg _ (by omega) (by simp)],zL hsuf ?_⟩;refine zm (by simp) ?_;refine zh (zb ?_);exact zq (4,{ r with pos:=r.pos+r.m.toNat,bad:=!(jO ls r.d r.pos r.m.toNat) },jp ls r.d r.pos r.m.toNat,dd,vC+r.m.toNat,vD) [] ⟨by omega,hstep,hpl,λh=>by omega,λ_=>m3 (by omega),m4,λ_=>by have:=hfit.1;show r.m.toNat<=_;omega⟩ (by omega) (by simp;try exact wr _ (by omega) (by omega)) rfl (by simp[hcl])
    ·rw[if_neg h]at hstep;have hr:=hno (WI hstep (by omega));simp only[if_neg h]at hct;refine za (zb ?_);refine za (zb ?_);refine λhsuf=>((hct _ (by rw[zU];rfl) (by rw[zU];rfl)).mono ?_).v
     rintro _ _ ⟨rfl,r',cs',oC,rfl⟩;refine⟨_,_,by rw[yg _ (by omega) (by simp),yg _ (by omega) (by simp)],zL hsuf ?_⟩;refine zn (by simp) ?_;refine za (zb ?_);refine qk 0 4 rfl rfl ?_;refine qk 0 5 rfl rfl ?_;exact zg (zi hd (by simp;rfl) (by simp[zI,zp,hr]))
   ·obtain rfl:=m3 (by omega);have hm:r.m=(r.m.toNat:Int):=by omega
    have hstep:yv ls 5=if zO ls r.pos=[jo]/\(yW ls (r.pos+1) (r.m.toNat+1)).all (vg (r.m.toNat+1))=true then some ({ r with pos:=r.pos+1+(r.m.toNat+1) },cu,xA ls (r.pos+1) (r.m.toNat+1)) else none:=by show (yv ls 4).bind (wI ls 4)=_;rw[hst];rfl
    have hct:=λS (h:S (nx+1)=_) (h2:S (nx+3)=_)=>Zsr (S:=S) (id:=nx+1) (ver:=v1) (idD:=nx+3) (vD:=vD) ls r r.m.toNat (.sl (nx+2) vC 8 0 cu.length) h h2 hfit hm (m5 rfl) m1
    by_cases h:zO ls r.pos=[jo]/\(yW ls (r.pos+1) (r.m.toNat+1)).all (vg (r.m.toNat+1))=true
    ·rw[if_pos h]at hstep;simp only[if_pos h]at hct;have hdl:=Zij ls (r.pos+1) (r.m.toNat+1);refine za (zb ?_);refine za (zb ?_);refine λhsuf=>((hct _ (by rw[zU];rfl) (by rw[zU];rfl)).mono ?_).v
     rintro _ _ ⟨rfl,hpl,rfl⟩;refine⟨_,_,by rw[yg _ (by omega) (by simp),yg _ (by omega) (by simp)],zL hsuf ?_⟩;refine zm (by simp) ?_;refine zh (zb ?_);exact zq (5,{ r with pos:=r.pos+1+(r.m.toNat+1) },cu,xA ls (r.pos+1) (r.m.toNat+1),vC,vD+(r.m.toNat+1)) [] ⟨by omega,hstep,hpl,λh=>by omega,λh=>by omega,m4,λh=>by omega⟩ (by omega) (by simp;try exact wr _ (by omega) (by omega)) rfl (by simp[hdl])
    ·rw[if_neg h]at hstep;have hr:=hno (WI hstep (by omega));simp only[if_neg h]at hct;refine za (zb ?_);refine za (zb ?_);refine λhsuf=>((hct _ (by rw[zU];rfl) (by rw[zU];rfl)).mono ?_).v
     rintro _ _ ⟨rfl,r',ds',oD,rfl⟩;refine⟨_,_,by rw[yg _ (by omega) (by simp),yg _ (by omega) (by simp)],zL hsuf ?_⟩;refine zn (by simp) ?_;refine za (zb ?_);refine qk 0 4 rfl rfl ?_;refine qk 0 5 rfl rfl ?_;exact zg (zi hd (by simp;rfl) (by simp[zI,zp,hr]))
   ·have hstep:yv ls 6=if r.pos=ls.length then some (r,cu,dd) else none:=by show (yv ls 5).bind (wI ls 5)=_;rw[hst];rfl
    refine za (zb ?_);refine za (zb ?_);refine λhsuf=>((Zsi ls r _ _ (by rw[zU];rfl)).mono ?_).v
    rintro _ _ ⟨rfl,rfl⟩;refine⟨_,_,rfl,zL hsuf ?_⟩
    by_cases h:r.pos=ls.length
    ·rw[if_pos h]at hstep;refine zm (by simp[h]) ?_;refine zh (zb ?_);exact zq (6,r,cu,dd,vC,vD) [] ⟨by omega,hstep,m1,λh=>by omega,λh=>by omega,m4,λh=>by omega⟩ (by omega) (by simp;try exact wr _ (by omega) (by omega)) rfl (by simp)
    ·rw[if_neg h]at hstep;have hr:=hno hstep;refine zn (by simp[h]) ?_;refine za (zb ?_);refine qk 0 4 rfl rfl ?_;refine qk 0 5 rfl rfl ?_;exact zg (zi hd (by simp;rfl) (by simp[zI,zp,hr]))
  ·simp at hc;obtain rfl:k=6:=by omega
   have hread:YV ls=some (⟨r.d,r.v,r.c,r.l,cu,dd⟩,!r.bad):=by rw[hrs,hst];rfl
   have hiok:=ZsA hread hfit;have hmay:=ZgP _ hiok;rw[hread]at hp;refine zy (yb 2 rfl ?_);refine yb 3 rfl ?_;obtain⟨pos,d,v,c,ln,m,bad⟩:=r;cases bad with
   | true =>
    have hr:res=(zI,3):=by rw[hp];exact if_neg (by simp)
    repeat apply za
    refine ze [(4,47)] zH ?_;refine zn (by simp) ?_;refine za (zb ?_);refine qk 0 4 rfl rfl ?_;refine qk 0 5 rfl rfl ?_;exact zg (zi hd (by simp;rfl) (by simp[zI,zp,hr]))
   | false =>
    by_cases hmy:qV ⟨d,v,c,ln,cu,dd⟩=true
    ·have hr:res=(⟨d,v,c,ln,cu,dd⟩,0):=by rw[hp];exact if_pos ⟨rfl,hmy⟩
     rw[if_pos hmy]at hmay
     repeat apply za
     refine ze [(4,47)] trivial ?_;refine qt [(4,47)] hmay trivial ?_;refine zm (by simp) ?_;refine zh (za (zb ?_));exact zg (zi hd (by simp;rfl) (by simp[zp,hr]))
    ·have hr:res=(zI,3):=by rw[hp];exact if_neg (λh=>hmy h.2)
     rw[if_neg hmy]at hmay
     repeat apply za
     refine ze [(4,47)] trivial ?_;refine qt [(4,47)] hmay trivial ?_;refine zn (by simp) ?_;refine za (zb ?_);refine qk 0 4 rfl rfl ?_;refine qk 0 5 rfl rfl ?_;exact zg (zi hd (by simp;rfl) (by simp[zI,zp,hr]))
open Go Go.Proofs
theorem Zin{z:Int}(h:zM z):(zV z).length<=20:=by
 unfold zM at h;unfold zV;have:=Zcz z.toNat 18 (by omega);omega
abbrev Zio:Wd:=[111,117,116,99,111,109,101]
abbrev Zip:Wd:=[109,97,108,102,111,114,109,101,100]
structure Rep where
 out:Int
 bound:Int
 cost:Int
 hold:Int
 days:List Int
 plan:zC
abbrev Zc6(r:Rep):List PV:=[I r.out,I r.bound,I r.cost,I r.hold,L r.days,L r.plan]
theorem Ziq{ls:List Ln}{m:Nat}(h:∀l∈ls,(yf l).length+1<=m):(qm ls).length<=m*ls.length:=by
 induction ls with
 | nil=>simp[qm]
 | cons a ls ih =>
  rw[Wu];have h1:=h a (by simp);have h2:=ih λl hl=>h l (by simp[hl])
  simp only[Ar,Ae,Nat.mul_add,BT];omega
theorem ZsC{l:List Nat}{m:Nat}(h:∀z∈l,z<=m):l.sum<=m*l.length:=by
 induction l with
 | nil=>simp
 | cons a l ih =>
  have h1:=h a (by simp);have h2:=ih λz hz=>h z (by simp[hz])
  simp only[BP,Ae,Nat.mul_add,BT];omega
theorem Zc7{ws:Ln}{m:Nat}(h:∀w∈ws,w.length<=m):(yf ws).length<=(m+1)*ws.length:=by
 rw[WF];have:=ZsC (l:=ws.map List.length) (m:=m) λz hz=>by obtain⟨w,hw,rfl⟩:=An.1 hz;exact h w hw
 rw[List.length_map]at this;rw[Nat.add_mul];omega
theorem ZH{n:Nat}(h:n<10000000000000000000):(z8 n).length<=20:=by have:=Zcz n 19 (by omega);omega
open Go Go.Proofs
section
variable {S:Store} {id v:Nat} {t s0 s1 s2 s3 x0 x1 x2 x3 x4 x5 r0 r1 r2 r3 r4 r5:PV}
theorem Zir(u:List UInt8)(hl:u.length<=1048576)(hS:S id=.cells v 92 [T (bs u),s0,s1,s2,s3,x0,x1,x2,x3,x4,x5,r0,r1,r2,r3,r4,r5]):
  Spec prog 48 [.ptr id v 0] S (λq S'=>q=I (qp u).2/\S'=S.set id (.cells v 92
   (if (qp u).2=0 then [T (bs u),s0,s1,s2,s3]++zx (qp u).1++[r0,r1,r2,r3,r4,r5] else [T (bs u),s0,s1,s2,s3,x0,x1,x2,x3,x4,x5,I (if (qp u).2=2 then 1 else 2),r1,r2,r3,r4,r5]))):=by
 have hp:=ZsB u hl;generalize qp u=z at *;obtain⟨y,e⟩:=z;simp only at hp ⊢;refine yh Tryz.func48 Tryz.ntmps48 Tryz.results48 λnx hd=>?_
 have hlt:id<nx:=qE hd hS (by simp);have xw:=λobs=>(zA (S:=S) (obs:=obs) hlt).trans hS
 have g1:¬nx<=id:=by omega
 refine za (zb ?_);refine za (ze [] xw ?_);refine qt [] hp xw ?_;intro v0
 repeat apply za
 refine zb ?_;refine zj (za (zb ?_))
 by_cases he:e=0
 ·subst he;refine zn (by simp) ?_;refine ze [] (zo xw g1) ?_;refine za (zb ?_);exact zg ⟨_,_,rfl,⟨by simp[zp],by simp⟩,zN (qz hd hlt _)⟩
 ·rw[if_neg he];refine zm (by simp[he]) ?_;refine za (zb ?_)
  by_cases h2:e=2
  ·subst h2;refine zn (by simp) ?_;refine ze [] (zo xw g1) ?_;refine za (zb ?_);exact zg ⟨_,_,rfl,⟨by simp[zp],by simp⟩,zN (qz hd hlt _)⟩
  ·rw[if_neg h2];refine zm (by simp[h2]) ?_;refine ze [] (zo xw g1) ?_;refine za (zb ?_);exact zg ⟨_,_,rfl,⟨by simp[zp],by simp⟩,zN (qz hd hlt _)⟩
theorem ZsD{a b:PV}{bd:Int}(hc:Pure prog 34 [.agg [x0,x1,x2,x3,x4,x5],s0,s3] (.tup [.agg [a,b],I bd]))(hS:S id=.cells v 92 [t,s0,s1,s2,s3,x0,x1,x2,x3,x4,x5,r0,r1,r2,r3,r4,r5]):
  Spec prog 49 [.ptr id v 0] S (λq S'=>q=I 0/\S'=S.set id (.cells v 92 [t,s0,s1,s2,s3,x0,x1,x2,x3,x4,x5,I 3,I bd,r2,r3,r4,r5])):=by
 refine yh Tryz.func49 Tryz.ntmps49 Tryz.results49 λnx hd=>?_
 have hlt:id<nx:=qE hd hS (by simp);have xw:=λobs=>(zA (S:=S) (obs:=obs) hlt).trans hS
 have xo:∀(A:Ob) obs,ext (S.set id A) nx obs id=A:=λA obs=>(zA hlt).trans (q11 _ _ _)
 have g1:¬nx<=id:=by omega
 refine za (zb ?_);refine za (ze [] (zo xw g1) ?_);refine za (zz (some []) (Row.pures [0,1,2,3,5,6,7,8,10,11,12,13] (.alt 4 (.alt 9 (.alt 14 (Row.pures [15,16,17,18,19,20,21] (.alt 22 (.done) .stop)) .stop) (.alt 14 (.alt 9 (Row.pures [15,16,17,18,19,20,21] (.alt 22 (.done) .stop)) .stop) .stop)) (.alt 9 (.alt 4 (.alt 14 (Row.pures [15,16,17,18,19,20,21] (.alt 22 (.done) .stop)) .stop) (.alt 14 (.alt 4 (Row.pures [15,16,17,18,19,20,21] (.alt 22 (.done) .stop)) .stop) .stop)) (.alt 14 (.alt 4 (.alt 9 (Row.pures [15,16,17,18,19,20,21] (.alt 22 (.done) .stop)) .stop) (.alt 9 (.alt 4 (Row.pures [15,16,17,18,19,20,21] (.alt 22 (.done) .stop)) .stop) .stop)) .stop)))) mixed (zE xw xo g1) ?_)
 repeat' refine And.intro ?_ ?_
 all_goals
  refine zJ (hc) (zE xw xo g1) ?_;refine za (zb ?_);exact zg ⟨_,_,rfl,⟨by simp[zp],rfl⟩,zN (qz hd hlt _)⟩
def uY(e c:Int):Int:=if e=0 then c else e
theorem Zis{p:zC}{e c:Int}(hr:Pure prog 35 [.agg [x0,x1,x2,x3,x4,x5],.agg [s0,s1,s2,s3]] (.tup [.agg [L p],I e]))(hc:e=0->Pure prog 67 [.agg [x0,x1,x2,x3,x4,x5],.agg [L p]] (I c))
  (hS:S id=.cells v 92 [t,s0,s1,s2,s3,x0,x1,x2,x3,x4,x5,r0,r1,r2,r3,r4,r5]) :
  Spec prog 50 [.ptr id v 0] S (λq S'=>q=I (uY e c)/\S'=S.set id (.cells v 92
   (if uY e c=0 then [t,s0,s1,s2,s3,x0,x1,x2,x3,x4,x5,I 4,r1,r2,r3,r4,L p] else [t,s0,s1,s2,s3,x0,x1,x2,x3,x4,x5,r0,r1,r2,r3,r4,r5]))):=by
 have hself:S=S.set id (.cells v 92 [t,s0,s1,s2,s3,x0,x1,x2,x3,x4,x5,r0,r1,r2,r3,r4,r5]):=(Yh S id _ hS).symm;unfold uY;refine yh Tryz.func50 Tryz.ntmps50 Tryz.results50 λnx hd=>?_
 have hlt:id<nx:=qE hd hS (by simp);have xw:=λobs=>(zA (S:=S) (obs:=obs) hlt).trans hS
 have xo:∀(A:Ob) obs,ext (S.set id A) nx obs id=A:=λA obs=>(zA hlt).trans (q11 _ _ _)
 have g1:¬nx<=id:=by omega
 refine za (zb ?_);refine za (zz (some [id]) (Row.pures [0,1,2,3,4,5,6,7,8,9,10,11] (.alt 12 (.alt 13 (Row.pures [14] .done) .stop) .stop)) mixed (zo xw g1) ?_);refine zJ (hr) (zo xw g1) ?_;intro v0
 repeat apply za
 refine zb ?_
 by_cases he:e=0
 case neg =>
  simp only[if_neg he];refine zn (by simp[he]) ?_;refine za (zb ?_);exact zg ⟨_,_,rfl,⟨by simp[zp],hself⟩,zN hd⟩
 have hc2:=hc he;clear hc;simp only[if_pos he];subst he;refine zm (by simp) ?_;refine zh ?_
 repeat apply za
 refine zz (some [id,nx]) (Row.pures [0,1,2,3,4,5,6] .done) mixed (zo xw g1) ?_;refine zJ (hc2) (zo xw g1) ?_;refine za (zb ?_)
 by_cases h2:c=0
 case neg =>
  rw[if_neg h2];refine zn (by simp[h2]) ?_;refine za (zb ?_);exact zg ⟨_,_,rfl,⟨by simp[zp],hself⟩,zN hd⟩
 subst h2;rw[if_pos rfl];refine zm (by simp) ?_;refine zh (za (zz (some [nx]) (Row.pures [0,1,2,3,4,5] (.alt 6 (Row.pures [7,8,9] (.alt 10 (.done) .stop)) .stop)) mixed (zE xw xo g1) ?_))
 repeat' refine And.intro ?_ ?_
 all_goals
  refine za (zb ?_);exact zg ⟨_,_,rfl,⟨by simp[zp],rfl⟩,zN (qz hd hlt _)⟩
theorem ZsE{c h:Int}{ds:List Int}(hc:Pure prog 68 [.agg [x0,x1,x2,x3,x4,x5],.agg [r5]] (I c))(hh:Pure prog 69 [.agg [x0,x1,x2,x3,x4,x5],.agg [r5]] (I h))(hds:Pure prog 71 [.agg [x0,x1,x2,x3,x4,x5],.agg [r5]] (L ds))
  (hS:S id=.cells v 92 [t,s0,s1,s2,s3,x0,x1,x2,x3,x4,x5,r0,r1,r2,r3,r4,r5]) :
  Spec prog 51 [.ptr id v 0] S (λq S'=>q=I 0/\S'=S.set id (.cells v 92 [t,s0,s1,s2,s3,x0,x1,x2,x3,x4,x5,r0,r1,I c,I h,L ds,r5])):=by
 refine yh Tryz.func51 Tryz.ntmps51 Tryz.results51 λnx hd=>?_
 have hlt:id<nx:=qE hd hS (by simp);have xw:=λobs=>(zA (S:=S) (obs:=obs) hlt).trans hS
 have xo:∀(A:Ob) obs,ext (S.set id A) nx obs id=A:=λA obs=>(zA hlt).trans (q11 _ _ _)
 have g1:¬nx<=id:=by omega
 refine za (zb ?_);refine za (zz (some []) (Row.pures [0,1,2,3,5,6,7,8] (.alt 4 (.alt 9 (Row.pures [10,11,12,13] (.alt 14 (.done) .stop)) .stop) (.alt 9 (.alt 4 (Row.pures [10,11,12,13] (.alt 14 (.done) .stop)) .stop) .stop))) mixed (zE xw xo g1) ?_)
 repeat' refine And.intro ?_ ?_
 all_goals
  refine zJ (hc) (zE xw xo g1) ?_;refine za (zz (some []) (Row.pures [0,1,2,3,5,6,7,8] (.alt 4 (.alt 9 (Row.pures [10,11,12,13] (.alt 14 (.done) .stop)) .stop) (.alt 9 (.alt 4 (Row.pures [10,11,12,13] (.alt 14 (.done) .stop)) .stop) .stop))) mixed (zE xw xo g1) ?_)
  repeat' refine And.intro ?_ ?_
  all_goals
   refine zJ (hh) (zE xw xo g1) ?_;refine za (zz (some []) (Row.pures [0,1,2,3,5,6,7,8] (.alt 4 (.alt 9 (Row.pures [10,11,12,13] (.alt 14 (.done) .stop)) .stop) (.alt 9 (.alt 4 (Row.pures [10,11,12,13] (.alt 14 (.done) .stop)) .stop) .stop))) mixed (zE xw xo g1) ?_)
   repeat' refine And.intro ?_ ?_
   all_goals
    refine zJ (hds) (zE xw xo g1) ?_;refine za (zb ?_);exact zg ⟨_,_,rfl,⟨by simp[zp],rfl⟩,zN (qz hd hlt _)⟩
end
open Go Go.Proofs Hp
theorem Zc8{α:Type}[Enc α](id v:Nat)(cs:List PV)(l:List (List α)):(l.flatMap Enc.enc).map (qi id v cs)=(l.flatMap Enc.enc:List PV):=by
 refine(AK λp hp=>?_).trans (C4 _);obtain⟨t,_,ht⟩:=BV.1 hp;rw[Zkn,AV]at ht;subst ht;rfl
theorem Zc9(p:zC)(hp:p.length<=1000)(hd0:∀d∈p,d.length<=1000)(ht:∀d∈p,∀t∈d,t.length<=1000){S:Store}{nx:Nat}(hd:zT nx S):
  Spec prog 180 [.agg [L p]] S (λq S'=>∃v,q=.agg [.sl (nx+3) v 1 0 p.length]/\S'=S.set (nx+3) (.cells v 39 (p.flatMap Enc.enc))):=by
 refine ut hd Tryz.func180 Tryz.ntmps180 Tryz.results180 ?_;refine za (zb ?_);intro v0 v1;refine za (zb ?_);intro v2;refine jg 2 0 39 1 rfl rfl λv3=>?_
 repeat apply za
 refine zb ?_;refine zj (zD (λs:Nat × Nat=>s.1<=p.length) (λ(k,w)=>[(2,.ptr (nx+1) v1 0),(3,.ptr (nx+2) v2 0),(10,L p),(11,I p.length),(12,I k)]) (λ(k,w)=>[.cells v0 30 [L p],.cells v1 30 [yp],.cells v2 30 [.sl (nx+3) w 1 0 k],.cells w 39 ((p.take k).flatMap Enc.enc)]) (λs=>p.length-s.1) (0,v3) [] (by simp) (by simp) (by simp) ?_);rintro⟨k,w⟩ hk;simp only at hk ⊢;refine za (zb ?_);refine za (zv rfl (λhc=>?_) (λhc=>?_))
 ·simp at hc;obtain⟨d,tl,a1,a2,a3,e0⟩:=zF rfl p k hc;have hdm:=Ab a1;have hdl:=hd0 d hdm;have hk1:1<=p.length-k:=by omega
  have htk:(p.take k).length=k:=by rw[Ay];omega
  generalize hpk:p.take k=pk at *;have hqf:(pk.flatMap Enc.enc:List PV).length=k:=(jT pk).trans htk;have hqt:(pk.flatMap Enc.enc:List PV).take k=pk.flatMap Enc.enc:=Af (by omega);have hfp:∀id v cs,(pk.flatMap Enc.enc).map (qi id v cs)=(pk.flatMap Enc.enc:List PV):=λid v cs=>Zc8 id v cs pk
  refine zh (za (zj (za (ze [] (zE hc e0 hk1) ?_))));intro v4;refine za (zb ?_);intro v5;refine jg 5 0 42 1 rfl rfl λv6=>?_
  repeat apply za
  refine zb ?_;refine zj (zD (λs:Nat × Nat=>s.1<=d.length) (λ(j,w6)=>[(2,.ptr (nx+1) v1 0),(3,.ptr (nx+2) v2 0),(6,.ptr (nx+5) v5 0),(10,L p),(11,I p.length),(12,I k),(17,L d),(18,I d.length),(19,I j)])
   (λ(j,w6)=>[.cells v0 30 [L p],.cells v1 30 [yp],.cells v2 30 [.sl (nx+3) w 1 0 k],.cells w 39 (pk.flatMap Enc.enc),.cells v4 39 [L d],.cells v5 39 [.sl (nx+6) w6 1 0 j],.cells w6 42 ((d.take j).flatMap Enc.enc)]) (λs=>d.length-s.1) (0,v6) [] (by simp) (by simp) (by simp) ?_)
  rintro⟨j,w6⟩ hj;simp only at hj ⊢;refine za (zb ?_);refine za (zv rfl (λhcj=>?_) (λhcj=>?_))
  ·simp at hcj;obtain⟨t,tl2,b1,b2,b3,f0⟩:=zF rfl d j hcj;have htl:=ht d hdm t (Ab b1);have hj1:1<=d.length-j:=by omega
   have htj:(d.take j).length=j:=by rw[Ay];omega
   generalize hdj:d.take j=dj at *;have hrf:(dj.flatMap Enc.enc:List PV).length=j:=(jT dj).trans htj;have hrt:(dj.flatMap Enc.enc:List PV).take j=dj.flatMap Enc.enc:=Af (by omega);have hfd:∀id v cs,(dj.flatMap Enc.enc).map (qi id v cs)=(dj.flatMap Enc.enc:List PV):=λid v cs=>Zc8 id v cs dj
   have htf:(t.flatMap Enc.enc:List PV).length=t.length*2:=Y9 t;refine zh (za (zj (za (ze [] (zE hcj f0 hj1) ?_))));intro v7;refine zz (some [nx+7]) (Row.pures [0,2,3] (.alt 1 (.alt 4 (Row.pures [5,6] (.alt 7 (Row.pures [8] (.alt 9 (.done) .stop)) .stop)) .stop) (.alt 4 (Row.pures [5,6] (.alt 1 (.alt 7 (Row.pures [8] (.alt 9 (.done) .stop)) .stop) .stop)) .stop))) mixed (zo hrf hrt) ?_;refine⟨⟨by omega,λv8=>⟨⟨by omega,by omega⟩,?_⟩⟩,⟨by omega,λv8=>⟨⟨by omega,by omega⟩,?_⟩⟩⟩
   all_goals
    refine yb 8 rfl ?_;simp only[Ax,Be,AW,Ba,xD,hfp,hfd,List.map_append];refine zb ?_;exact zq (j+1,w6+1) [_,_] (by simp;omega) (by simp;omega) (by simp[zu j (by omega)]) rfl (by simp[b3,qi,htf];exact⟨rfl,rfl⟩)
  ·simp at hcj;obtain rfl:j=d.length:=by omega
   rw[Ao];have hfd:∀id v cs,(d.flatMap Enc.enc).map (qi id v cs)=(d.flatMap Enc.enc:List PV):=λid v cs=>Zc8 id v cs d
   refine zy (yb 6 rfl ?_);simp only[Ax,Be,AW,Ba,xD,hfp,hfd];refine ze [] (zo hqf hqt) ?_;refine⟨by omega,?_⟩;refine zb ?_;exact zq (k+1,w+1) [_,_,_] (by simp;omega) (by simp;omega) (by simp[zu k (by omega)]) rfl (by simp[a3];exact⟨rfl,rfl,rfl⟩)
 ·simp at hc;obtain rfl:k=p.length:=by omega
  rw[Ao];refine zy (za (zb ?_));exact zg ⟨_,_,(by simp;rfl),⟨w,by simp[zp],rfl⟩,Y7 (j:=3) hd (by simp)⟩
theorem ZsF(p:zC)(hp:p.length<=1000)(hd0:∀d∈p,d.length<=1000)(ht:∀d∈p,∀t∈d,t.length<=1000):Pure prog 180 [.agg [L p]] (.agg [L p]) :=
 Zej (sz:=1) 3 (λS nx hd=>Zc9 p hp hd0 ht hd) (by rw[jT,BT])
def vS(x:Inst)(p:zC)(day b:Int):zC × Bool :=
 if day<0\/(p.length:Int)<=day then (p,false)
 else if W (yq x (p.getD day.toNat []))<=W (yq x (wZ x b (p.getD day.toNat []))) then (p,false)
 else (p.set day.toNat (wZ x b (p.getD day.toNat [])),true)
structure PlanM (x:Inst) (p:zC):Prop where
 cust:x.cust.length<=900
 inst:InstH x
 len:p.length<=1000
 may:∀d∈p,yr x d=0
theorem PlanM.sizes{x:Inst}{p:zC}(h:PlanM x p):∀d∈p,d.length<=1000/\(∀t∈d,t.length<=1000)/\DayOk d/\d.flatten.length<=1000:=by
 intro d hd;obtain⟨h1,h2,h3⟩:=Zap h.cust (h.may d hd);have:=h.cust;exact⟨by omega,λt ht=>by have:=Zai d t ht;omega,h3.ok,by omega⟩
theorem Zit{x:Inst}(hx:x.cust.length<=900)(hi:InstH x){d:zk}(h:yr x d=0)(b:Int):yr x (wZ x b d)=0/\(wZ x b d).flatten.Perm d.flatten/\yq x (wZ x b d)<=yq x d:=by
 obtain⟨hs,hg⟩:=ZhW hx hi.arc hi.veh h;obtain⟨h1,h2,h3⟩:=V5 hs hi.diag b.toNat d hg;obtain⟨m1,m2,m3⟩:=(vB x d).1 h;change SG x d.flatten (wZ x b d) at h1;change yq x (wZ x b d)<=yq x d at h2;change (wZ x b d).length<=d.length at h3;exact⟨(vB x _).2 ⟨h1.may,(h1.perm.map _).nodup_iff.2 m2,by omega⟩,h1.perm,h2⟩
theorem ZsG{x:Inst}(hx:x.cust.length<=900)(hi:InstH x){d:zk}(h:yr x d=0){b:Int}(hb:b<=9223372036854775807):∃k:Int,Pure prog 252 [.agg (zx x),.agg [L d],I b] (.tup [.agg [L (wZ x b d)],I k]):=by
 obtain⟨hs,hg⟩:=ZhW hx hi.arc hi.veh h;have o:=hg.ok hs;exact⟨_,Zf5 x d b (ue x) (SG x d.flatten) hb o.n o.t (λ_=>hg) (Zgz hs hi.diag)⟩
theorem ZsH{x:Inst}{p:zC}(h:PlanM x p)(day b:Int)(hb:b<=9223372036854775807):
  Pure prog 216 [.agg (zx x),.agg [L p],I day,I b] (.tup [.agg [L (vS x p day b).1],B (vS x p day b).2]):=by
 have hsz:=h.sizes;have hpl:=h.len;refine zt Tryz.func216 Tryz.ntmps216 Tryz.results216 λS nx hd=>?_
 refine za (zb ?_);intro v0 v1 v2;refine za (zb ?_);refine λhsuf=>((Zc9 p h.len (λd hd=>(hsz d hd).1) (λd hd=>(hsz d hd).2.1) jF).mono ?_).v
 rintro _ _ ⟨v3,rfl,rfl⟩;refine⟨_,_,JT 3 _,jH [] Nat.add_assoc hsuf ?_⟩;intro v4
 by_cases h0:day<0
 ·have hz:vS x p day b=(p,false):=by unfold vS;rw[if_pos (.inl h0)]
  rw[hz]
  repeat apply za
  refine ze [(2,17)] (zo h0 zH) ?_;refine zn rfl (yb 6 rfl ?_);refine za (zb ?_);exact zg (zi hd (by simp;rfl) rfl)
 by_cases h1:(p.length:Int)<=day
 ·have hz:vS x p day b=(p,false):=by unfold vS;rw[if_pos (.inr h1)]
  rw[hz]
  repeat apply za
  refine ze [(2,17)] (zo h0 h1) ?_;refine zn rfl (yb 6 rfl ?_);refine za (zb ?_);exact zg (zi hd (by simp;rfl) rfl)
 obtain⟨k,rfl⟩:=Az (show 0<=day by omega);have hk:k<p.length:=by omega
 obtain⟨d,tl,a1,a2,a3,e0⟩:=zF rfl p k hk;have hdm:=Ab a1;have hgd:p.getD (k:Int).toNat []=d:=by rw[AT,Aa,a1];rfl
 have hz:vS x p k b=if W (yq x d)<=W (yq x (wZ x b d)) then (p,false) else (p.set k (wZ x b d),true):=by
  unfold vS;rw[if_neg (by omega),hgd,AT]
 obtain⟨m,hI⟩:=ZsG h.cust h.inst (h.may d hdm) hb;have him:=Zit h.cust h.inst (h.may d hdm) b;have hc1:=JZ x d (hsz d hdm).2.2.1;have hc2:=JZ x (wZ x b d) (Zap h.cust him.1).2.2.ok;rw[hz];generalize wZ x b d=e at *;generalize W (yq x d)=z1 at *;generalize W (yq x e)=z2 at *;have hk1:1<=p.length-k:=by omega
 have hpf:(p.flatMap Enc.enc:List PV).length=p.length:=jT p;have hsp:=ZcG (α:=zk) rfl p k e hk;have hsp':yc (p.flatMap Enc.enc) k [L e]=(p.set k e).flatMap Enc.enc:=by simpa using hsp
 repeat apply za
 refine ze [(2,17)] (zo h0 h1) ?_;refine zm rfl (zh (za (zz (some [nx,nx+6,nx+7]) (Row.pures [0,1,2,3,4,5,6,7,8,9,10] (.alt 11 (.alt 12 (Row.pures [13] .done) .stop) .stop)) mixed (zE e0 hk hk1) ?_)));refine zJ (hI) (zE e0 hk hk1) ?_;intro v5
 by_cases hle:z1<=z2
 ·rw[if_pos hle]
  repeat apply za
  refine zz (some [nx,nx+6,nx+7,nx+8]) (Row.pures [0,1,2,3,4,5,6,7,8,9,10] .done) mixed (zS e0 hk hk1 hle) ?_;refine zJ (hc2) (zS e0 hk hk1 hle) ?_;refine zJ (hc1) (zS e0 hk hk1 hle) ?_;refine zn rfl (yb 6 rfl ?_);refine za (zb ?_);exact zg (zi hd (by simp;rfl) rfl)
 ·rw[if_neg hle]
  repeat apply za
  refine zz (some [nx,nx+6,nx+7,nx+8]) (Row.pures [0,1,2,3,4,5,6,7,8,9,10] .done) mixed (zS e0 hk hk1 hle) ?_;refine zJ (hc2) (zS e0 hk hk1 hle) ?_;refine zJ (hc1) (zS e0 hk hk1 hle) ?_;refine zm rfl (zh (za (ze [] (zE hk hsp' hpf) ?_)));refine⟨by omega,?_⟩;refine yb 6 rfl ?_;refine za (zb ?_);exact zg (zi hd (by simp;rfl) (by simp[zp]))
open Go Go.Proofs Hp
structure PlanS (n K:Nat) (p:zC):Prop where
 len:p.length=n
 ok:∀d∈p,DayOk d/\d.flatten.length<=K/\d.length<=K
theorem Zda{x:Inst}{d:zk}{s:Stop}{K:Nat}(hx:x.cust.length<=1048576)(h1:DayOk d)(h2:d.flatten.length<=K)(h3:d.length<=K)(hK:K<=100000):DayOk (yL x d s).1/\(yL x d s).1.flatten.length<=K+1/\(yL x d s).1.length<=K+1:=by
 refine⟨Zf1 hx h1 (by omega) (by omega),?_,?_⟩
 ·cases hi:(yL x d s).2 with
  | true=>rw[(ZbT hi).length_eq,Ae];omega
  | false=>rw[ZfB hi];omega
 ·unfold yL;cases (vE (yT x d s)).2 with
  | false=>show d.length<=K+1;omega
  | true =>
   show (jx d (vE (yT x d s)).1 s).length<=K+1
   unfold jx;split<;>simp<;>omega
theorem ZsI(x:Inst)(p:zC)(c:Nat){n K:Nat}(hn1:n<=1000)(hK:K<=100000)(hx:x.cust.length<=1000)(hc:c<x.cust.length)(hp:PlanS n K p):Pure prog 322 [.agg (zx x),.agg [L p],I c] (L (p.map (w9 x (vN x c)))):=by
 have hth:=ZhV x c;rw[show (decide (0<=(c:Int)) && decide ((c:Int)<x.cust.length))=true from by simp;omega]at hth;obtain⟨cu,tlc,a1,-,-,e1,e0⟩:=el 8 rfl x.cust c hc;have e11:=e1 1 (by omega);have hq:vN x c=⟨c,if cu.kind=1 then cu.demand else 1⟩:=by unfold vN;rw[Aa,a1];rfl
 have hplen:p.length<=1000:=by have:=hp.len;omega
 refine zt Tryz.func322 Tryz.ntmps322 Tryz.results322 λS nx hd=>?_
 refine za (zb ?_);intro v0 v1;refine za (zb ?_);intro v2;refine za (qY (nx:=nx) (σ:=Unit) (λ_=>True) (λ_=>[(3,.ptr nx v0 0),(4,.ptr (nx+1) v1 0),(7,.ptr (nx+2) v2 0)]) (λ_=>S) (λ_=>[.cells v0 25 (zx x),.cells v1 30 [L p],.cells v2 100 [I c,I (vN x c).q]]) ?_ ?_)
 ·by_cases hk:cu.kind=1
  ·rw[if_pos hk]at hq;refine za (ze [(3,19)] (zE e0 hc hk) ?_);refine qt [(3,19)] hth (zE e0 hc hk) ?_;refine zn (by simp[hk]) ?_;refine ze [] (zo e11 hc) ?_;exact zY () [] trivial (by simp) rfl (by simp[hq])
  ·rw[if_neg hk]at hq;refine za (ze [(3,19)] (zE e0 hc hk) ?_);refine qt [(3,19)] hth (zE e0 hc hk) ?_;refine zm (by simp[hk]) ?_;exact zh (zY () [] trivial (by simp) rfl (by simp[hq]))
 intro _ _;have hsc:(vN x c).c=c:=rfl;generalize hst:vN x c=s at hsc;clear hq;refine za (zb ?_);refine za (jf 8 3 1 rfl λv3=>?_);refine za (zb ?_);refine zj (zD (λst:Nat × List Int × Nat=>st.1<=p.length/\st.2.1=(p.take st.1).map (w9 x s)) (λ(k,out,w)=>[(3,.ptr nx v0 0),(7,.ptr (nx+2) v2 0),(8,.sl (nx+3) w 1 0 out.length),(36,L p),(37,I p.length),(38,I k)]) (λ(k,out,w)=>[.cells v0 25 (zx x),.cells v1 30 [L p],.cells v2 100 [I c,I s.q],.cells w 3 (out.flatMap Enc.enc)]) (λst=>p.length-st.1) (0,[],v3) [] (by simp) (by simp) (by simp) ?_);rintro⟨k,out,w⟩ ⟨hk,ho⟩;simp only at hk ho ⊢;have hol:out.length=k:=by rw[ho];simp;omega
 refine za (zb ?_);refine za (zv rfl (λhc1=>?_) (λhc1=>?_))
 ·simp at hc1;obtain⟨d,tl,b1,b2,b3,f0⟩:=zF rfl p k hc1;obtain⟨g1,g3,g4⟩:=hp.ok d (Ab b1);have g5:=(Zda (x:=x) (s:=s) (by omega) g1 g3 g4 hK).1;have hins:=Zb0 x d s (by omega) g1 (by omega);have hc2:=JZ x d g1;have hc3:=JZ x _ g5;have hpr:w9 x s d=if (yL x d s).2=true then max 0 (W (W (yq x (yL x d s).1)-W (yq x d))) else 4294967296:=rfl
  rw[hsc]at hins;generalize yL x d s=r at *;obtain⟨e,ok⟩:=r;simp only at hins hc3 hpr;generalize W (yq x d)=z1 at *;generalize W (yq x e)=z2 at *;have h1p:1<=p.length-k:=by omega
  refine zh (za (zj (za (ze [] (zE f0 hc1 h1p) ?_))));intro v4;refine za (zb ?_)
  repeat apply za
  refine zb ?_;refine zr hins ?_;intro v5;refine za (zb ?_);cases ok with
  | true =>
   rw[if_pos rfl]at hpr;have hmax:qS (0:Int) (W (z2-z1))=w9 x s d:=by rw[hpr];unfold qS;split<;>omega
   refine zn rfl (zz (some [nx,nx+4,nx+5]) (Row.pures [0,1,2,3,4,5,6,7,8] .done) mixed trivial ?_);refine zJ (hc3) hmax ?_;refine zJ (hc2) hmax ?_;refine zb ?_;refine⟨by omega,?_⟩;refine zb ?_;exact zq (k+1,out++[w9 x s d],w+1) [_,_] ⟨hc1,by rw[b3,List.map_append,ho];rfl⟩ (by simp;omega) (by simp[zu k (by omega)]) rfl (by simp[hpr];exact⟨rfl,rfl⟩)
  | false =>
   rw[if_neg (by decide)]at hpr;refine zm rfl (zh (zb ?_));refine⟨by omega,?_⟩;refine zb ?_;exact zq (k+1,out++[w9 x s d],w+1) [_,_] ⟨hc1,by rw[b3,List.map_append,ho];rfl⟩ (by simp;omega) (by simp[zu k (by omega)]) rfl (by simp[hpr];exact⟨rfl,rfl⟩)
 ·simp at hc1;obtain rfl:k=p.length:=by omega
  rw[Ao]at ho;refine zy (yb 3 rfl ?_);refine za (zb ?_);exact zg (zi hd (by simp;rfl) (by simp[zp,ho]))
def Yi(x:Inst)(p:zC):Bool:=p.all λd=>decide (yr x d=0)
theorem ZsJ(x:Inst)(p:zC){n K:Nat}(hn1:n<=1000)(hK:K<=100000)(hx:x.cust.length<=1000)(hp:PlanS n K p):Pure prog 289 [.agg (zx x),.agg [L p]] (B (Yi x p)):=by
 have hplen:p.length<=1000:=by have:=hp.len;omega
 refine zt Tryz.func289 Tryz.ntmps289 Tryz.results289 λS nx hd=>?_
 refine za (zb ?_);intro v0 v1
 repeat apply za
 refine zb ?_;refine zj (zD (λk:Nat=>k<=p.length/\∀d∈p.take k,yr x d=0) (λk=>[(2,.ptr nx v0 0),(8,L p),(9,I p.length),(10,I k)]) (λ_=>[.cells v0 25 (zx x),.cells v1 30 [L p]]) (λk=>p.length-k) 0 [] (by simp) (by simp) (by simp) ?_);rintro k ⟨hk,hE⟩;refine za (zb ?_);refine za (zv rfl (λhc=>?_) (λhc=>?_))
 ·simp at hc;obtain⟨d,tl,a1,a2,a3,e0⟩:=zF rfl p k hc;obtain⟨g1,g2,g3⟩:=hp.ok d (Ab a1);have hD:=Zbq x d (by omega) g1.n g1.t (by omega);have hk1:1<=p.length-k:=by omega
  refine zh (za (zj (za (ze [] (zE e0 hc hk1) ?_))));intro v2
  by_cases h0:yr x d=0
  ·rw[h0]at hD;refine za (zb ?_);refine zr hD ?_;refine zm (by simp) ?_;refine zh (zb ?_);exact zq (k+1) [_] ⟨hc,λe he=>by rw[a3]at he;rcases AC.1 he with q | q;exact hE e q;rw[AV.1 q];exact h0⟩ (by omega) (by simp[zu k (by omega)]) rfl (by simp;rfl)
  ·have ho:Yi x p=false:=by
    unfold Yi;rw[Bu];exact⟨d,Ab a1,by simpa using h0⟩
   rw[ho];generalize yr x d=z at *;refine za (zb ?_);refine zr hD ?_;refine zn (by simp[h0]) ?_;refine za (zb ?_);exact zg (zi hd rfl rfl)
 ·simp at hc;obtain rfl:k=p.length:=by omega
  rw[Ao]at hE;have ho:Yi x p=true:=by
   unfold Yi;rw[As];intro d hd;simpa using hE d hd
  rw[ho];refine zy (za (zb ?_));exact zg (zi hd rfl rfl)
def ZI(x:Inst)(c:Nat)(st:zC × Bool)(w:Visit):zC × Bool :=
 if st.2=true then (if (yL x (st.1.getD w.d.toNat []) ⟨c,w.q⟩).2=true then (st.1.set w.d.toNat (yL x (st.1.getD w.d.toNat []) ⟨c,w.q⟩).1,true) else ([],false)) else st
def vp(x:Inst)(n:Nat)(p:zC)(c:Nat):zC × Bool :=
 if (qy n x.cap (x.cust.getD c default) (p.map (w9 x (vN x c)))).2=true then (qy n x.cap (x.cust.getD c default) (p.map (w9 x (vN x c)))).1.foldl (ZI x c) (p,true) else ([],false)
theorem Zdb(x:Inst)(c:Nat):∀v:List Visit,v.foldl (ZI x c) ([],false)=([],false)
 | []=>rfl
 | w :: v=>by rw[A8];exact Zdb x c v
theorem ZsK(x:Inst)(s:Stop)(p:zC):∀z∈p.map (w9 x s),zM z:=by
 intro z hz;obtain⟨d,-,rfl⟩:=An.1 hz;unfold w9;split
 ·have:=ZcI (W (yq x (yL x d s).1)-W (yq x d));unfold zM at *;omega
 ·unfold zM;omega
theorem PlanS.sizes{n K:Nat}{p:zC}(h:PlanS n K p)(hn1:n<=1000)(hK:K<=1000):p.length<=1000/\(∀d∈p,d.length<=1000)/\∀d∈p,∀t∈d,t.length<=1000:=by
 refine⟨by have:=h.len;omega,λd hd=>by have:=(h.ok d hd).2.2;omega,λd hd t ht=>?_⟩;have:=Zai d t ht;have:=(h.ok d hd).2.1;omega
theorem PlanS.set{n K:Nat}{p:zC}(h:PlanS n K p){k:Nat}{e:zk}(he:DayOk e/\e.flatten.length<=K+1/\e.length<=K+1):PlanS n (K+1) (p.set k e):=by
 refine⟨by rw[Bz];exact h.len,λd hd=>?_⟩;rcases BC hd with q | q
 ·obtain⟨g1,g2,g3⟩:=h.ok d q;exact⟨g1,by omega,by omega⟩
 ·rw[q];exact he
theorem Ziu{x:Inst}{n:Nat}(h:InstA x n){p:zC}{K:Nat}(hK:K<=10000)(hp:PlanS n K p){c:Nat}(hc:c<x.cust.length)(h0:(vp x n p c).2=true):PlanS n (K+64) (vp x n p c).1:=by
 have hx:=h.h.cust;unfold vp at h0 ⊢;split at h0
 ·rename_i h1;rw[if_pos h1];have hcm:x.cust.getD c default∈x.cust:=by rw[Aa,Ad hc];exact Bh hc
  have hg:=Zao (h.made _ hcm) h.n60 x.cap _ h1;have hl:=hg.len;generalize (qy n x.cap (x.cust.getD c default) (p.map (w9 x (vN x c)))).1=v at *;clear hg h1;have key:∀(v:List Visit) (q:zC) (K:Nat),K+v.length<=10100->PlanS n K q->(v.foldl (ZI x c) (q,true)).2=true->PlanS n (K+v.length) (v.foldl (ZI x c) (q,true)).1:=by
   intro v
   induction v with
   | nil=>intro q K _ hq _;exact hq
   | cons w v ih =>
    intro q K hKl hq hz;rw[Ae]at hKl ⊢;rw[A8]at hz ⊢;have hs:ZI x c (q,true) w=if (yL x (q.getD w.d.toNat []) ⟨c,w.q⟩).2=true then (q.set w.d.toNat (yL x (q.getD w.d.toNat []) ⟨c,w.q⟩).1,true) else ([],false):=rfl
    rw[hs]at hz ⊢;split at hz
    ·rename_i hi;rw[if_pos hi];rw[show K+(v.length+1)=(K+1)+v.length by omega];refine ih _ _ (by omega) (hq.set ?_) hz;have hd:DayOk (q.getD w.d.toNat [])/\(q.getD w.d.toNat []).flatten.length<=K/\(q.getD w.d.toNat []).length<=K:=by
      rw[Aa];cases e:q[w.d.toNat]? with
      | none=>exact⟨⟨by simp,by simp,by simp⟩,by simp,by simp⟩
      | some d=>exact hq.ok d (Ab e)
     exact Zda (by omega) hd.1 hd.2.1 hd.2.2 (by omega)
    ·rw[Zdb]at hz;cases hz
  have:=key v p K (by omega) hp h0;exact⟨this.len,λd hd=>by obtain⟨g1,g2,g3⟩:=this.ok d hd;exact⟨g1,by omega,by omega⟩⟩
 ·cases h0
theorem ZsL{x:Inst}{n:Nat}(h:InstA x n){p:zC}{K:Nat}(hK:K<=900)(hp:PlanS n K p)(c:Nat)(hc:c<x.cust.length):Pure prog 288 [.agg (zx x),.agg [L p],I c] (.tup [.agg [L (vp x n p c).1],B (vp x n p c).2]):=by
 have hx:=h.h.cust;have hn60:=h.n60;have hxd:=h.days;have hpl:=hp.len;obtain⟨hs1,hs2,hs3⟩:=hp.sizes (by omega) (by omega);obtain⟨cu,tlc,a1,-,-,e1,e0⟩:=el 8 rfl x.cust c hc;have hcm:=Ab a1;have hgc:x.cust.getD c default=cu:=by rw[Aa,a1];rfl
 have hPr:=ZsI x p c (n:=n) (K:=K) (by omega) (by omega) hx hc hp;have hI:=ZsK x (vN x c) p;have hlen:(p.map (w9 x (vN x c))).length<=1000:=by rw[List.length_map];omega
 have hput:vp x n p c=if (qy n x.cap cu (p.map (w9 x (vN x c)))).2=true then (qy n x.cap cu (p.map (w9 x (vN x c)))).1.foldl (ZI x c) (p,true) else ([],false):=by unfold vp;rw[hgc]
 have hgood:=Zao (h.made cu hcm) hn60 x.cap (p.map (w9 x (vN x c)));rw[hput];generalize p.map (w9 x (vN x c))=pr at *;have hSo:Pure prog 207 [.agg (ye cu),I x.days,I x.cap,L pr] (.tup [L (qy n x.cap cu pr).1,B (qy n x.cap cu pr).2]):=by
  rw[hxd];exact λS=>ZcV cu n x.cap (.inl rfl) hI hlen (h.made cu hcm) (h.pats cu hcm) hn60
 clear hput;generalize qy n x.cap cu pr=r at *;obtain⟨v,ok⟩:=r;simp only at hSo hgood ⊢;refine zt Tryz.func288 Tryz.ntmps288 Tryz.results288 λS nx hd=>?_
 refine za (zb ?_);intro v0 v1 v2;refine za (zz (some [nx,nx+1]) (Row.pures [0,1,2,3,4,5,6,7,8,9,10,11,12,13,14,15,16,17,18] .done) mixed (zo e0 hc) ?_);refine zJ (hPr) (zo e0 hc) ?_;refine zJ (hSo) (zo e0 hc) ?_;cases ok with
 | false =>
  rw[if_neg (by decide)]
  repeat apply za
  refine zb ?_;refine zn rfl (za (zb ?_));refine qk 2 0 rfl rfl ?_;exact zg (zi hd (by simp;rfl) rfl)
 | true =>
  have hg:=hgood rfl;have hvl:=hg.len;rw[if_pos rfl]
  repeat apply za
  refine zb ?_;refine zm rfl (zh (za (zb ?_)));refine λhsuf=>((Zc9 p hs1 hs2 hs3 jF).mono ?_).v
  rintro _ _ ⟨v3,rfl,rfl⟩;refine⟨_,_,JT 3 _,jH [] Nat.add_assoc hsuf ?_⟩;intro v4
  repeat apply za
  refine zb ?_;refine zj (zD (λs:Nat × zC × Nat=>s.1<=v.length/\(v.take s.1).foldl (ZI x c) (p,true)=(s.2.1,true)/\PlanS n (K+s.1) s.2.1) (λ(k,q,w)=>[(2,I c),(3,.ptr nx v0 0),(6,.ptr (nx+2) v2 0),(10,.ptr (nx+7) v4 0),(38,L v),(39,I v.length),(40,I k)]) (λ(k,q,w)=>[.cells v0 25 (zx x),.cells v1 30 [L p],.cells v2 30 [yp],.dead,.dead,.dead,.cells w 39 (q.flatMap Enc.enc),.cells v4 30 [.sl (nx+6) w 1 0 q.length]]) (λs=>v.length-s.1) (0,p,v3) [] ⟨by simp,by simp,hp⟩ (by simp) (by simp) ?_);rintro⟨k,q,w⟩ ⟨hk,hq,hqs⟩;simp only at hk hq hqs ⊢;have hql:=hqs.len;refine za (zb ?_);refine za (zv rfl (λhc1=>?_) (λhc1=>?_))
  ·simp at hc1;obtain⟨u,tl,b1,b2,b3,f1,f0⟩:=el 2 rfl v k hc1;have hu:=hg.ok u (Ab b1);obtain⟨z,hz⟩:∃z:Nat,u.d=z:=⟨u.d.toNat,by omega⟩;have hzl:z<q.length:=by omega
   obtain⟨d,tld,d1,d2,d3,d0⟩:=zF rfl q z hzl;obtain⟨g1,g2,g3⟩:=hqs.ok d (Ab d1);have hins:=Zb0 x d ⟨c,u.q⟩ (by omega) g1 (by omega);have hsz:=Zda (x:=x) (s:=⟨c,u.q⟩) (by omega) g1 g2 g3 (by omega);have hst:(v.take (k+1)).foldl (ZI x c) (p,true)=if (yL x d ⟨c,u.q⟩).2=true then (q.set z (yL x d ⟨c,u.q⟩).1,true) else ([],false):=by
    rw[b3,Bk,hq];have e9:q.getD u.d.toNat []=d:=by rw[hz,AT,Aa,d1];rfl
    show ZI x c (q,true) u=_
    unfold ZI;rw[if_pos rfl,e9,hz,AT]
   generalize yL x d ⟨c,u.q⟩=e at *;obtain⟨d',ok'⟩:=e;simp only at hins hst hsz;have hz1:1<=q.length-z:=by omega
   have hqf:(q.flatMap Enc.enc:List PV).length=q.length:=jT q;have hsp:=ZcG (α:=zk) rfl q z d' hzl;have hsp':yc (q.flatMap Enc.enc) z [L d']=(q.set z d').flatMap Enc.enc:=by simpa using hsp
   refine zh (za (zj (za (ze [] (zE f0 hc1 hz) ?_))));intro v5;refine za (zb ?_);intro v6;refine za (zz (some [nx,nx+6,nx+7,nx+8,nx+9]) (Row.pures [0,1,2,3,4,5,6,7,8,9,10,11] (.alt 12 (.alt 13 (Row.pures [14] .done) .stop) .stop)) mixed (zS d0 hzl hz1 hz) ?_);refine zJ (hins) (zS d0 hzl hz1 hz) ?_;intro v7;cases ok' with
   | false =>
    rw[if_neg (by decide)]at hst;have hall:v.foldl (ZI x c) (p,true)=([],false):=by
     conv=>lhs;rw[<-List.take_append_drop (k+1) v,Bk,hst,Zdb]
    rw[hall]
    repeat apply za
    refine zb ?_;refine zn rfl (za (zb ?_));refine qk 2 0 rfl rfl ?_;exact zg (zi hd (by simp;rfl) rfl)
   | true =>
    rw[if_pos rfl]at hst
    repeat apply za
    refine zb ?_;refine zm rfl (zh (ze [] (zS hzl hsp' hqf hz) ?_));refine⟨by omega,?_⟩;refine zb ?_;exact zq (k+1,q.set z d',w) [_,_,_] ⟨hc1,hst,hqs.set hsz⟩ (by simp;omega) (by simp[zu k (by omega)]) rfl (by simp;exact⟨rfl,rfl,rfl⟩)
  ·simp at hc1;obtain rfl:k=v.length:=by omega
   rw[Ao]at hq;rw[hq];refine zy (yb 6 rfl ?_);refine za (zb ?_);exact zg (zi hd (by simp;rfl) rfl)
open Go Go.Proofs Hp
theorem PlanS.wo{n K:Nat}{p:zC}(h:PlanS n K p)(c:Int):PlanS n K (Jn c p):=by
 refine⟨by unfold Jn;rw[List.length_map];exact h.len,λe he=>?_⟩;obtain⟨d,hd,rfl⟩:=An.1 he;obtain⟨g1,g2,g3⟩:=h.ok d hd;have hl:=Zf0 c d;have hm:∀t∈j8 c d,∃u∈d,t=xO c u:=λt ht=>by
  obtain⟨u,hu,e⟩:=An.1 (Bd.1 ht).1;exact⟨u,hu,e.symm⟩
 refine⟨⟨by have:=g1.n;omega,λt ht=>?_,λt ht s hs=>?_⟩,?_,by omega⟩
 ·obtain⟨u,hu,rfl⟩:=hm t ht;exact AB (Zb2 c u) (g1.t u hu)
 ·obtain⟨u,hu,rfl⟩:=hm t ht;exact g1.s u hu s (Bd.1 hs).1
 ·rw[Zrs];exact AB (By _ _) g2
structure PlanG (x:Inst) (n:Nat) (p:zC):Prop where
 a:InstA x n
 six:x.cust.length<=6
 len:p.length=n
 may:∀d∈p,yr x d=0
theorem PlanG.m{x:Inst}{n:Nat}{p:zC}(h:PlanG x n p):PlanM x p:=⟨by have:=h.six;omega,h.a.h,by have:=h.len;have:=h.a.n60;omega,h.may⟩
theorem PlanG.s{x:Inst}{n:Nat}{p:zC}(h:PlanG x n p):PlanS n 6 p:=by
 refine⟨h.len,λd hd=>?_⟩;obtain⟨h1,h2,h3⟩:=Zap (by have:=h.six;omega) (h.may d hd);have:=h.six;exact⟨h3.ok,by omega,by omega⟩
theorem PlanG.serves{x:Inst}{n:Nat}{p:zC}(h:PlanG x n p):Serves x p:=by
 have hs:=h.s;have hn:=h.a.n60;have hl:=hs.len;have hcn:Xo p<=1000*p.length:=by
  have:∀p:zC,(∀d∈p,d.flatten.length<=1000)->Xo p<=1000*p.length:=by
   intro p
   induction p with
   | nil=>intro _;simp[Xo]
   | cons d p ih =>
    intro h;have:=ih λe he=>h e (by simp[he])
    have:=h d (by simp);simp only[Xo,Ax,BP,Ae]at *;omega
  exact this p λd hd=>by have:=(hs.ok d hd).2.1;omega
 refine⟨⟨by omega,λd hd=>by have:=(hs.ok d hd).2.2;omega,λd hd=>(hs.ok d hd).1.t,by rw[Zhz];omega⟩,λs hst=>?_,by omega⟩;obtain⟨d,hd,hsd⟩:=Zct p 0 s hst;have:=Zcu (h.may d hd) s.1 hsd;simp[ju]at this;omega
theorem PlanG.cost{x:Inst}{n:Nat}{p:zC}(h:PlanG x n p):Pure prog 68 [.agg (zx x),.agg [L p]] (I (xU x p)) :=
 ZqF x p h.serves (by have:=h.six;omega) (λc hc=>(h.a.made c hc).fits) λd hd=>(h.s.ok d hd).1
theorem PlanG.clone{x:Inst}{n:Nat}{p:zC}(h:PlanG x n p):Pure prog 180 [.agg [L p]] (.agg [L p]):=by
 obtain⟨h1,h2,h3⟩:=h.s.sizes (by have:=h.a.n60;omega) (by omega);exact ZsF p h1 h2 h3
theorem PlanS.open{x:Inst}{n K:Nat}(h:InstA x n)(h6:x.cust.length<=6){p:zC}(hp:PlanS n K p)(ho:Yi x p=true):PlanG x n p :=
 ⟨h,h6,hp.len,λd hd=>by unfold Yi at ho;have:=As.1 ho d hd;simpa using this⟩
def uI(cs:List Nat)(p:zC):zC:=cs.foldl (λq (c:Nat)=>Jn c q) p
def WJ(x:Inst)(n:Nat)(st:zC × Bool)(c:Nat):zC × Bool:=if st.2=true then vp x n st.1 c else st
def ui(x:Inst)(n:Nat)(cs:List Nat)(q:zC):zC × Bool:=cs.foldl (WJ x n) (q,true)
def wJ(x:Inst)(n:Nat)(p:zC)(cs:List Nat):zC × Bool :=
 if (ui x n cs (uI cs p)).2=true then
  (if Yi x (ui x n cs (uI cs p)).1=true/\¬xU x p<=xU x (ui x n cs (uI cs p)).1 then ((ui x n cs (uI cs p)).1,true) else (p,false))
 else (p,false)
theorem Zdc(x:Inst)(n:Nat)(q:zC):∀cs:List Nat,cs.foldl (WJ x n) (q,false)=(q,false)
 | []=>rfl
 | c :: cs=>by rw[A8];exact Zdc x n q cs
theorem Ziv{x:Inst}{n:Nat}{p:zC}(h:PlanG x n p)(cs:List Nat)(hl:cs.length<=10)(hcs:∀c∈cs,c<x.cust.length):Pure prog 251 [.agg (zx x),.agg [L p],L (cs.map λ(c:Nat)=>(c:Int))] (.tup [.agg [L (wJ x n p cs).1],B (wJ x n p cs).2]):=by
 have hA:=h.a;have h6:=h.six;have hn60:=hA.n60;have hcl:=h.clone;have hps:=h.s;have hcost:=h.cost;obtain⟨zs,hzs⟩:∃zs,zs=cs.map λ(c:Nat)=>(c:Int):=⟨_,rfl⟩
 have hzl:zs.length=cs.length:=by rw[hzs,List.length_map]
 have hat:∀(k c:Nat),cs[k]?=some c->zs[k]?=some (c:Int):=λk c e=>by rw[hzs,Aj,e];rfl
 have hanew:wJ x n p cs=if (ui x n cs (uI cs p)).2=true then (if Yi x (ui x n cs (uI cs p)).1=true/\¬xU x p<=xU x (ui x n cs (uI cs p)).1 then ((ui x n cs (uI cs p)).1,true) else (p,false)) else (p,false):=rfl
 rw[<-hzs];clear hzs;refine zt Tryz.func251 Tryz.ntmps251 Tryz.results251 λS nx hd=>?_
 refine za (zb ?_);intro v0 v1 v2;refine za (zb ?_);intro v3
 repeat apply za
 refine zb ?_;refine zj (zD (λs:Nat × zC=>s.1<=zs.length/\s.2=uI (cs.take s.1) p/\PlanS n 6 s.2) (λ(k,q)=>[(2,L zs),(3,.ptr nx v0 0),(4,.ptr (nx+1) v1 0),(6,.ptr (nx+2) v2 0),(8,.ptr (nx+3) v3 0),(9,B true),(15,L zs),(16,I zs.length),(17,I k)]) (λ(k,q)=>[.cells v0 25 (zx x),.cells v1 30 [L p],.cells v2 30 [yp],.cells v3 30 [L q]]) (λs=>zs.length-s.1) (0,p) [] ⟨by simp,by simp[uI],hps⟩ (by simp) (by simp) ?_)
 ·rintro⟨k,q⟩ ⟨hk,hq,hqs⟩;simp only at hk hq hqs ⊢;refine za (zb ?_);refine za (zv rfl (λhc1=>?_) (λhc1=>?_))
  ·simp at hc1;obtain⟨c,hc⟩:∃c,cs[k]?=some c:=⟨_,Ad (by omega)⟩;have hcx:=hcs c (Ab hc);obtain⟨z,tl,b1,b2,b3,f0⟩:=zF rfl zs k hc1;obtain rfl:z=(c:Int):=by have:=hat k c hc;rw[b1]at this;exact Option.some.inj this
   have hth:=ZhV x c;rw[show (decide (0<=(c:Int)) && decide ((c:Int)<x.cust.length))=true from by simp;omega]at hth;obtain⟨s1,s2,s3⟩:=hqs.sizes (by omega) (by omega);have hwo:=Zrr q c s1 (λd hd=>by have:=s2 d hd;omega) (λd hd t ht=>by have:=s3 d hd t ht;omega);have hnext:Jn c q=uI (cs.take (k+1)) p:=by
    rw[hq,AN,hc];simp[uI]
   have hqs2:=hqs.wo c;have hqs2:=hqs.wo c;generalize Jn c q=q2 at *;refine zh (za (zj (za (ze [] (zo f0 hc1) ?_))))
   repeat apply za
   refine zb ?_;refine zr hth ?_;refine zm (by simp) ?_;refine zh (zb ?_);refine zr hwo ?_;refine zb ?_;exact zq (k+1,q2) [] ⟨hc1,hnext,hqs2⟩ (by simp;omega) (by simp[zu k (by omega)]) rfl (by simp)
  ·simp at hc1;obtain rfl:k=zs.length:=by omega
   rw[hzl,Ao]at hq;refine zy ?_
   repeat apply za
   refine zb ?_;refine zj (zD (λs:Nat × zC=>s.1<=zs.length/\(cs.take s.1).foldl (WJ x n) (q,true)=(s.2,true)/\PlanS n (6+64*s.1) s.2) (λ(k,q)=>[(2,L zs),(3,.ptr nx v0 0),(4,.ptr (nx+1) v1 0),(6,.ptr (nx+2) v2 0),(8,.ptr (nx+3) v3 0),(31,L zs),(32,I zs.length),(33,I k)]) (λ(k,q)=>[.cells v0 25 (zx x),.cells v1 30 [L p],.cells v2 30 [yp],.cells v3 30 [L q]]) (λs=>zs.length-s.1) (0,q) [] ⟨by simp,by simp,hqs⟩ (by simp) (by simp) ?_);rw[<-hq]at hanew;clear hqs hq hk hc1;rintro⟨k,r⟩ ⟨hk,hr,hrs⟩;simp only at hk hr hrs ⊢;refine za (zb ?_);refine za (zv rfl (λhc1=>?_) (λhc1=>?_))
   ·simp at hc1;obtain⟨c,hc⟩:∃c,cs[k]?=some c:=⟨_,Ad (by omega)⟩;have hcx:=hcs c (Ab hc);obtain⟨z,tl,b1,b2,b3,f0⟩:=zF rfl zs k hc1;obtain rfl:z=(c:Int):=by have:=hat k c hc;rw[b1]at this;exact Option.some.inj this
    have hput:=ZsL hA (K:=6+64*k) (by omega) hrs c hcx;have hsz:=Ziu hA (K:=6+64*k) (by omega) hrs hcx;have hst:(cs.take (k+1)).foldl (WJ x n) (q,true)=vp x n r c:=by
     rw[AN,hc,Bk,hr];rfl
    generalize vp x n r c=e at *;obtain⟨r2,ok⟩:=e;simp only at hput hsz;refine zh (za (zj (za (ze [] (zo f0 hc1) ?_))));refine za (zb ?_);refine zr hput ?_;cases ok with
    | false =>
     have hall:ui x n cs q=(r2,false):=by
      unfold ui
      conv=>lhs;rw[<-List.take_append_drop (k+1) cs,Bk,hst,Zdc]
     rw[hall,if_neg (by simp)]at hanew;rw[hanew];refine za (zb ?_);refine zn rfl (za (zb ?_));refine zr hcl ?_;exact zg (zi hd (by simp;rfl) rfl)
    | true =>
     refine za (zb ?_);refine zm rfl (zh (zb ?_));exact zq (k+1,r2) [] ⟨hc1,hst,by have:=hsz rfl;rw[show 6+64*(k+1)=6+64*k+64 by omega];exact this⟩ (by simp;omega) (by simp[zu k (by omega)]) rfl (by simp)
   ·simp at hc1;obtain rfl:k=zs.length:=by omega
    rw[hzl,Ao]at hr;have hall:ui x n cs q=(r,true):=hr;rw[hall,if_pos rfl]at hanew;have hop:=ZsJ x r (n:=n) (K:=6+64*zs.length) (by omega) (by omega) (by omega) hrs;refine zy ?_;cases ho:Yi x r with
    | false =>
     rw[ho]at hop;rw[ho,if_neg (by simp)]at hanew;rw[hanew]
     repeat apply za
     refine zz (some [nx,nx+1,nx+3]) (Row.pures [0,1,2,3,4,5,6,7,8,9,10,11,12] .done) mixed zH ?_;refine zJ (hop) zH ?_;refine zn rfl (za (zb ?_));refine zr hcl ?_;exact zg (zi hd (by simp;rfl) rfl)
    | true =>
     rw[ho]at hop;have hcr:=(hrs.open hA h6 ho).cost;generalize xU x r=z2 at *;generalize xU x p=z1 at *
     by_cases hle:z1<=z2
     ·rw[if_neg (λq=>q.2 hle)]at hanew;rw[hanew]
      repeat apply za
      refine zz (some [nx,nx+1,nx+3]) (Row.pures [0,1,2,3,4,5,6,7,8,9,10,11,12] .done) mixed hle ?_;refine zJ (hop) hle ?_;refine zJ (hcr) hle ?_;refine zJ (hcost) hle ?_;refine zn rfl (za (zb ?_));refine zr hcl ?_;exact zg (zi hd (by simp;rfl) rfl)
     ·rw[if_pos ⟨ho,hle⟩]at hanew;rw[hanew]
      repeat apply za
      refine zz (some [nx,nx+1,nx+3]) (Row.pures [0,1,2,3,4,5,6,7,8,9,10,11,12] .done) mixed hle ?_;refine zJ (hop) hle ?_;refine zJ (hcr) hle ?_;refine zJ (hcost) hle ?_;refine zm rfl (zh (za (zb ?_)));exact zg (zi hd (by simp;rfl) rfl)
theorem ZsM{x:Inst}{n:Nat}{p:zC}(h:PlanG x n p)(c:Nat)(hc:c<x.cust.length):Pure prog 214 [.agg (zx x),.agg [L p],I c] (.tup [.agg [L (wJ x n p [c]).1],B (wJ x n p [c]).2]):=by
 have ha:=Ziv h [c] (by simp) (by simpa using hc);simp only[Ax,Be]at ha;refine zt Tryz.func214 Tryz.ntmps214 Tryz.results214 λS nx hd=>?_
 refine za (zb ?_);intro v0 v1 v2;refine za (zb ?_);refine zr ha ?_;exact zg (zi hd (by simp;rfl) rfl)
def uZ(x:Inst)(n:Nat)(p:zC)(a b:Nat):zC × Bool:=if a=b then (p,false) else wJ x n p [a,b]
theorem ZsN{x:Inst}{n:Nat}{p:zC}(h:PlanG x n p)(a b:Nat)(ha:a<x.cust.length)(hb:b<x.cust.length):Pure prog 215 [.agg (zx x),.agg [L p],I a,I b] (.tup [.agg [L (uZ x n p a b).1],B (uZ x n p a b).2]):=by
 have hcl:=h.clone;unfold uZ
 by_cases hab:a=b
 ·rw[if_pos hab];refine zt Tryz.func215 Tryz.ntmps215 Tryz.results215 λS nx hd=>?_
  refine za (zb ?_);intro v0 v1 v2
  repeat apply za
  refine zb ?_;refine zn (by simp[hab]) ?_;refine za (zb ?_);refine zr hcl ?_;exact zg (zi hd (by simp;rfl) rfl)
 ·rw[if_neg hab];have hn:=Ziv h [a,b] (by simp) (by simpa using ⟨ha,hb⟩);simp only[Ax,Be]at hn;refine zt Tryz.func215 Tryz.ntmps215 Tryz.results215 λS nx hd=>?_
  refine za (zb ?_);intro v0 v1 v2
  repeat apply za
  refine zb ?_;refine zm (by simp;omega) ?_;refine zh (za (zb ?_));refine zr hn ?_;exact zg (zi hd (by simp;rfl) rfl)
theorem Ziw{x:Inst}{n:Nat}(h:InstA x n):∀(cs:List Nat) (K:Nat) (q:zC),(∀c∈cs,c<x.cust.length)->K+64*cs.length<=1000->PlanS n K q->(ui x n cs q).2=true->PlanS n (K+64*cs.length) (ui x n cs q).1
 | [],K,q,_,_,hq,_=>hq
 | c :: cs,K,q,hc,hK,hq,hz=>by
  rw[Ae]at hK ⊢;have e:ui x n (c :: cs) q=cs.foldl (WJ x n) (vp x n q c):=rfl;rw[e]at hz ⊢;cases ho:(vp x n q c).2 with
  | false =>
   have:vp x n q c=((vp x n q c).1,false):=by rw[<-ho]
   rw[this,Zdc]at hz;cases hz
  | true =>
   have h1:=Ziu h (by omega) hq (hc c (by simp)) ho;have:vp x n q c=((vp x n q c).1,true):=by rw[<-ho]
   rw[this]at hz ⊢;have:=Ziw h cs (K+64) _ (λc hc'=>hc c (by simp[hc'])) (by omega) h1 hz;rw[show K+64*(cs.length+1)=K+64+64*cs.length by omega];exact this
theorem Zix{n K:Nat}:∀(cs:List Nat) (p:zC),PlanS n K p->PlanS n K (uI cs p)
 | [],_,h=>h
 | c :: cs,p,h=>Zix cs _ (h.wo c)
theorem Zdd{x:Inst}{n:Nat}{p:zC}(h:PlanG x n p)(cs:List Nat)(hl:cs.length<=10)(hcs:∀c∈cs,c<x.cust.length):PlanG x n (wJ x n p cs).1/\xU x (wJ x n p cs).1<=xU x p:=by
 unfold wJ;split
 ·rename_i h1;split
  ·rename_i h2;exact⟨(Ziw h.a cs 6 _ hcs (by omega) (Zix cs p h.s) h1).open h.a h.six h2.1,by have:=h2.2;dsimp only;omega⟩
  ·exact⟨h,Cu _⟩
 ·exact⟨h,Cu _⟩
theorem Ziy{x:Inst}{n:Nat}{p:zC}(h:PlanG x n p)(a b:Nat)(ha:a<x.cust.length)(hb:b<x.cust.length):PlanG x n (uZ x n p a b).1/\xU x (uZ x n p a b).1<=xU x p:=by
 unfold uZ;split
 ·exact⟨h,Cu _⟩
 ·exact Zdd h [a,b] (by simp) (by simpa using ⟨ha,hb⟩)
open Go Go.Proofs Hp
theorem ZsO(op:BinOp)(x y:Int):0<=bits op .u64 x y/\bits op .u64 x y<18446744073709551616:=by
 have h:=wf_bits op .u64 x y;simp[Lit.wf,IntKind.min,IntKind.max,IntKind.signed,IntKind.bits]at h;omega
abbrev jX(s:Int):List PV:=[.sc (.int .u64 s)]
def yH(s:Int):Int:=IntKind.u64.wrap (s+11400714819323198485)
def QD(s:Int):Int :=
 let a:=yH s
 let b:=IntKind.u64.wrap (bits .xor .u64 a (a.fdiv (2 ^ 30))*13787848793156543929)
 let c:=IntKind.u64.wrap (bits .xor .u64 b (b.fdiv (2 ^ 27))*10723151780598845931)
 bits .xor .u64 c (c.fdiv (2 ^ 31))
theorem ZsP(s:Int):0<=QD s/\QD s<18446744073709551616:=by unfold QD;exact ZsO _ _ _
theorem Yj{S:Store}{nx id:Nat}(hd:zT nx S)(hlt:id<nx)(o:Ob):zT nx (S.set id o):=λi hi=>by rw[q10 _ _ _ _ (by omega)];exact hd i hi
theorem ZsQ:IntKind.u64.bits=64:=rfl
theorem ZsR(s:Int){S:Store}{id v:Nat}(hS:S id=.cells v 179 (jX s)):Spec prog 126 [.ptr id v 0] S (λq S'=>q=.sc (.int .u64 (QD s))/\S'=S.set id (.cells v 179 (jX (yH s)))):=by
 refine yh Tryz.func126 Tryz.ntmps126 Tryz.results126 λnx hd=>?_
 have hlt:id<nx:=yZ hd hS (by simp);have xw:=λobs=>(zA (S:=S) (obs:=obs) hlt).trans hS
 have yw:=λ(o:Ob) obs=>(zA (S:=S.set id o) (obs:=obs) hlt).trans (q11 _ _ _)
 have g1:¬nx<=id:=by omega
 refine za (zb ?_);refine za (ze [] (zo xw g1) ?_);refine za (ze [] (zo yw g1) ?_);refine za (zb ?_);refine za (zb ?_);refine za (zb ?_);exact zg ⟨_,_,rfl,⟨by simp[zp,QD,yH,ZsQ],rfl⟩,zN (Yj hd hlt _)⟩
def jP(s:Int)(n:Nat):Nat:=(QD s).toNat % n
theorem Jq(s:Int){n:Nat}(h:0<n):jP s n<n:=Nat.mod_lt _ h
theorem WK(s:Int)(n:Nat)(h0:0<n)(hn:n<=4611686018427387904){S:Store}{id v:Nat}(hS:S id=.cells v 179 (jX s)):Spec prog 81 [.ptr id v 0,I n] S (λq S'=>q=I (jP s n)/\S'=S.set id (.cells v 179 (jX (yH s)))):=by
 have hb:=ZsP s;have hbl:=Jq s h0;have e1:(QD s).tmod (n:Int)=(jP s n:Int):=by
  unfold jP;obtain⟨m,hm⟩:=Az hb.1;rw[hm,AT,Bo (by omega)];omega
 have w1:IntKind.u64.wrap (n:Int)=n:=by rw[IntWalk.u64_in _ (by omega)]
 have w2:IntKind.i64.wrap (jP s n:Int)=jP s n:=wr _ (by omega) (by omega);have hw:=λ(S:Store) hS=>ZsR s (S:=S) (id:=id) (v:=v) hS
 generalize QD s=r at *;generalize jP s n=k at *;refine yh Tryz.func81 Tryz.ntmps81 Tryz.results81 λnx hd=>?_
 have hlt:id<nx:=yZ hd hS (by simp);have xw:=λobs=>(zA (S:=S) (obs:=obs) hlt).trans hS
 refine za (zb ?_)
 repeat apply za
 refine zb ?_;refine zm (by simp;omega) ?_;refine zh (za (ze [] (zE w1 e1 w2) ?_));refine λhsuf=>((hw _ (xw _)).mono ?_).v
 rintro _ _ ⟨rfl,rfl⟩;refine⟨S.set id (.cells v 179 (jX (yH s))),[],qc _ hlt,?_⟩;have g2:¬n=0:=by omega
 refine jH [] (zS w1 e1 w2 g2) hsuf ?_;exact zg ⟨_,_,rfl,⟨by simp[zp],rfl⟩,zN (Yj hd hlt _)⟩
theorem Ziz(s:Int){S:Store}{nx:Nat}(hd:zT nx S):Spec prog 78 [I s] S (λq S'=>∃v,q=.ptr nx v 0/\S'=S.set nx (.cells v 179 (jX (IntKind.u64.wrap s)))):=by
 refine ut hd Tryz.func78 Tryz.ntmps78 Tryz.results78 ?_;refine za (zb ?_);refine za (zb ?_);intro v0;exact zg ⟨_,_,rfl,⟨v0,by simp[zp],rfl⟩,Y7 (j:=0) hd (by simp)⟩
open Go Go.Proofs Hp
abbrev Jr(x:Inst)(p:zC)(a o d:Nat)(b:Int):List PV:=[I x.days,I x.veh,I x.cap,I x.len,L x.cust,L x.dist,L p,I a,I o,I d,I b]
theorem ZsS{x:Inst}{n:Nat}{p:zC}(h:PlanG x n p)(d:Nat)(b:Int):PlanG x n (vS x p d b).1:=by
 unfold vS;split
 ·exact h
 ·split
  ·exact h
  ·refine⟨h.a,h.six,by rw[Bz];exact h.len,λe he=>?_⟩;rcases BC he with q | q
   ·exact h.may e q
   ·rw[q];rename_i h1 h2;have hlt:(d:Int).toNat<p.length:=by omega
    refine(Zit (by have:=h.six;omega) h.a.h (h.may _ ?_) b).1;rw[Aa,Ad hlt];exact Bh hlt
theorem ZsT{x:Inst}{n:Nat}{p:zC}(h:PlanG x n p)(a o d:Nat)(b:Int)(ha:a<x.cust.length){S:Store}{id v:Nat}(hS:S id=.cells v 245 (Jr x p a o d b)):
  Spec prog 181 [.ptr id v 0] S (λ_ S'=>S'=S.set id (.cells v 245 (Jr x (wJ x n p [a]).1 a o d b))):=by
 have hr:=ZsM h a ha;generalize wJ x n p [a]=r at *;obtain⟨q,ok⟩:=r;simp only at hr ⊢;refine yh Tryz.func181 Tryz.ntmps181 Tryz.results181 λnx hd=>?_
 have hlt:id<nx:=yZ hd hS (by simp);have xw:=λobs=>(zA (S:=S) (obs:=obs) hlt).trans hS
 have g1:¬nx<=id:=by omega
 refine zz (some []) (Row.pures [0,1,2,3,5,6,7,9,10,11] (.alt 4 (.alt 8 (.alt 12 (Row.pures [13,14,15,16,17,18] (.alt 19 (.done) .stop)) .stop) (.alt 12 (.alt 8 (Row.pures [13,14,15,16,17,18] (.alt 19 (.done) .stop)) .stop) .stop)) (.alt 8 (.alt 4 (.alt 12 (Row.pures [13,14,15,16,17,18] (.alt 19 (.done) .stop)) .stop) (.alt 12 (.alt 4 (Row.pures [13,14,15,16,17,18] (.alt 19 (.done) .stop)) .stop) .stop)) (.alt 12 (.alt 4 (.alt 8 (Row.pures [13,14,15,16,17,18] (.alt 19 (.done) .stop)) .stop) (.alt 8 (.alt 4 (Row.pures [13,14,15,16,17,18] (.alt 19 (.done) .stop)) .stop) .stop)) .stop)))) mixed (zo xw g1) ?_
 repeat' refine And.intro ?_ ?_
 all_goals
  refine zJ (hr) (zo xw g1) ?_;exact⟨_,_,rfl,by simp,zN (Yj hd hlt _)⟩
theorem ZsU{x:Inst}{n:Nat}{p:zC}(h:PlanG x n p)(a o d:Nat)(b:Int)(ha:a<x.cust.length)(ho:o<x.cust.length){S:Store}{id v:Nat}(hS:S id=.cells v 245 (Jr x p a o d b)):
  Spec prog 182 [.ptr id v 0] S (λ_ S'=>S'=S.set id (.cells v 245 (Jr x (uZ x n p a o).1 a o d b))):=by
 have hr:=ZsN h a o ha ho;generalize uZ x n p a o=r at *;obtain⟨q,ok⟩:=r;simp only at hr ⊢;refine yh Tryz.func182 Tryz.ntmps182 Tryz.results182 λnx hd=>?_
 have hlt:id<nx:=yZ hd hS (by simp);have xw:=λobs=>(zA (S:=S) (obs:=obs) hlt).trans hS
 have g1:¬nx<=id:=by omega
 refine zz (some []) (Row.pures [0,1,2,3,5,6,7,9,10,11,13,14,15] (.alt 4 (.alt 8 (.alt 12 (.alt 16 (Row.pures [17,18,19,20,21,22] (.alt 23 (.done) .stop)) .stop) (.alt 16 (.alt 12 (Row.pures [17,18,19,20,21,22] (.alt 23 (.done) .stop)) .stop) .stop)) (.alt 12 (.alt 8 (.alt 16 (Row.pures [17,18,19,20,21,22] (.alt 23 (.done) .stop)) .stop) (.alt 16 (.alt 8 (Row.pures [17,18,19,20,21,22] (.alt 23 (.done) .stop)) .stop) .stop)) (.alt 16 (.alt 8 (.alt 12 (Row.pures [17,18,19,20,21,22] (.alt 23 (.done) .stop)) .stop) (.alt 12 (.alt 8 (Row.pures [17,18,19,20,21,22] (.alt 23 (.done) .stop)) .stop) .stop)) .stop))) (.alt 8 (.alt 4 (.alt 12 (.alt 16 (Row.pures [17,18,19,20,21,22] (.alt 23 (.done) .stop)) .stop) (.alt 16 (.alt 12 (Row.pures [17,18,19,20,21,22] (.alt 23 (.done) .stop)) .stop) .stop)) (.alt 12 (.alt 4 (.alt 16 (Row.pures [17,18,19,20,21,22] (.alt 23 (.done) .stop)) .stop) (.alt 16 (.alt 4 (Row.pures [17,18,19,20,21,22] (.alt 23 (.done) .stop)) .stop) .stop)) (.alt 16 (.alt 4 (.alt 12 (Row.pures [17,18,19,20,21,22] (.alt 23 (.done) .stop)) .stop) (.alt 12 (.alt 4 (Row.pures [17,18,19,20,21,22] (.alt 23 (.done) .stop)) .stop) .stop)) .stop))) (.alt 12 (.alt 4 (.alt 8 (.alt 16 (Row.pures [17,18,19,20,21,22] (.alt 23 (.done) .stop)) .stop) (.alt 16 (.alt 8 (Row.pures [17,18,19,20,21,22] (.alt 23 (.done) .stop)) .stop) .stop)) (.alt 8 (.alt 4 (.alt 16 (Row.pures [17,18,19,20,21,22] (.alt 23 (.done) .stop)) .stop) (.alt 16 (.alt 4 (Row.pures [17,18,19,20,21,22] (.alt 23 (.done) .stop)) .stop) .stop)) (.alt 16 (.alt 4 (.alt 8 (Row.pures [17,18,19,20,21,22] (.alt 23 (.done) .stop)) .stop) (.alt 8 (.alt 4 (Row.pures [17,18,19,20,21,22] (.alt 23 (.done) .stop)) .stop) .stop)) .stop))) (.alt 16 (.alt 4 (.alt 8 (.alt 12 (Row.pures [17,18,19,20,21,22] (.alt 23 (.done) .stop)) .stop) (.alt 12 (.alt 8 (Row.pures [17,18,19,20,21,22] (.alt 23 (.done) .stop)) .stop) .stop)) (.alt 8 (.alt 4 (.alt 12 (Row.pures [17,18,19,20,21,22] (.alt 23 (.done) .stop)) .stop) (.alt 12 (.alt 4 (Row.pures [17,18,19,20,21,22] (.alt 23 (.done) .stop)) .stop) .stop)) (.alt 12 (.alt 4 (.alt 8 (Row.pures [17,18,19,20,21,22] (.alt 23 (.done) .stop)) .stop) (.alt 8 (.alt 4 (Row.pures [17,18,19,20,21,22] (.alt 23 (.done) .stop)) .stop) .stop)) .stop))) .stop))))) mixed (zo xw g1) ?_
 repeat' refine And.intro ?_ ?_
 all_goals
  refine zJ (hr) (zo xw g1) ?_;exact⟨_,_,rfl,by simp,zN (Yj hd hlt _)⟩
theorem ZsV{x:Inst}{n:Nat}{p:zC}(h:PlanG x n p)(a o d:Nat)(b:Int)(hb:b<=9223372036854775807){S:Store}{id v:Nat}(hS:S id=.cells v 245 (Jr x p a o d b)):
  Spec prog 183 [.ptr id v 0] S (λ_ S'=>S'=S.set id (.cells v 245 (Jr x (vS x p d b).1 a o d b))):=by
 have hr:=ZsH h.m d b hb;generalize vS x p d b=r at *;obtain⟨q,ok⟩:=r;simp only at hr ⊢;refine yh Tryz.func183 Tryz.ntmps183 Tryz.results183 λnx hd=>?_
 have hlt:id<nx:=yZ hd hS (by simp);have xw:=λobs=>(zA (S:=S) (obs:=obs) hlt).trans hS
 have g1:¬nx<=id:=by omega
 refine zz (some []) (Row.pures [0,1,2,3,5,6,7,9,10,11,13,14,15] (.alt 4 (.alt 8 (.alt 12 (.alt 16 (Row.pures [17,18,19,20,21,22] (.alt 23 (.done) .stop)) .stop) (.alt 16 (.alt 12 (Row.pures [17,18,19,20,21,22] (.alt 23 (.done) .stop)) .stop) .stop)) (.alt 12 (.alt 8 (.alt 16 (Row.pures [17,18,19,20,21,22] (.alt 23 (.done) .stop)) .stop) (.alt 16 (.alt 8 (Row.pures [17,18,19,20,21,22] (.alt 23 (.done) .stop)) .stop) .stop)) (.alt 16 (.alt 8 (.alt 12 (Row.pures [17,18,19,20,21,22] (.alt 23 (.done) .stop)) .stop) (.alt 12 (.alt 8 (Row.pures [17,18,19,20,21,22] (.alt 23 (.done) .stop)) .stop) .stop)) .stop))) (.alt 8 (.alt 4 (.alt 12 (.alt 16 (Row.pures [17,18,19,20,21,22] (.alt 23 (.done) .stop)) .stop) (.alt 16 (.alt 12 (Row.pures [17,18,19,20,21,22] (.alt 23 (.done) .stop)) .stop) .stop)) (.alt 12 (.alt 4 (.alt 16 (Row.pures [17,18,19,20,21,22] (.alt 23 (.done) .stop)) .stop) (.alt 16 (.alt 4 (Row.pures [17,18,19,20,21,22] (.alt 23 (.done) .stop)) .stop) .stop)) (.alt 16 (.alt 4 (.alt 12 (Row.pures [17,18,19,20,21,22] (.alt 23 (.done) .stop)) .stop) (.alt 12 (.alt 4 (Row.pures [17,18,19,20,21,22] (.alt 23 (.done) .stop)) .stop) .stop)) .stop))) (.alt 12 (.alt 4 (.alt 8 (.alt 16 (Row.pures [17,18,19,20,21,22] (.alt 23 (.done) .stop)) .stop) (.alt 16 (.alt 8 (Row.pures [17,18,19,20,21,22] (.alt 23 (.done) .stop)) .stop) .stop)) (.alt 8 (.alt 4 (.alt 16 (Row.pures [17,18,19,20,21,22] (.alt 23 (.done) .stop)) .stop) (.alt 16 (.alt 4 (Row.pures [17,18,19,20,21,22] (.alt 23 (.done) .stop)) .stop) .stop)) (.alt 16 (.alt 4 (.alt 8 (Row.pures [17,18,19,20,21,22] (.alt 23 (.done) .stop)) .stop) (.alt 8 (.alt 4 (Row.pures [17,18,19,20,21,22] (.alt 23 (.done) .stop)) .stop) .stop)) .stop))) (.alt 16 (.alt 4 (.alt 8 (.alt 12 (Row.pures [17,18,19,20,21,22] (.alt 23 (.done) .stop)) .stop) (.alt 12 (.alt 8 (Row.pures [17,18,19,20,21,22] (.alt 23 (.done) .stop)) .stop) .stop)) (.alt 8 (.alt 4 (.alt 12 (Row.pures [17,18,19,20,21,22] (.alt 23 (.done) .stop)) .stop) (.alt 12 (.alt 4 (Row.pures [17,18,19,20,21,22] (.alt 23 (.done) .stop)) .stop) .stop)) (.alt 12 (.alt 4 (.alt 8 (Row.pures [17,18,19,20,21,22] (.alt 23 (.done) .stop)) .stop) (.alt 8 (.alt 4 (Row.pures [17,18,19,20,21,22] (.alt 23 (.done) .stop)) .stop) .stop)) .stop))) .stop))))) mixed (zo xw g1) ?_
 repeat' refine And.intro ?_ ?_
 all_goals
  refine zJ (hr) (zo xw g1) ?_;exact⟨_,_,rfl,by simp,zN (Yj hd hlt _)⟩
open Go Go.Proofs Hp
def YX(x:Inst)(n:Nat)(p:zC)(s b:Int):zC :=
 if x.cust.length=0 then p else
  (vS x (uZ x n (wJ x n p [jP s x.cust.length]).1 (jP s x.cust.length) (jP (yH s) x.cust.length)).1 (jP (yH (yH s)) n) b).1
def Js(x:Inst)(s:Int):Int:=if x.cust.length=0 then s else yH (yH (yH s))
theorem ZsW{x:Inst}{n:Nat}{p:zC}(h:PlanG x n p)(s b:Int):PlanG x n (YX x n p s b):=by
 unfold YX;split
 ·exact h
 ·rename_i h0;have ha:=Jq s (n:=x.cust.length) (by omega);have ho:=Jq (yH s) (n:=x.cust.length) (by omega);exact ZsS (Ziy (Zdd h _ (by simp) (by simpa using ha)).1 _ _ ha ho).1 _ _
def QE(p q1 q2 q3:zC)(k:Nat):zC:=if k=0 then p else if k=1 then q1 else if k=2 then q2 else q3
theorem ZiA(p q1 q2 q3:zC):QE p q1 q2 q3 0=p:=if_pos rfl
theorem ZiB(p q1 q2 q3:zC):QE p q1 q2 q3 1=q1:=by unfold QE;rw[if_neg (by decide),if_pos rfl]
theorem ZiC(p q1 q2 q3:zC):QE p q1 q2 q3 2=q2:=by unfold QE;rw[if_neg (by decide),if_neg (by decide),if_pos rfl]
theorem ZiD(p q1 q2 q3:zC):QE p q1 q2 q3 3=q3:=by unfold QE;rw[if_neg (by decide),if_neg (by decide),if_neg (by decide)]
theorem ZsX{x:Inst}{n:Nat}{p:zC}(h:PlanG x n p)(hn0:0<n)(s b:Int)(hb:b<=9223372036854775807){S:Store}{id v:Nat}(hS:S id=.cells v 179 (jX s)):
  Spec prog 129 [.agg (zx x),.agg [L p],.ptr id v 0,I b] S (λq S'=>q=.agg [L (YX x n p s b)]/\S'=S.set id (.cells v 179 (jX (Js x s)))):=by
 have hcl:=h.clone;have h6:=h.six;have hxd:=h.a.days;have hn60:=h.a.n60
 by_cases hm:x.cust.length=0
 ·have e1:YX x n p s b=p:=by unfold YX;rw[if_pos hm]
  have e2:Js x s=s:=by unfold Js;rw[if_pos hm]
  rw[e1,e2];refine yh Tryz.func129 Tryz.ntmps129 Tryz.results129 λnx hd=>?_
  have hlt:id<nx:=yZ hd hS (by simp);refine za (zb ?_);intro v0 v1 v2;refine za (zz (some [nx,nx+1]) (Row.pures [0,1,2,3,4] (.alt 5 (Row.pures [6] .done) .stop)) mixed trivial ?_);refine zJ (hcl) trivial ?_;intro v3;refine za (zb ?_)
  repeat apply za
  refine zb ?_;refine zn (by simp[BJ.1 hm]) ?_;refine za (zb ?_);have eS:S.set id (.cells v 179 (jX s))=S:=by
   rw[<-hS];funext i
   by_cases hi:i=id
   ·subst hi;exact q11 _ _ _
   ·exact q10 _ _ _ _ hi
  rw[eS];exact zg ⟨_,S,(by simp;rfl),⟨by simp[zp],rfl⟩,zN hd⟩
 have e1:YX x n p s b=(vS x (uZ x n (wJ x n p [jP s x.cust.length]).1 (jP s x.cust.length) (jP (yH s) x.cust.length)).1 (jP (yH (yH s)) n) b).1:=by unfold YX;rw[if_neg hm]
 have e2:Js x s=yH (yH (yH s)):=by unfold Js;rw[if_neg hm]
 rw[e1,e2];have ha:=Jq s (n:=x.cust.length) (by omega);have ho:=Jq (yH s) (n:=x.cust.length) (by omega);have hdd:=Jq (yH (yH s)) hn0;have b1:=λ(S:Store) hS=>WK s x.cust.length (by omega) (by omega) (S:=S) (id:=id) (v:=v) hS
 have b2:=λ(S:Store) hS=>WK (yH s) x.cust.length (by omega) (by omega) (S:=S) (id:=id) (v:=v) hS
 have b3:=λ(S:Store) hS=>WK (yH (yH s)) n (by omega) (by omega) (S:=S) (id:=id) (v:=v) hS
 rw[<-hxd]at b3;have hp1:PlanG x n (wJ x n p [jP s x.cust.length]).1:=(Zdd h _ (by simp) (by simpa using ha)).1;have hp2:=(Ziy hp1 _ _ ha ho).1;generalize jP s x.cust.length=a at *;generalize jP (yH s) x.cust.length=o at *;generalize jP (yH (yH s)) n=d at *;generalize yH (yH s)=s2 at *;generalize yH s=s1 at *;generalize yH s2=s3 at *;have r1:=λ(S:Store) (i w:Nat) hS=>ZsT h a o d b ha (S:=S) (id:=i) (v:=w) hS
 have r2:=λ(S:Store) (i w:Nat) hS=>ZsU hp1 a o d b ha ho (S:=S) (id:=i) (v:=w) hS
 have r3:=λ(S:Store) (i w:Nat) hS=>ZsV hp2 a o d b hb (S:=S) (id:=i) (v:=w) hS
 clear hp1 hp2;generalize (vS x (uZ x n (wJ x n p [a]).1 a o).1 d b).1=q3 at *;generalize (uZ x n (wJ x n p [a]).1 a o).1=q2 at *;generalize (wJ x n p [a]).1=q1 at *;clear e1 e2;refine yh Tryz.func129 Tryz.ntmps129 Tryz.results129 λnx hd=>?_
 have hlt:id<nx:=yZ hd hS (by simp);have xw:=λobs=>(zA (S:=S) (obs:=obs) hlt).trans hS
 refine za (zb ?_);intro v0 v1 v2;refine za (zz (some [nx,nx+1]) (Row.pures [0,1,2,3,4] (.alt 5 (Row.pures [6] .done) .stop)) mixed trivial ?_);refine zJ (hcl) trivial ?_;intro v3;refine za (zb ?_)
 repeat apply za
 refine zb ?_;have hm2:¬x.cust=[]:=λe=>hm (by rw[e];rfl)
 refine zm (by simp[hm2]) ?_;refine zh (za (zb ?_));refine λhsuf=>((b1 _ (xw _)).mono ?_).v
 rintro _ _ ⟨rfl,rfl⟩;refine⟨_,_,qc _ hlt,zL hsuf ?_⟩;have hS1:(S.set id (.cells v 179 (jX s1))) id=.cells v 179 (jX s1):=q11 _ _ _;have hd1:=Yj hd hlt (.cells v 179 (jX s1));obtain⟨S1,hS1e⟩:∃S1,S1=S.set id (.cells v 179 (jX s1)):=⟨_,rfl⟩;rw[<-hS1e]at hS1 hd1 ⊢;have xw1:=λobs=>(zA (S:=S1) (obs:=obs) hlt).trans hS1
 refine za (zb ?_);refine λhsuf=>((b2 _ (xw1 _)).mono ?_).v
 rintro _ _ ⟨rfl,rfl⟩;refine⟨_,_,qc _ hlt,zL hsuf ?_⟩;have hS2:(S1.set id (.cells v 179 (jX s2))) id=.cells v 179 (jX s2):=q11 _ _ _;have hd2:=Yj hd1 hlt (.cells v 179 (jX s2));obtain⟨S2,hS2e⟩:∃S2,S2=S1.set id (.cells v 179 (jX s2)):=⟨_,rfl⟩;rw[<-hS2e]at hS2 hd2 ⊢;have xw2:=λobs=>(zA (S:=S2) (obs:=obs) hlt).trans hS2
 refine za (zb ?_);refine λhsuf=>((b3 _ (xw2 _)).mono ?_).v
 rintro _ _ ⟨rfl,rfl⟩;refine⟨_,_,qc _ hlt,zL hsuf ?_⟩;have hd3:=Yj hd2 hlt (.cells v 179 (jX s3));obtain⟨S3,hS3e⟩:∃S3,S3=S2.set id (.cells v 179 (jX s3)):=⟨_,rfl⟩;rw[<-hS3e]at hd3 ⊢
 repeat apply za
 refine zb ?_;refine zj (zD (λk:Nat=>k<=3) (λk=>[(8,.ptr (nx+2) v2 0),(9,.ptr (nx+3) v3 0),(53,.lst 3 [.fn (.func 181) [.ptr (nx+3) v3 0] [],.fn (.func 182) [.ptr (nx+3) v3 0] [],.fn (.func 183) [.ptr (nx+3) v3 0] []]),(54,I 3),(55,I k)]) (λk=>[.cells v0 25 (zx x),.cells v1 30 [L p],.cells v2 30 [yp],.cells v3 245 (Jr x (QE p q1 q2 q3 k) a o d b)]) (λk=>3-k) 0 [] (by simp) (by simp) (by simp[ZiA]) ?_);rintro k hk;refine za (zb ?_);refine za (zv rfl (λhc=>?_) (λhc=>?_))
 ·simp at hc;refine zh (za (zj ?_));obtain rfl | rfl | rfl:k=0\/k=1\/k=2:=by omega
  ·refine za (zb ?_);refine zb ?_;refine λhsuf=>((r1 _ (nx+3) v3 (by rw[zU];simp[ZiA])).mono ?_).v
   rintro _ _ rfl;refine⟨S3,_,(by rw[yg _ (by omega) (by simp),AG]),zL hsuf ?_⟩;refine zb ?_;exact zq 1 [] (by omega) (by omega) (by simp;exact wr 1 (by omega) (by omega)) rfl (by simp[ZiB])
  ·refine za (zb ?_);refine zb ?_;refine λhsuf=>((r2 _ (nx+3) v3 (by rw[zU];simp[ZiB])).mono ?_).v
   rintro _ _ rfl;refine⟨S3,_,(by rw[yg _ (by omega) (by simp),AG]),zL hsuf ?_⟩;refine zb ?_;exact zq 2 [] (by omega) (by omega) (by simp;exact wr 2 (by omega) (by omega)) rfl (by simp[ZiC])
  ·refine za (zb ?_);refine zb ?_;refine λhsuf=>((r3 _ (nx+3) v3 (by rw[zU];simp[ZiC])).mono ?_).v
   rintro _ _ rfl;refine⟨S3,_,(by rw[yg _ (by omega) (by simp),AG]),zL hsuf ?_⟩;refine zb ?_;exact zq 3 [] (by omega) (by omega) (by simp;exact wr 3 (by omega) (by omega)) rfl (by simp[ZiD])
 ·simp at hc;obtain rfl:k=3:=by omega
  refine zy ?_;rw[ZiD];refine za (zb ?_);have eS:S.set id (.cells v 179 (jX s3))=S3:=by rw[hS3e,hS2e,hS1e,Store.set_set,Store.set_set]
  rw[eS];exact zg ⟨_,S3,(by simp;rfl),⟨by simp[zp],rfl⟩,zN hd3⟩
open Go Go.Proofs Hp
def x9(x:Inst)(n:Nat)(b:Int)(p:zC)(s:Int):Nat->zC × Int
 | 0=>(p,s)
 | k+1=>(YX x n (x9 x n b p s k).1 (x9 x n b p s k).2 b,Js x (x9 x n b p s k).2)
def Yk(x:Inst)(n:Nat)(b:Int)(p:zC)(s:Int)(k:Nat):List zC:=(List.range (k+1)).map λi=>(x9 x n b p s i).1
theorem ZsY(x:Inst)(n:Nat)(b:Int)(p:zC)(s:Int):Yk x n b p s 0=[p]:=rfl
theorem ZiE(x:Inst)(n:Nat)(b:Int)(p:zC)(s:Int)(k:Nat):Yk x n b p s (k+1)=Yk x n b p s k++[(x9 x n b p s (k+1)).1]:=by
 unfold Yk;rw[AO,List.map_append];rfl
theorem ZsZ(x:Inst)(n:Nat)(b:Int)(p:zC)(s:Int)(k:Nat):(Yk x n b p s k).length=k+1:=by simp[Yk]
theorem Zde{x:Inst}{n:Nat}{p:zC}(h:PlanG x n p)(b s:Int):∀k,PlanG x n (x9 x n b p s k).1
 | 0=>h
 | k+1=>ZsW (Zde h b s k) _ _
abbrev Jt(seed r b cl:Int):List PV:=[I seed,I r,I b,I cl]
theorem Zs0{x:Inst}{n:Nat}(hA:InstA x n)(hn0:0<n)(hmay:∀b,(jN x b).2=0->PlanG x n (jN x b).1)(seed:Int)(r:Nat)(hr:r<=1000)(b:Int)(hb:b<=9223372036854775807)(cl:Int)(fn:FuncId)(cs:List PV){S:Store}(St:List zC->Store)(hS0:St []=S)
  (hdead:∀nx,zT nx S->∀h,zT nx (St h))
  (hshow:∀nx,zT nx S->∀(h:List zC) (p:zC) (obs:List Ob),h.length<=1001->PlanG x n p->Spec prog fn ([.agg [L p]]++cs) (ext (St h) nx obs) (λ_ S'=>S'=ext (St (h++[p])) nx obs)) :
  Spec prog 84 [.agg (zx x),.agg (Jt seed r b cl),.fn (.func fn) [] cs] S (λq S'=>q=I (jN x b).2/\S'=St (if (jN x b).2=0 then Yk x n b (jN x b).1 (IntKind.u64.wrap seed) r else [])):=by
 subst hS0;have hSt:=Zro hA hb;have hmay:=hmay b;generalize jN x b=st at *;obtain⟨p0,e⟩:=st;simp only at hSt hmay ⊢;refine yh Tryz.func84 Tryz.ntmps84 Tryz.results84 λnx hd=>?_
 have hshow:=hshow nx hd;have hdead:=hdead nx hd;refine za (zb ?_);intro v0 v1;refine za (zb ?_);refine zr hSt ?_;intro v2
 by_cases he:e=0
 case neg =>
  rw[if_neg he]
  repeat apply za
  refine zb ?_;refine zn (by simp[he]) ?_;refine za (zb ?_);exact zg ⟨_,_,rfl,⟨by simp[zp],rfl⟩,zN hd⟩
 subst he;rw[if_pos rfl];have hG:=hmay rfl;have hit:=Zde hG b (IntKind.u64.wrap seed)
 repeat apply za
 refine zb ?_;refine zm (by simp) ?_;refine zh (za (zb ?_));refine λhsuf=>((hshow [] p0 _ (by simp) hG).mono ?_).v
 rintro _ _ rfl;refine⟨_,_,rfl,zL hsuf ?_⟩;refine za (zb ?_);refine λhsuf=>((Ziz seed jF).mono ?_).v
 rintro _ _ ⟨v3,rfl,rfl⟩;refine⟨_,_,qN _,zL hsuf ?_⟩
 repeat apply za
 refine zb ?_;have hz:Yk x n b p0 (IntKind.u64.wrap seed) 0=[]++[p0]:=rfl;generalize IntKind.u64.wrap seed=s0 at *;refine zj (jr (σ:=Nat) (λk=>k<=r) (λk=>[(2,.fn (.func fn) [] cs),(3,.ptr nx v0 0),(4,.ptr (nx+1) v1 0),(7,.ptr (nx+2) v2 0),(9,.ptr (nx+3) v3 0),(27,I r),(28,I k)]) (λk=>St (Yk x n b p0 s0 k)) (λk=>[.cells v0 25 (zx x),.cells v1 65 (Jt seed r b cl),.cells v2 30 [L (x9 x n b p0 s0 k).1],.cells v3 179 (jX (x9 x n b p0 s0 k).2)]) (λk=>r-k) (zY 0 [] (by simp) (by simp) (by rw[ZsY]) (by simp[x9])) ?_);rintro k hk;have hgk:=hit k;have hgn:=hit (k+1);have hrd:=λ(S:Store) (id v:Nat) hS=>ZsX hgk hn0 (x9 x n b p0 s0 k).2 b hb (S:=S) (id:=id) (v:=v) hS
 have hnx:YX x n (x9 x n b p0 s0 k).1 (x9 x n b p0 s0 k).2 b=(x9 x n b p0 s0 (k+1)).1:=rfl;have hnx2:Js x (x9 x n b p0 s0 k).2=(x9 x n b p0 s0 (k+1)).2:=rfl;have hhs:=ZiE x n b p0 s0 k;have hhl:=ZsZ x n b p0 s0 k;rw[hnx,hnx2]at hrd;refine za (zb ?_);refine za (zv rfl (λhc=>?_) (λhc=>?_))
 ·simp at hc;refine zh (za (zj (za (zb ?_))));refine λhsuf=>((hrd _ (nx+3) v3 (by rw[zU];rfl)).mono ?_).v
  rintro _ _ ⟨rfl,rfl⟩;refine⟨_,_,yg _ (by omega) (by simp),zL hsuf ?_⟩
  try simp only[AG,AW,Ba]
  refine zb ?_;refine λhsuf=>((hshow _ _ _ (by omega) hgn).mono ?_).v
  rintro _ _ rfl;refine⟨_,_,rfl,zL hsuf ?_⟩;refine zb ?_;exact zq (k+1) [] hc (by omega) (by simp[zu k (by omega)]) (by rw[hhs]) (by simp)
 ·simp at hc;obtain rfl:k=r:=by omega
  refine zy (za (zb ?_));exact zg ⟨_,_,rfl,⟨by simp[zp],rfl⟩,zN (hdead _)⟩
open Go Go.Proofs Hp
theorem Zs1(p:zC){S:Store}{id v:Nat}{old:PV}(hS:S id=.cells v 30 [old]):Spec prog 85 [.agg [L p],.ptr id v 0] S (λ_ S'=>S'=S.set id (.cells v 30 [L p])):=by
 refine yh Tryz.func85 Tryz.ntmps85 Tryz.results85 λnx hd=>?_
 have hlt:id<nx:=yZ hd hS (by simp);have xw:=λobs=>(zA (S:=S) (obs:=obs) hlt).trans hS
 have g1:¬nx<=id:=by omega
 refine za (zb ?_);intro v0;refine ze [] (zo xw g1) ?_;exact⟨_,_,rfl,by simp,zN (Yj hd hlt _)⟩
def WL(h:List zC):PV:=match h.getLast? with
 | none=>yp
 | some p=>L p
theorem ZiF(h:List zC)(p:zC):WL (h++[p])=L p:=by unfold WL;rw[List.getLast?_append];rfl
theorem Zs2(x:Inst)(n:Nat)(b:Int)(p:zC)(s:Int)(k:Nat):WL (Yk x n b p s k)=L (x9 x n b p s k).1:=by
 cases k with
 | zero=>rfl
 | succ k=>rw[ZiE,ZiF]
def Ju(x:Inst)(n:Nat)(seed:Int)(r:Nat)(b:Int):zC × Int :=
 if (jN x b).2=0 then ((x9 x n b (jN x b).1 (IntKind.u64.wrap seed) r).1,0) else ([],(jN x b).2)
theorem Zs3{x:Inst}{n:Nat}(hA:InstA x n)(hn0:0<n)(hmay:∀b,(jN x b).2=0->PlanG x n (jN x b).1)(seed:Int)(r:Nat)(hr:r<=1000)(b:Int)(hb:b<=9223372036854775807)(cl:Int):
  Pure prog 35 [.agg (zx x),.agg (Jt seed r b cl)] (.tup [.agg [L (Ju x n seed r b).1],I (Ju x n seed r b).2]):=by
 have hw:=λ(S:Store) fn cs St h1 h2 h3=>Zs0 hA hn0 hmay seed r hr b hb cl fn cs (S:=S) St h1 h2 h3
 have hrz:Ju x n seed r b=if (jN x b).2=0 then ((x9 x n b (jN x b).1 (IntKind.u64.wrap seed) r).1,0) else ([],(jN x b).2):=rfl
 have hl:=λp s=>Zs2 x n b p s r
 generalize jN x b=st at *;obtain⟨p0,e⟩:=st;simp only at hw hrz;generalize IntKind.u64.wrap seed=s0 at *;refine zt Tryz.func35 Tryz.ntmps35 Tryz.results35 λS nx hd=>?_
 refine za (zb ?_);intro v0 v1 v2;refine za (zb ?_);intro v3;obtain⟨S1,hS1⟩:∃S1,S1=ext S nx [.cells v0 25 (zx x),.cells v1 65 (Jt seed r b cl),.cells v2 30 [yp],.cells v3 30 [yp]]:=⟨_,rfl⟩;have h1:S1 (nx+3)=.cells v3 30 [yp]:=by rw[hS1,zU];rfl
 have hwk:=hw S1 85 [.ptr (nx+3) v3 0] (λh=>S1.set (nx+3) (.cells v3 30 [WL h])) (by
   funext i
   by_cases hi:i=nx+3
   ·subst hi;rw[q11];exact h1.symm
   ·exact q10 _ _ _ _ hi) (λnx' hd' h=>Yj hd' (yZ hd' h1 (by simp)) _) (λnx' hd' h p obs _ _=>by
   have hlt:nx+3<nx':=yZ hd' h1 (by simp);refine(Zs1 p (id:=nx+3) (v:=v3) (old:=WL h) (by rw[zA hlt];exact q11 _ _ _)).mono ?_;rintro _ _ rfl;rw[qc _ hlt,Store.set_set,ZiF])
 rw[hS1]at hwk;refine za (zb ?_);refine λhsuf=>(hwk.mono ?_).v
 rintro _ _ ⟨rfl,rfl⟩;refine⟨_,_,yg _ (by omega) (by simp),zL hsuf ?_⟩
 try simp only[AG,AW,Ba]
 by_cases he:e=0
 ·rw[if_pos he]at hrz;rw[hrz];simp only[if_pos he,hl];subst he;refine za (zb ?_);exact zg (zi hd (by simp;rfl) rfl)
 ·rw[if_neg he]at hrz;rw[hrz];simp only[if_neg he]
  show PW _ _ _ _ _ _ _ (ext _ _ _)
  refine za (zb ?_);refine qk 2 0 rfl rfl ?_;exact zg (zi hd (by simp;rfl) rfl)
open Go Go.Proofs Hp
def zR(l:List Int)(i:Nat):Int:=if 1000<l.getD i 0 then 1000 else if l.getD i 0<0 then 0 else l.getD i 0
theorem XA(l:List Int)(i:Nat):0<=zR l i/\zR l i<=1000:=by unfold zR;split;omega;split<;>omega
theorem Zdf(l:List Int)(i:Nat)(hi:i<=100):Pure prog 118 [L l,I i] (I (zR l i)):=by
 refine zt Tryz.func118 Tryz.ntmps118 Tryz.results118 λS nx hd=>?_
 refine za (zb ?_)
 by_cases h1:i<l.length
 ·obtain⟨z,tl,a1,a2,a3,e0⟩:=zF rfl l i h1;have hz:l.getD i 0=z:=by rw[Aa,a1];rfl
  have hz1:1<=l.length-i:=by omega
  have h1':¬l.length<=i:=by omega
  unfold zR;rw[hz]
  by_cases h2:z<0
  ·rw[if_neg (by omega),if_pos h2]
   repeat apply za
   refine ze [(4,9)] (yG e0 h1 h1' hz1 h2) ?_;refine zn rfl (za (zb ?_));exact zg (zi hd rfl rfl)
  ·by_cases h3:1000<z
   ·rw[if_pos h3]
    repeat apply za
    refine ze [(4,9)] (yG e0 h1 h1' hz1 h2) ?_;refine zm rfl (zh ?_)
    repeat apply za
    refine ze [] (zE e0 h1 hz1) ?_;refine zn (by simp[h3]) ?_;refine za (zb ?_);exact zg (zi hd rfl rfl)
   ·rw[if_neg h3,if_neg h2]
    repeat apply za
    refine ze [(4,9)] (yG e0 h1 h1' hz1 h2) ?_;refine zm rfl (zh ?_)
    repeat apply za
    refine ze [] (zE e0 h1 hz1) ?_;refine zm (by simp;omega) ?_;refine zh (za (ze [] (zE e0 h1 hz1) ?_));exact zg (zi hd rfl rfl)
 ·have hz:l.getD i 0=0:=by rw[Aa,Ai (by omega)];rfl
  unfold zR;rw[hz,if_neg (by decide),if_neg (by decide)];have h1':l.length<=i:=by omega
  repeat apply za
  refine ze [(4,9)] (zo h1' zH) ?_;refine zn rfl (za (zb ?_));exact zg (zi hd rfl rfl)
def qL(l:List Int):Int:=l.getD 0 0
theorem Zs4(l:List Int):Pure prog 76 [L l] (.agg (Jt (qL l) (zR l 1) (zR l 2) (zR l 3))):=by
 have t1:=Zdf l 1 (by omega);have t2:=Zdf l 2 (by omega);have t3:=Zdf l 3 (by omega);generalize zR l 1=r at *;generalize zR l 2=b at *;generalize zR l 3=c at *;refine zt Tryz.func76 Tryz.ntmps76 Tryz.results76 λS nx hd=>?_
 refine za (zb ?_);intro v0;refine za (zb ?_);refine zr t1 ?_;refine zr t2 ?_;refine zr t3 ?_;intro v1
 by_cases h:0<l.length
 ·obtain⟨z,tl,a1,a2,a3,e0⟩:=zF rfl l 0 h;have hz:qL l=z:=by unfold qL;rw[Aa,a1];rfl
  have hz1:1<=l.length:=h;rw[DU]at e0;rw[hz]
  repeat apply za
  refine zb ?_;refine zn (by simp[h]) ?_;refine ze [] (zE e0 h hz1) ?_;refine za (zb ?_);exact zg (zi hd (by simp;rfl) rfl)
 ·have hz:qL l=0:=by unfold qL;rw[Aa,Ai (by omega)];rfl
  rw[hz];have hl:l=[]:=BJ.1 (by omega);subst hl
  repeat apply za
  refine zb ?_;refine zm (by simp) ?_;refine zh (za (zb ?_));exact zg (zi hd (by simp;rfl) rfl)
theorem ZiG(l:List Int):Pure prog 33 [L l] (.agg (Jt (qL l) (zR l 1 % 9) (zR l 2 % 21) (zR l 3 % 13))):=by
 have hr:=Zs4 l;have b1:=XA l 1;have b2:=XA l 2;have b3:=XA l 3;have w1:(zR l 1).tmod 9=zR l 1 % 9:=Bo (by omega);have w2:(zR l 2).tmod 21=zR l 2 % 21:=Bo (by omega);have w3:(zR l 3).tmod 13=zR l 3 % 13:=Bo (by omega);generalize zR l 1=r at *;generalize zR l 2=b at *;generalize zR l 3=c at *;generalize qL l=s at *;refine zt Tryz.func33 Tryz.ntmps33 Tryz.results33 λS nx hd=>?_
 refine za (zb ?_);intro v0;refine za (zb ?_);refine zr hr ?_;intro v1;refine za (ze [] w1 ?_);refine za (ze [] w2 ?_);refine za (ze [] w3 ?_);refine za (zb ?_);exact zg (zi hd (by simp;rfl) rfl)
open Go Go.Proofs Hp
def Zay(id ver b:Nat):Rd:=⟨none,λC S w=>Rel C S w (.ptr id ver 0) (.pointer (some ⟨b,0,none⟩)),λst h=>Rel.mono st h⟩
theorem Zs5{P:Program}{n N:Nat}{c:Code}{Q:Exit->(Nat->PV)->Store->Prop}{F:Nat->PV}{S:Store}{x id ver e:Nat}{cs:List PV}(hF:F x=.ptr id ver 0)(hs:S id=.cells ver e cs)
  (h:∀b,PW P (Zay id ver b) n N c Q F S):PW P jd n N c Q F S:=by
 intro C w a st;have e1:=st.fr x;rw[hF]at e1;generalize hv:a.tmps.getD x undef=v at e1;cases e1 with
 | ptr h1 h2 h3 =>
  obtain⟨b,k,hl,rfl⟩:=(h3 ver (by rw[hs];rfl)).2 rfl;have:=h b C w a ⟨st.sim,st.size,st.fr,.ptr h1 h2 h3⟩;exact wpIn_mono this λe a' w' ⟨F',S',C',q1,q2,q3,q4⟩=>⟨F',S',C',q1,⟨q2.sim,q2.size,q2.fr,trivial⟩,q3,q4⟩
theorem Zs6{P:Program}{n:Nat}{F:Nat->PV}{S:Store}{o:Oper}{t e m id ver b et:Nat}{x:Operand}{cs:List PV}{K:PV->Store->Prop}(ho:o.op=.slice t x none none none)(ht:P.underlying t=some (.array m e))(hc:P.cellsOf e≠0)(hx:ev F x=.ptr id ver 0)(hs:S id=.cells ver et cs)
  (hK:K (.sc (.slice (some ⟨b,0,none⟩) m m)) S):PO P (Zay id ver b) n o F S K:=by
 intro G hG C w a N st next Q' hnext;have e1:=st.ev x;rw[(hG x (by simp[ho,Op.operands])).trans hx]at e1;have e2:Rel C S w (.ptr id ver 0) (.pointer (some ⟨b,0,none⟩)):=st.v;have hnd:∀c,o.op≠.defer c:=by intro c hc;rw[ho]at hc;cases hc
 generalize hv:a.eval x=v at e1;cases e1 with
 | ptr h1 h2 h3 =>
  obtain⟨b1,k1,hl,rfl⟩:=(h3 ver (by rw[hs];rfl)).2 rfl;cases e2 with
  | ptr i1 i2 i3 =>
   obtain⟨b2,k2,hl2,hb⟩:=(i3 ver (by rw[hs];rfl)).2 rfl;rw[hl]at hl2;cases hl2;cases hb;have hrun:(execOp a.eval o).run P w=.ok (.value (.slice (some ⟨b,0,none⟩) m m)) w:=by
    unfold execOp;simp[ho,hv,Instr.sliceAt,run_underlying ht,Instr.sureAddr,Instr.sliceBounds,vr hc];intro _;rfl
   exact qb hnd hrun (hnext _ _ _ _ _ hK (.sc _) st.sim (Step.refl _ _ _))
theorem WM{P:Program}{o:Oper}{s x:Operand}{t:TypeId}{a:Act}{w w':World}{v:Value}(ho:o.op=.call { callee:=.builtin .copy,args:=#[s,x],argTypes:=#[t,t] })
  (h:(Builtin.copy_ #[t,t] o.type #[a.eval s,a.eval x]).run P w=.ok v w'):(execOp a.eval o).run P w=.ok (.value v) w':=by
 unfold execOp;simp only[ho,resolve,invoke,builtin,Sem.run_bind,Sem.run_pure,Am,Cv,Ax,Be,h]
theorem Zs7{P:Program}{n:Nat}{F:Nat->PV}{S:Store}{o:Oper}{s x:Operand}{t e b m id ver et:Nat}{cs l:List PV}{K:PV->Store->Prop}(ho:o.op=.call { callee:=.builtin .copy,args:=#[s,x],argTypes:=#[t,t] })(ht:P.underlying t=some (.slice e))(hz:(P.info? e).map (·.size)=some 1)
  (hs:ev F s=.sc (.slice (some ⟨b,0,none⟩) m m)) (hx:ev F x=.lst l.length l) (hid:S id=.cells ver et cs) (hm:cs.length=m)
  (hK:K (I (min l.length m:Nat)) (S.set id (.cells ver et (l.take m++cs.drop (min l.length m))))):PO P (Zay id ver b) n o F S K:=by
 intro G hG C w a N st next Q' hnext;have e1:=st.ev s;rw[(hG s (by simp[ho,Op.operands,Call.operands])).trans hs]at e1;have e2:=st.ev x;rw[(hG x (by simp[ho,Op.operands,Call.operands])).trans hx]at e2;have e3:Rel C S w (.ptr id ver 0) (.pointer (some ⟨b,0,none⟩)):=st.v;have hnd:∀c,o.op≠.defer c:=by intro c hc;rw[ho]at hc;cases hc
 generalize hv:a.eval s=v at e1;cases e1;generalize hu:a.eval x=u at e2;cases e3 with
 | ptr i1 i2 i3 =>
  obtain⟨b2,k,hl,hb⟩:=(i3 ver (by rw[hid];rfl)).2 rfl;cases hb;rcases st.sim.cells id ver et cs hid with ⟨hn,_⟩ | ⟨b',k',c,g1,g2,g3,g4,g5,g6⟩
  ·rw[hn]at hl;cases hl
  rw[hl]at g1;cases g1;have main:∀(vs:List Value) (a':Addr) (cap:Nat),u=.slice (some a') l.length cap->vs.length=min l.length m->(∀j v,vs[j]?=some v->w.cell? (a'.add j)=some v)->(∀v∈vs,v.oneCell'=true)->(∀(i:Nat) (p:PV) (v:Value),(l.take m)[i]?=some p->vs[i]?=some v->Rel C S w p v)->o.wpIn (Fe (Zay id ver b)) n P a w next Q':=by
   intro vs a' cap hu' hvl hcell hone hrel;have hrun0:=run_copy_row P w t t o.type e b 0 m m a' l.length cap c et vs ht hz g2 (by rw[hvl]) hcell (by omega) hone;have hrun:=WM (P:=P) (a:=a) (w:=w) ho (by rw[hv,hu,hu'];exact hrun0);simp only[Dj,AS,AR]at hrun;generalize hw':w.setRow b (vs++c.toList.drop vs.length).toArray=w' at hrun;have hheap:w'.heap[b]?=some (.cells (vs++c.toList.drop vs.length).toArray et (0,0)):=by rw[<-hw'];exact setRow_heap w b c _ et _ g2
   have hgr:w.grownBy w' (some b)/\w.drawn<=w'.drawn:=by
    rw[<-hw'];exact⟨⟨rfl,rfl,rfl,by simp[World.setRow],λj hj hne=>setRow_other w b j _ (λe=>hne (by rw[e]))⟩,Ag _⟩
   have hsize:(vs++c.toList.drop vs.length).toArray.size=k:=by simp;omega
   have htl:(l.take m).length=vs.length:=by rw[Ay,hvl];omega
   obtain⟨t1,t2⟩:=st.sim.turn (l:=C.loc id) (ver':=ver) (cs':=l.take m++cs.drop (min l.length m)) hid (Ag _) (λ_=>rfl) (by rw[hl];exact hgr)
    (.inr ⟨b,k,_,hl,.inr (by rw[hl];rfl),hheap,hsize,by rw[Ar,Bt,htl];omega,λi z hi hz=>by
      rw[AD]at hz
      by_cases q1:i<vs.length
      ·rw[Al q1]at hz;exact hone z (Ab hz)
      ·rw[Ak (by omega),AM]at hz;rw[Ar,Bt,htl]at hi;have e9:vs.length+(i-vs.length)=i:=by omega
       rw[e9]at hz;exact g5 i z (by omega) (by rw[<-Array.getElem?_toList];exact hz),
     λi p z hp hz=>by
      rw[AD]at hz
      by_cases q1:i<vs.length
      ·rw[Al q1]at hz;rw[Al (by omega)]at hp;exact hrel i p z hp hz
      ·rw[Ak (by omega),AM]at hz;rw[Ak (by omega),AM,htl,<-hvl]at hp;have e9:vs.length+(i-vs.length)=i:=by omega
       rw[e9]at hz hp;exact g6 i p z hp (by rw[<-Array.getElem?_toList];exact hz)⟩)
   have hres:goInt vs.length=Value.int .i64 ((min l.length m:Nat):Int):=by rw[hvl];rfl
   exact qb hnd hrun (hnext _ _ _ _ _ hK (by rw[hres];exact .sc _) t1 t2)
  generalize hk:l.length=kk at e2;cases e2 with
  | lst0 =>
   rename_i cap a';have hrun0:(Builtin.copy_ #[t,t] o.type #[a.eval s,a.eval x]).run P w=.ok (goInt 0) w:=by
    rw[hv,hu];cases hq:P.info? e with
    | none=>simp[hq]at hz
    | some i =>
     cases a'<;>simp[Builtin.copy_,run_underlying ht,Builtin.lenOf,Builtin.firstCells,sizeOf,typeInfo,hq,storeCells,loadCells,loadCellsFrom]
   have hrun:=WM (P:=P) (a:=a) (w:=w) ho hrun0;have eS:S.set id (.cells ver et cs)=S:=by
    funext i
    by_cases hi:i=id
    ·subst hi;rw[q11];exact hid.symm
    ·exact q10 _ _ _ _ hi
   simp only[Ah,Nat.zero_min,Dv,DU,AS,eS]at hK;exact qb hnd hrun (hnext _ _ _ _ _ hK (.sc _) st.sim (Step.refl _ _ _))
  | lst1 hn hmx hb hM hs1 h1 h2 =>
   rename_i cap b' o' c' e' fz;subst hk;have hadd:∀j,(⟨b',o',none⟩:Addr).add j=⟨b',o'+j,none⟩:=by intro j;unfold Addr.add;split<;>simp_all
   have hat:∀(j:Nat) (v:Value),((c'.toList.drop o').take (min l.length m))[j]?=some v->j<min l.length m/\c'[o'+j]?=some v:=λj v hj=>by
    rw[BL]at hj;split at hj
    ·rename_i hlt;rw[AM,Array.getElem?_toList]at hj;exact⟨hlt,hj⟩
    ·cases hj
   refine main ((c'.toList.drop o').take (min l.length m)) ⟨b',o',none⟩ cap rfl ?_ ?_ ?_ ?_
   ·rw[Ay,Bt];have e9:c'.toList.length=c'.size:=Array.length_toList
    by_cases hl0:l=[]
    ·subst hl0;simp
    ·have:=hs1 hl0;omega
   ·intro j v hj;obtain⟨q1,q2⟩:=hat j v hj;rw[hadd];simp[World.cell?,hb,q2]
   ·intro v hv';obtain⟨j,hj⟩:=Cg hv';obtain⟨q1,q2⟩:=hat j v hj;exact h1 j v (by omega) q2
   ·intro i p v hp hvi;obtain⟨q1,q2⟩:=hat i v hvi;rw[AE (by omega)]at hp;exact h2 i p v hp q2
open Go Go.Proofs Hp
theorem Zs8(l:List Int)(i:Nat):min (max (l.getD i 0) 0) 1000=zR l i:=by
 unfold zR;split
 ·omega
 ·split<;>omega
theorem Zs9(l:List Int):(l.flatMap Enc.enc:List PV).take 4++[I 0,I 0,I 0,I 0].drop (min (l.flatMap Enc.enc:List PV).length 4)=[I (l.getD 0 0),I (l.getD 1 0),I (l.getD 2 0),I (l.getD 3 0)]:=by
 match l with
 | []=>rfl
 | [a]=>simp
 | [a,b]=>simp
 | [a,b,c]=>simp
 | a :: b :: c :: d :: r =>
  have:min (((a :: b :: c :: d :: r).flatMap Enc.enc:List PV).length) 4=4:=by rw[j4];simp[Enc.sz]
  rw[this];simp
theorem ZiH(l:List Int):Pure prog 47 [L l] (.agg (Jt (qL l) (zR l 1) (zR l 2) (zR l 3))):=by
 have c1:=Xe (l.getD 1 0) 0 1000;have c2:=Xe (l.getD 2 0) 0 1000;have c3:=Xe (l.getD 3 0) 0 1000;rw[Zs8]at c1 c2 c3;have ha:=Zs9 l;have hL:L l=.lst (l.flatMap Enc.enc:List PV).length (l.flatMap Enc.enc):=by
  show PV.lst l.length _=_
  congr 1;rw[j4];simp[Enc.sz]
 have hsd:qL l=l.getD 0 0:=rfl;rw[hsd,hL];generalize l.getD 0 0=z0 at *;generalize l.getD 1 0=z1 at *;generalize l.getD 2 0=z2 at *;generalize l.getD 3 0=z3 at *;generalize zR l 1=t1 at *;generalize zR l 2=t2 at *;generalize zR l 3=t3 at *;generalize (l.flatMap Enc.enc:List PV)=cs at *;refine zt Tryz.func47 Tryz.ntmps47 Tryz.results47 λS nx hd=>?_
 refine za (zb ?_);intro v0;refine za (zb ?_);intro v1;refine Zs5 (x:=3) (id:=nx+1) (ver:=v1) rfl (by rw[zU];rfl) λb=>?_
 refine za (zb ?_);refine λhsuf=>Zs6 rfl Tryz.underlying147 (by simp) rfl (by rw[zU];rfl) ?_
 refine⟨_,_,rfl,zL hsuf ?_⟩;refine λhsuf=>Zs7 (id:=nx+1) (ver:=v1) rfl Tryz.underlying26 (by kernel_rfl) rfl rfl (by rw[zU];rfl) rfl ?_
 rw[ha];refine⟨_,_,yg _ (by omega) (by simp),zL hsuf ?_⟩
 try simp only[AG,AW,Ba]
 repeat apply za
 refine zb ?_;refine zj (zD (λk:Nat=>1<=k/\k<=4) (λk=>[(2,.ptr nx v0 0),(3,.ptr (nx+1) v1 0),(4,I k)]) (λk=>[.cells v0 65 [I 0,I 0,I 0,I 0],.cells v1 147 [I z0,I (if 1<k then t1 else z1),I (if 2<k then t2 else z2),I (if 3<k then t3 else z3)]]) (λk=>4-k) 1 [] (by simp) (by simp) (by simp) ?_);rintro k ⟨hk1,hk⟩
 repeat apply za
 refine zb ?_;refine zv rfl (λhc=>?_) (λhc=>?_)
 ·simp at hc;refine zh (za (zj ?_));obtain rfl | rfl | rfl:k=1\/k=2\/k=3:=by omega
  ·repeat apply za
   refine zb ?_;refine zr c1 ?_;refine zb ?_;exact zq 2 [] (by omega) (by omega) (by simp;exact wr 2 (by omega) (by omega)) rfl (by simp)
  ·repeat apply za
   refine zb ?_;refine zr c2 ?_;refine zb ?_;exact zq 3 [] (by omega) (by omega) (by simp;exact wr 3 (by omega) (by omega)) rfl (by simp)
  ·repeat apply za
   refine zb ?_;refine zr c3 ?_;refine zb ?_;exact zq 4 [] (by omega) (by omega) (by simp;exact wr 4 (by omega) (by omega)) rfl (by simp)
 ·simp at hc;obtain rfl:k=4:=by omega
  refine zy (za (zb ?_));exact zg (zi hd (by simp;rfl) rfl)
open Go Go.Proofs Hp
def Zaz(x:Inst)(bd:Int)(p:zC)(e c:Int):Rep:=if uY e c=0 then ⟨4,bd,xU x p,W (wG x p x.cust.length),xT x p,p⟩ else ⟨3,bd,0,0,[],[]⟩
def ZiI(e:Int):Rep:=⟨if e=2 then 1 else 2,0,0,0,[],[]⟩
structure Below21 (x:Inst) (l:List Int) (bd:Int) (p:zC) (e c:Int):Prop where
 climb:∃a b,Pure prog 34 [.agg (zx x),I (qL l),I (zR l 3)] (.tup [.agg [a,b],I bd])
 run:Pure prog 35 [.agg (zx x),.agg [I (qL l),I (zR l 1),I (zR l 2),I (zR l 3)]] (.tup [.agg [L p],I e])
 chk:e=0->Pure prog 67 [.agg (zx x),.agg [L p]] (I c)
 cost:uY e c=0->Pure prog 68 [.agg (zx x),.agg [L p]] (I (xU x p))
 hold:uY e c=0->Pure prog 69 [.agg (zx x),.agg [L p]] (I (W (wG x p x.cust.length)))
 days:uY e c=0->Pure prog 71 [.agg (zx x),.agg [L p]] (L (xT x p))
theorem Zta(u:List UInt8)(hl:u.length<=1048576)(l:List Int)(hz:(qp u).2≠0):Pure prog 12 [T (bs u),L l] (.agg (Zc6 (ZiI (qp u).2))):=by
 have hrd:=ZiH l;have hpa:=λ(S:Store) (id v:Nat) (s0 s1 s2 s3 x0 x1 x2 x3 x4 x5 r0 r1 r2 r3 r4 r5:PV) hS=>Zir (S:=S) (id:=id) (v:=v) (s0:=s0) (s1:=s1) (s2:=s2) (s3:=s3) (x0:=x0) (x1:=x1) (x2:=x2) (x3:=x3) (x4:=x4) (x5:=x5) (r0:=r0) (r1:=r1) (r2:=r2) (r3:=r3) (r4:=r4) (r5:=r5) u hl hS
 simp only[if_neg hz]at hpa;have hres:ZiI (qp u).2=⟨if (qp u).2=2 then 1 else 2,0,0,0,[],[]⟩:=rfl;rw[hres];generalize (if (qp u).2=2 then (1:Int) else 2)=o at *;generalize (qp u).2=e at *;generalize qL l=s0 at *;generalize zR l 1=s1 at *;generalize zR l 2=s2 at *;generalize zR l 3=s3 at *;refine zt Tryz.func12 Tryz.ntmps12 Tryz.results12 λS nx hd=>?_
 refine za (zb ?_);intro v0;refine za (zb ?_);refine zr hrd ?_;intro v1
 repeat apply za
 refine zb ?_;refine zj (zD (λk:Nat=>k=0) (λ_=>[(4,.ptr nx v0 0),(5,.ptr (nx+1) v1 0),(21,.lst 4 [.fn (.func 48) [.ptr (nx+1) v1 0] [],.fn (.func 49) [.ptr (nx+1) v1 0] [],.fn (.func 50) [.ptr (nx+1) v1 0] [],.fn (.func 51) [.ptr (nx+1) v1 0] []]),(22,I 4),(23,I 0)])
  (λ_=>[.cells v0 32 [I 0,I 0,I 0,I 0,vk,vk],.cells v1 92 [T (bs u),I s0,I s1,I s2,I s3,I 0,I 0,I 0,I 0,vk,vk,I 0,I 0,I 0,I 0,vk,vk]]) (λs=>s) 0 [] rfl (by simp[yY]) (by simp) ?_)
 rintro k rfl;refine za (zb ?_);refine za (zn (by simp) ?_);refine zh (za (zj (za (zb ?_))));refine za (zb ?_);refine λhsuf=>((hpa _ _ _ _ _ _ _ _ _ _ _ _ _ _ _ _ _ _ _ (by rw[zU];rfl)).mono ?_).v
 rintro _ _ ⟨rfl,rfl⟩;refine⟨_,_,yg _ (by omega) (by simp),zL hsuf ?_⟩;refine zn (by simp[hz]) ?_;refine zy (za (zb ?_));refine qk 0 4 rfl rfl ?_;refine qk 0 5 rfl rfl ?_;exact zg (zi hd (by simp;rfl) (by simp[zp]))
theorem Ztb(u:List UInt8)(hl:u.length<=1048576)(l:List Int){bd:Int}{p:zC}{e c:Int}(hz:(qp u).2=0)(hB:Below21 (qp u).1 l bd p e c):Pure prog 12 [T (bs u),L l] (.agg (Zc6 (Zaz (qp u).1 bd p e c))):=by
 have hrd:=ZiH l;have hpa:=λ(S:Store) (id v:Nat) (s0 s1 s2 s3 x0 x1 x2 x3 x4 x5 r0 r1 r2 r3 r4 r5:PV) hS=>Zir (S:=S) (id:=id) (v:=v) (s0:=s0) (s1:=s1) (s2:=s2) (s3:=s3) (x0:=x0) (x1:=x1) (x2:=x2) (x3:=x3) (x4:=x4) (x5:=x5) (r0:=r0) (r1:=r1) (r2:=r2) (r3:=r3) (r4:=r4) (r5:=r5) u hl hS
 simp only[if_pos hz]at hpa;obtain⟨⟨a,b,b1⟩,b2,b3,b4,b5,b6⟩:=hB;have hfz:Zaz (qp u).1 bd p e c=if uY e c=0 then ⟨4,bd,xU (qp u).1 p,W (wG (qp u).1 p (qp u).1.cust.length),xT (qp u).1 p,p⟩ else ⟨3,bd,0,0,[],[]⟩:=rfl
 rw[hfz];generalize (qp u).2=e0 at *;generalize (qp u).1=y at *;subst hz;generalize xU y p=co at *;generalize W (wG y p y.cust.length)=ho at *;generalize xT y p=ds at *;generalize qL l=s0 at *;generalize zR l 1=s1 at *;generalize zR l 2=s2 at *;generalize zR l 3=s3 at *;refine zt Tryz.func12 Tryz.ntmps12 Tryz.results12 λS nx hd=>?_
 refine za (zb ?_);intro v0;refine za (zb ?_);refine zr hrd ?_;intro v1
 repeat apply za
 refine zb ?_;refine zj (zD (λk:Nat=>k<=4/\(3<=k->uY e c=0)) (λk=>[(4,.ptr nx v0 0),(5,.ptr (nx+1) v1 0),(21,.lst 4 [.fn (.func 48) [.ptr (nx+1) v1 0] [],.fn (.func 49) [.ptr (nx+1) v1 0] [],.fn (.func 50) [.ptr (nx+1) v1 0] [],.fn (.func 51) [.ptr (nx+1) v1 0] []]),(22,I 4),(23,I k)])
  (λk=>[.cells v0 32 [I 0,I 0,I 0,I 0,vk,vk],.cells v1 92 [T (bs u),I s0,I s1,I s2,I s3,if k=0 then I 0 else I y.days,if k=0 then I 0 else I y.veh,if k=0 then I 0 else I y.cap,if k=0 then I 0 else I y.len,if k=0 then vk else L y.cust,if k=0 then vk else L y.dist,
   if k<=1 then I 0 else if k=2 then I 3 else I 4,if k<=1 then I 0 else I bd,if k<=3 then I 0 else I co,if k<=3 then I 0 else I ho,if k<=3 then vk else L ds,if k<=2 then vk else L p]]) (λs=>4-s) 0 [] (by simp) (by simp[yY]) (by simp) ?_)
 rintro k ⟨hk,hk3⟩;refine za (zb ?_);refine za (zv rfl (λhc=>?_) (λhc=>?_))
 ·simp at hc;refine zh (za (zj ?_));obtain rfl | rfl | rfl | rfl:k=0\/k=1\/k=2\/k=3:=by omega
  ·refine za (zb ?_);refine za (zb ?_);refine λhsuf=>((hpa _ _ _ _ _ _ _ _ _ _ _ _ _ _ _ _ _ _ _ (by rw[zU];rfl)).mono ?_).v
   rintro _ _ ⟨rfl,rfl⟩;refine⟨_,_,yg _ (by omega) (by simp),zL hsuf ?_⟩;refine zm (by simp) ?_;refine zh (zb ?_);exact zq 1 [] (by simp) (by omega) (by simp;exact wr 1 (by omega) (by omega)) rfl (by simp)
  ·refine za (zb ?_);refine za (zb ?_);refine λhsuf=>((ZsD b1 (by rw[zU];rfl)).mono ?_).v
   rintro _ _ ⟨rfl,rfl⟩;refine⟨_,_,yg _ (by omega) (by simp),zL hsuf ?_⟩;refine zm (by simp) ?_;refine zh (zb ?_);exact zq 2 [] (by simp) (by omega) (by simp;exact wr 2 (by omega) (by omega)) rfl (by simp)
  ·by_cases hf:uY e c=0
   ·refine za (zb ?_);refine za (zb ?_);refine λhsuf=>((Zis b2 b3 (by rw[zU];rfl)).mono ?_).v
    rintro _ _ ⟨rfl,rfl⟩;simp only[hf,if_true];refine⟨_,_,yg _ (by omega) (by simp),zL hsuf ?_⟩;refine zm (by simp) ?_;refine zh (zb ?_);exact zq 3 [] ⟨by omega,λ_=>by first | exact hf | trivial⟩ (by omega) (by simp;exact wr 3 (by omega) (by omega)) rfl (by simp)
   ·rw[if_neg hf];refine za (zb ?_);refine za (zb ?_);refine λhsuf=>((Zis b2 b3 (by rw[zU];rfl)).mono ?_).v
    rintro _ _ ⟨rfl,rfl⟩;simp only[if_neg hf];refine⟨_,_,yg _ (by omega) (by simp),zL hsuf ?_⟩;refine zn (by simp[hf]) ?_;refine zy (za (zb ?_));refine qk 0 4 rfl rfl ?_;refine qk 0 5 rfl rfl ?_;exact zg (zi hd (by simp;rfl) (by simp[zp]))
  ·have hf:=hk3 (by omega);refine za (zb ?_);refine za (zb ?_);refine λhsuf=>((ZsE (b4 hf) (b5 hf) (b6 hf) (by rw[zU];rfl)).mono ?_).v
   rintro _ _ ⟨rfl,rfl⟩;refine⟨_,_,yg _ (by omega) (by simp),zL hsuf ?_⟩;refine zm (by simp) ?_;refine zh (zb ?_);exact zq 4 [] ⟨by omega,λ_=>hf⟩ (by omega) (by simp;exact wr 4 (by omega) (by omega)) rfl (by simp)
 ·simp at hc;obtain rfl:k=4:=by omega
  rw[if_pos (hk3 (by omega))];refine zy (za (zb ?_));exact zg (zi hd (by simp;rfl) (by simp[zp]))
open Go Go.Proofs
def XB(a b:Int):Int:=if a.tmod b≠0/\¬a<0 then W (W (a.tdiv b)+1) else W (a.tdiv b)
def Jv(c:Cust)(n:Int):Int:=qS (W (W (c.rate*n)-c.start)) 0
theorem ZiJ(c:Cust)(n:Int):Pure prog 205 [.agg (ye c),I n] (I (Jv c n)):=by
 refine zt Tryz.func205 Tryz.ntmps205 Tryz.results205 λS nx hd=>?_
 refine za (zb ?_);intro v0;refine za (zb ?_);exact zg (zi hd (by simp;rfl) (by simp[zp,Jv]))
def Jw(c:Cust):Nat->Int × Int
 | 0=>(0,c.start)
 | k+1=>(W ((Jw c k).1+qS (W ((Jw c k).2-c.rate)) 0),W ((Jw c k).2-c.rate))
def ZaA(c:Cust)(n:Nat):Int:=W (c.hold*(Jw c n).1)
theorem Ztc(c:Cust)(n:Nat)(hn:n<=1000):Pure prog 210 [.agg (ye c),I n] (I (ZaA c n)):=by
 refine zt Tryz.func210 Tryz.ntmps210 Tryz.results210 λS nx hd=>?_
 refine za (zb ?_);intro v0;refine za (zz (some [nx]) (Row.pures [0,1,2,3] .done) mixed trivial ?_)
 repeat apply za
 refine zb ?_;refine zj (zD (λs:Nat × Int × Int=>s.1<=n/\s.2=Jw c s.1) (λ(k,a,b)=>[(1,I n),(2,.ptr nx v0 0),(5,I a),(6,I b),(9,I n),(10,I k)]) (λ_=>[.cells v0 87 (ye c)]) (λs=>n-s.1) (0,0,c.start) [] ⟨by simp,rfl⟩ (by simp) (by simp) ?_);rintro⟨k,a,b⟩ ⟨hk,hs⟩;simp only at hk hs ⊢;have ha:a=(Jw c k).1:=congrArg Prod.fst hs;have hb:b=(Jw c k).2:=congrArg Prod.snd hs;refine za (zb ?_);refine za (zv rfl (λhc=>?_) (λhc=>?_))
 ·simp at hc;refine zh (za (zj (za (zb ?_))));refine zb ?_;refine zb ?_;exact zq (k+1,W (a+qS (W (b-c.rate)) 0),W (b-c.rate)) [] ⟨hc,by rw[ha,hb];rfl⟩ (by simp;omega) (by simp[zu k (by omega)]) rfl (by simp)
 ·simp at hc;obtain rfl:k=n:=by omega
  refine zy (za (zb ?_));exact zg (zi hd (by simp;rfl) (by simp[zp,ZaA,ha]))
theorem ZiK(a b:Int)(hb:0<b):Pure prog 165 [I a,I b] (.tup [I (XB a b),B true]):=by
 have h0:¬b=0:=by omega
 have h1:¬b=-1:=by omega
 have h2:¬b<0:=by omega
 have e1:XB a b=if a.tmod b≠0/\¬a<0 then W (W (a.tdiv b)+1) else W (a.tdiv b):=rfl
 rw[e1];refine zt Tryz.func165 Tryz.ntmps165 Tryz.results165 λS nx hd=>?_
 refine za (zb ?_);obtain⟨q,hm⟩:∃q:Prop,(a=-9223372036854775808)=q:=⟨_,rfl⟩
 by_cases hq:q
 all_goals
  repeat apply za
  refine ze [(2,9),(5,12)] (yG h0 h1 hm hq zH) ?_;refine zm (by simp) ?_;refine zh (za (ze [] h0 ?_))
  by_cases h3:a.tmod b=0
  ·rw[if_neg (by simp[h3])]
   repeat apply za
   refine ze [(4,24)] (zE h0 h3 zH) ?_;refine zm (by simp) ?_;refine zh (za (zb ?_));exact zg (zi hd (by simp;rfl) rfl)
  ·by_cases h4:a<0
   ·rw[if_neg (by simp[h4])]
    repeat apply za
    refine ze [(4,24)] (zS h0 h3 h4 h2) ?_;refine zm (by simp) ?_;refine zh (za (zb ?_));exact zg (zi hd (by simp;rfl) rfl)
   ·rw[if_pos ⟨h3,h4⟩]
    repeat apply za
    refine ze [(4,24)] (zS h0 h3 h4 h2) ?_;refine zn (by simp) ?_;refine zb ?_;refine za (zb ?_);exact zg (zi hd (by simp;rfl) rfl)
def YY(a b:Int):Int × Bool:=if a=0\/b=0 then (0,true) else if ¬W ((W (a*b)).tdiv b)=a\/(a=-9223372036854775808/\b=-1) then (0,false) else (W (a*b),true)
theorem Ztd(a b:Int):Pure prog 121 [I a,I b] (.tup [I (YY a b).1,B (YY a b).2]):=by
 unfold YY
 by_cases h0:a=0
 ·rw[if_pos (.inl h0)];refine zt Tryz.func121 Tryz.ntmps121 Tryz.results121 λS nx hd=>?_
  refine za (zb ?_)
  repeat apply za
  refine ze [(2,9)] (zo h0 zH) ?_;refine zn (by simp) ?_;refine za (zb ?_);exact zg (zi hd (by simp;rfl) rfl)
 by_cases h1:b=0
 ·rw[if_pos (.inr h1)];refine zt Tryz.func121 Tryz.ntmps121 Tryz.results121 λS nx hd=>?_
  refine za (zb ?_)
  repeat apply za
  refine ze [(2,9)] (zo h0 h1) ?_;refine zn (by simp) ?_;refine za (zb ?_);exact zg (zi hd (by simp;rfl) rfl)
 rw[if_neg (by simp[h0,h1])]
 by_cases h2:W ((W (a*b)).tdiv b)=a
 ·by_cases h3:a=-9223372036854775808
  ·by_cases h4:b=-1
   ·rw[if_pos (.inr ⟨h3,h4⟩)];refine zt Tryz.func121 Tryz.ntmps121 Tryz.results121 λS nx hd=>?_
    refine za (zb ?_)
    repeat apply za
    refine ze [(2,9)] (zo h0 h1) ?_;refine zm (by simp) ?_;refine zh (za (zb ?_))
    repeat apply za
    refine ze [(5,21),(8,24)] (zS h1 h2 (eq_true h3) (eq_true h4)) ?_;refine zn (by simp) ?_;refine za (zb ?_);exact zg (zi hd (by simp;rfl) rfl)
   ·rw[if_neg (by simp[h2,h4])];refine zt Tryz.func121 Tryz.ntmps121 Tryz.results121 λS nx hd=>?_
    refine za (zb ?_)
    repeat apply za
    refine ze [(2,9)] (zo h0 h1) ?_;refine zm (by simp) ?_;refine zh (za (zb ?_))
    repeat apply za
    refine ze [(5,21),(8,24)] (zS h1 h2 (eq_true h3) h4) ?_;refine zm (by simp) ?_;refine zh (za (zb ?_));exact zg (zi hd (by simp;rfl) rfl)
  ·rw[if_neg (by simp[h2,h3])];refine zt Tryz.func121 Tryz.ntmps121 Tryz.results121 λS nx hd=>?_
   refine za (zb ?_)
   repeat apply za
   refine ze [(2,9)] (zo h0 h1) ?_;refine zm (by simp) ?_;refine zh (za (zb ?_))
   repeat apply za
   refine ze [(5,21),(8,24)] (zS h1 h2 h3 zH) ?_;refine zm (by simp) ?_;refine zh (za (zb ?_));exact zg (zi hd (by simp;rfl) rfl)
 ·rw[if_pos (.inl h2)];refine zt Tryz.func121 Tryz.ntmps121 Tryz.results121 λS nx hd=>?_
  refine za (zb ?_)
  repeat apply za
  refine ze [(2,9)] (zo h0 h1) ?_;refine zm (by simp) ?_;refine zh (za (zb ?_))
  repeat apply za
  refine ze [(5,21),(8,24)] (zE h1 h2 zH) ?_;refine zn (by simp) ?_;refine za (zb ?_);exact zg (zi hd (by simp;rfl) rfl)
def XC(x:Int):Int :=
 let u:=IntKind.u64.wrap
 let a:=bits BinOp.and IntKind.u64
 let x1:=u (a (x.fdiv (2 ^ 1)) 6148914691236517205+a x 6148914691236517205)
 let x2:=u (a (x1.fdiv (2 ^ 2)) 3689348814741910323+a x1 3689348814741910323)
 let x3:=a (u (x2.fdiv (2 ^ 4)+x2)) 1085102592571150095
 let x4:=u (x3+x3.fdiv (2 ^ 8))
 let x5:=u (x4+x4.fdiv (2 ^ 16))
 let x6:=u (x5+x5.fdiv (2 ^ 32))
 bits BinOp.and IntKind.i64 (W x6) 127
theorem Zte(n:Nat):Pure prog 304 [U n] (I (XC n)):=by
 refine zt Tryz.func304 Tryz.ntmps304 Tryz.results304 λS nx hd=>?_
 refine za (zb ?_);refine za (zb ?_);refine za (zb ?_);refine za (zb ?_);refine za (zb ?_);refine za (zb ?_);refine za (zb ?_);refine za (zb ?_);exact zg (zi hd (by simp;rfl) (by simp[zp,XC,IntKind.bits]))
theorem Ztf(n:Nat):Pure prog 274 [U n] (I (XC n)):=by
 have h:=Zte n;refine zt Tryz.func274 Tryz.ntmps274 Tryz.results274 λS nx hd=>?_
 refine za (zb ?_);refine za (zb ?_);refine zr h ?_;exact zg (zi hd (by simp;rfl) rfl)
def Zdg(i:Nat)(least:Int)(p:Nat):Int:=if i=0\/XC p<least then XC p else least
def YZ(ps:List Nat):Nat->Int
 | 0=>0
 | k+1=>Zdg k (YZ ps k) (ps.getD k 0)
theorem Ztg(ps:List Nat)(hl:ps.length<=1048576):Pure prog 243 [L ps] (I (YZ ps ps.length)):=by
 refine zt Tryz.func243 Tryz.ntmps243 Tryz.results243 λS nx hd=>?_
 refine za (zb ?_);refine za (zb ?_)
 repeat apply za
 refine zb ?_;refine zj (zD (λk:Nat=>k<=ps.length) (λk=>[(3,I (YZ ps k)),(7,L ps),(8,I ps.length),(9,I k)]) (λ_=>[]) (λk=>ps.length-k) 0 [] (by simp) (by simp[YZ]) (by simp) ?_);rintro k hk;refine za (zb ?_);refine za (zv rfl (λhc=>?_) (λhc=>?_))
 ·simp at hc;obtain⟨p,tl,a1,a2,a3,e0⟩:=zF rfl ps k hc;have hg:ps.getD k 0=p:=by rw[Aa,a1];rfl
  have hnx:YZ ps (k+1)=Zdg k (YZ ps k) p:=by rw[<-hg];rfl
  have hlen:=Ztf p;refine zh (za (zj (za (ze [] (zo e0 hc) ?_))));refine za (zb ?_);refine zr hlen ?_;unfold Zdg at hnx;generalize YZ ps k=f0 at *;generalize XC p=o at *
  by_cases h0:k=0
  ·rw[if_pos (.inl h0)]at hnx;refine za (ze [(2,18)] (zo (eq_true h0) zH) ?_);refine zn (by simp) ?_;refine zb ?_;refine zb ?_;exact zq (k+1) [] hc (by omega) (by simp[zu k (by omega),hnx]) rfl (by simp)
  by_cases h1:o<f0
  ·rw[if_pos (.inr h1)]at hnx;refine za (ze [(2,18)] (zo h0 h1) ?_);refine zn (by simp) ?_;refine zb ?_;refine zb ?_;exact zq (k+1) [] hc (by omega) (by simp[zu k (by omega),hnx]) rfl (by simp)
  ·rw[if_neg (by simp only[not_or];exact⟨h0,h1⟩)]at hnx;refine za (ze [(2,18)] (zo h0 h1) ?_);refine zm (by simp) ?_;refine zh (zb ?_);exact zq (k+1) [] hc (by omega) (by simp[zu k (by omega),hnx]) rfl (by simp)
 ·simp at hc;obtain rfl:k=ps.length:=by omega
  refine zy (za (zb ?_));exact zg (zi hd (by simp;rfl) rfl)
def ZJ(c:Cust)(n cap:Int):Int :=
 if c.kind=1 then YZ c.pats c.pats.length else if Jv c n=0 then 0 else if jR cap c.size<1 then n else jR (XB (Jv c n) (jR cap c.size)) n
theorem ZiL(c:Cust)(n cap:Int)(hp:c.pats.length<=1048576):Pure prog 204 [.agg (ye c),I n,I cap] (I (ZJ c n cap)):=by
 have hf:=Ztg c.pats hp;have hw:=ZiJ c n;unfold ZJ;generalize YZ c.pats c.pats.length=fz at *;generalize Jv c n=wz at *
 by_cases hk:c.kind=1
 ·rw[if_pos hk];refine zt Tryz.func204 Tryz.ntmps204 Tryz.results204 λS nx hd=>?_
  refine za (zb ?_);intro v0
  repeat apply za
  refine ze [] hk ?_;refine zn (by simp[hk]) ?_;refine za (zb ?_);refine zr hf ?_;exact zg (zi hd (by simp;rfl) rfl)
 rw[if_neg hk]
 by_cases h0:wz=0
 ·rw[if_pos h0];refine zt Tryz.func204 Tryz.ntmps204 Tryz.results204 λS nx hd=>?_
  refine za (zb ?_);intro v0
  repeat apply za
  refine ze [] hk ?_;refine zm (by simp[hk]) ?_;refine zh (za (zb ?_));refine zr hw ?_
  repeat apply za
  refine ze [] h0 ?_;refine zn (by simp[h0]) ?_;refine za (zb ?_);exact zg (zi hd (by simp;rfl) rfl)
 rw[if_neg h0]
 by_cases h1:jR cap c.size<1
 ·rw[if_pos h1];refine zt Tryz.func204 Tryz.ntmps204 Tryz.results204 λS nx hd=>?_
  refine za (zb ?_);intro v0
  repeat apply za
  refine ze [] hk ?_;refine zm (by simp[hk]) ?_;refine zh (za (zb ?_));refine zr hw ?_
  repeat apply za
  refine ze [] h0 ?_;refine zm (by simp[h0]) ?_;refine zh (za (zb ?_))
  repeat apply za
  refine ze [] h1 ?_;refine zn (by simp[h1]) ?_;refine za (zb ?_);exact zg (zi hd (by simp;rfl) rfl)
 ·rw[if_neg h1];have hc:=ZiK wz (jR cap c.size) (by omega);generalize XB wz (jR cap c.size)=q at *;refine zt Tryz.func204 Tryz.ntmps204 Tryz.results204 λS nx hd=>?_
  refine za (zb ?_);intro v0
  repeat apply za
  refine ze [] hk ?_;refine zm (by simp[hk]) ?_;refine zh (za (zb ?_));refine zr hw ?_
  repeat apply za
  refine ze [] h0 ?_;refine zm (by simp[h0]) ?_;refine zh (za (zb ?_))
  repeat apply za
  refine ze [] h1 ?_;refine zm (by simp[h1]) ?_;refine zh (za (zb ?_));refine zr hc ?_;refine za (zb ?_);exact zg (zi hd (by simp;rfl) rfl)
open Go Go.Proofs
def vT(f:Nat->Int):Nat->Int
 | 0=>0
 | k+1=>w8 (vT f k) (f k)
theorem Zth(a b:Int):zM (w8 a b):=by unfold w8 zM;split<;>(try split)<;>omega
theorem ZiM(f:Nat->Int)(k:Nat):zM (vT f k):=by
 cases k with
 | zero=>show zM 0;exact⟨by decide,by decide⟩
 | succ k=>exact Zth _ _
theorem Zdh{S:Store}(x:Inst)(g:FuncId)(ps:List PV)(f:Nat->Int)(hx:x.cust.length<=1048576)(hf:∀k,zM (f k))
  (h:∀k,k<x.cust.length->∀T:Store,(∀o,S o≠.dead->T o=S o)->Spec prog g (ps++[I k]) T (λq S'=>q=I (f k)/\S'=T)) :
  Spec prog 124 [.agg (zx x),.fn (.func g) ps []] S (λq S'=>q=I (vT f x.cust.length)/\S'=S):=by
 refine yh Tryz.func124 Tryz.ntmps124 Tryz.results124 λnx hd=>?_
 have hT:∀obs o,S o≠.dead->ext S nx obs o=S o:=λobs o ho=>by
  apply zA;rcases Bf o nx with q | q
  ·exact q
  ·exact absurd (hd o q) ho
 refine za (zb ?_);intro v0;refine za (zb ?_)
 repeat apply za
 refine zb ?_;refine zj (zD (λs:Nat × Nat=>s.1<=x.cust.length) (λ(k,v)=>[(1,.fn (.func g) ps []),(2,.ptr nx v 0),(5,I (vT f k)),(9,I x.cust.length),(10,I k)]) (λ(k,v)=>[.cells v 25 (zx x)]) (λs=>x.cust.length-s.1) (0,v0) [] (by simp) (by simp[vT]) (by simp) ?_);rintro⟨k,v⟩ hk;simp only at hk ⊢;refine za (zb ?_);refine za (zv rfl (λhc=>?_) (λhc=>?_))
 ·simp at hc;have hsat:=V7 (vT f k) (f k) (ZiM f k) (hf k);refine zh (za (zj (za (zb ?_))));refine zb ?_;refine λhsuf=>((h k hc _ (hT _)).mono ?_).v
  rintro _ _ ⟨rfl,rfl⟩;refine⟨_,_,rfl,zL hsuf ?_⟩;refine λhsuf=>((hsat _).mono ?_).v
  rintro _ _ ⟨rfl,rfl⟩;refine⟨_,_,rfl,zL hsuf ?_⟩;refine zb ?_;exact zq (k+1,v) [] hc (by simp;omega) (by simp[zu k (by omega)];rfl) rfl (by simp)
 ·simp at hc;obtain rfl:k=x.cust.length:=by omega
  refine zy (za (zb ?_));exact zg (zi hd (by simp;rfl) rfl)
abbrev u5(x:Inst)(pa pb ch:PV):List PV:=[I x.days,I x.veh,I x.cap,I x.len,L x.cust,L x.dist,pa,pb,ch]
theorem Zdi{S:Store}{id ver:Nat}(x:Inst)(pa pb ch:PV)(k:Nat){c:Cust}(hS:S id=.cells ver 182 (u5 x pa pb ch))(hx:x.cust.length<=1048576)(hc:x.cust[k]?=some c)(hp:c.pats.length<=1048576):
  Spec prog 164 [.ptr id ver 0,I k] S (λq S'=>q=I (ZJ c x.days x.cap)/\S'=S):=by
 have hfo:=ZiL c x.days x.cap hp;have hk:k<x.cust.length:=(Ac.1 hc).1;obtain⟨t,tl,b1,b2,b3,f0,f1⟩:=el 8 rfl x.cust k hk;obtain rfl:t=c:=by rw[hc]at b1;exact(Option.some.inj b1).symm
 refine yh Tryz.func164 Tryz.ntmps164 Tryz.results164 λnx hd=>?_
 have hlt:id<nx:=qE hd hS (by simp);have x1:∀obs,ext S nx obs id=.cells ver 182 (u5 x pa pb ch):=λobs=>(zA hlt).trans hS
 refine za (zb ?_);refine za (zz (some [id]) (Row.pures [0,1,2,3,4,5,6,7,8,9,10,11,12,13,14,15,16,17,18,19] .done) mixed (zS x1 hk f0 f1) ?_);refine zJ (hfo) trivial ?_;exact zg (zi hd (by simp;rfl) rfl)
theorem Zti{S:Store}{id ver:Nat}(x:Inst)(pa pb:PV)(ch:List Int)(k:Nat){c:Cust}{a:Int}(hS:S id=.cells ver 182 (u5 x pa pb (L ch)))(hx:x.cust.length<=1048576)(hc:x.cust[k]?=some c)(hp:c.pats.length<=1048576)(ha:ch[k]?=some a):
  Spec prog 172 [.ptr id ver 0,I k] S (λq S'=>q=I (W (a*ZJ c x.days x.cap))/\S'=S):=by
 have hfo:=λS (h:S id=_)=>Zdi (S:=S) (id:=id) (ver:=ver) x pa pb (L ch) k h hx hc hp
 have hk:k<ch.length:=(Ac.1 ha).1;obtain⟨t,tl,b1,b2,b3,f0⟩:=zF rfl ch k hk;obtain rfl:t=a:=by rw[ha]at b1;exact(Option.some.inj b1).symm
 refine yh Tryz.func172 Tryz.ntmps172 Tryz.results172 λnx hd=>?_
 have hlt:id<nx:=qE hd hS (by simp);have x1:∀obs,ext S nx obs id=.cells ver 182 (u5 x pa pb (L ch)):=λobs=>(zA hlt).trans hS
 refine za (zb ?_);refine za (zz (some [id]) (Row.pures [0,1,2,3,4,5,6,7,8] (.alt 9 (Row.pures [10,11] .done) .stop)) mixed (zE x1 hk f0) ?_);refine(Spec.mono (hfo _ (x1 [])) ?_).v;rintro _ _ ⟨rfl,rfl⟩;refine⟨by simp[yE],js trivial ?_⟩;exact zg (zi hd (by simp;rfl) rfl)
def ZK(c:Cust)(n cap:Int):Int:=if c.kind=1 then W (ZJ c n cap*c.demand) else Jv c n
theorem Ztj{S:Store}{id ver:Nat}(x:Inst)(pa pb ch:PV)(k:Nat){c:Cust}(hS:S id=.cells ver 182 (u5 x pa pb ch))(hx:x.cust.length<=1048576)(hc:x.cust[k]?=some c)(hp:c.pats.length<=1048576):
  Spec prog 166 [.ptr id ver 0,I k] S (λq S'=>q=I (ZK c x.days x.cap)/\S'=S):=by
 have hfo:=λS (h:S id=_)=>Zdi (S:=S) (id:=id) (ver:=ver) x pa pb ch k h hx hc hp
 have hwa:=ZiJ c x.days;have hk:k<x.cust.length:=(Ac.1 hc).1;obtain⟨t,tl,b1,b2,b3,f0,f1⟩:=el 8 rfl x.cust k hk;obtain rfl:t=c:=by rw[hc]at b1;exact(Option.some.inj b1).symm
 refine yh Tryz.func166 Tryz.ntmps166 Tryz.results166 λnx hd=>?_
 have hlt:id<nx:=qE hd hS (by simp);have x1:∀obs,ext S nx obs id=.cells ver 182 (u5 x pa pb ch):=λobs=>(zA hlt).trans hS
 refine za (zb ?_);refine za (ze [] (zS x1 hk f0 f1) ?_);intros
 repeat apply za
 refine zb ?_
 by_cases hk1:t.kind=1
 ·repeat apply za
  refine zn (by simp[hk1]) ?_;refine za (zz (some [id,nx]) (Row.pures [0,1,3,4] (.alt 2 (Row.pures [5,6] .done) .stop)) mixed x1 ?_);refine(Spec.mono (hfo _ (x1 _)) ?_).v;rintro _ _ ⟨rfl,rfl⟩;refine⟨by simp[yE],js trivial ?_⟩
  trace_state
  exact zg (zi hd (by simp;rfl) (by simp[ZK,hk1,zp]))
 ·repeat apply za
  refine zm (by simp[hk1]) ?_;refine zh (za (zz (some [id,nx]) (Row.pures [0,1,2,3,4,5,6,7] .done) mixed x1 ?_));refine zJ (hwa) trivial ?_;exact zg (zi hd (by simp;rfl) (by simp[ZK,hk1,zp]))
open Go Go.Proofs
def Jx(price:List Int):Nat->Int
 | 0=>YP price 0
 | k+1=>jR (Jx price k) (YP price k)
def ZaB(n:Nat)(cap:Int)(c:Cust)(price:List Int):Int :=
 if c.kind=2 then W (W (ZJ c n cap*Jx price n)+ZaA c n) else W (ZJ c n cap*Jx price n)
def QF(n:Nat)(cap:Int)(c:Cust)(price:List Int):Int :=
 if (c.kind=1\/c.rule=1)/\(qy n cap c price).2=true then Yf c n price (qy n cap c price).1 else ZaB n cap c price
theorem Ztk{S:Store}{pl:PV}{price:List Int}(c:Cust)(n:Nat)(cap:Int)(hR:RowOf S pl price)(hp:∀z∈price,zM z)(hpl:price.length<=1000)(hm:CustMade c n)(hpc:c.pats.length<=1000)(hn:n<=60)(hcf:CustFits c)(hv:VisOk (qy n cap c price).1):
  Spec prog 170 [.agg (ye c),I n,I cap,pl] S (λq S'=>q=I (QF n cap c price)/\S'=S):=by
 have hfo:=ZiL c n cap (by omega);have hke:=Ztc c n (by omega);have hso:=λS (hR:RowOf S pl price)=>ZcV (S:=S) c n cap hR hp hpl hm hpc hn
 have hco:=λS (hR:RowOf S pl price)=>ZcR (S:=S) c n (qy n cap c price).1 hR hcf hv
 have hpr:=λS (hR:RowOf S pl price) (d:Int)=>ZcO (S:=S) d hR
 obtain⟨res,hres⟩:∃res,res=QF n cap c price:=⟨_,rfl⟩;rw[<-hres];unfold QF at hres;generalize qy n cap c price=az at *;obtain⟨av,aok⟩:=az;simp only at hres hso hco;have hsame:(c.kind=1\/c.rule=1)->aok=true->res=Yf c n price av:=λh1 h2=>by rw[hres,if_pos ⟨h1,h2⟩]
 have hlow:¬((c.kind=1\/c.rule=1)/\aok=true)->res=ZaB n cap c price:=λh=>by rw[hres,if_neg h]
 clear hres;unfold ZaB at hlow;generalize Yf c n price av=cv at *;generalize ZJ c n cap=fo at *;generalize ZaA c n=ke at *;refine yh Tryz.func170 Tryz.ntmps170 Tryz.results170 λnx hd=>?_
 have hRx:=λobs=>hR.ext hd obs
 refine za (zb ?_);intro v0;refine za (qY (nx:=nx) (σ:=Unit) (λ_=>¬((c.kind=1\/c.rule=1)/\aok=true)) (λ_=>[(1,I n),(2,I cap),(3,pl),(4,.ptr nx v0 0)]) (λ_=>S) (λ_=>[.cells v0 87 (ye c)]) ?_ ?_)
 ·by_cases hk:c.kind=1
  ·refine za (ze [(3,17)] (zo hk zH) ?_);refine zn (by simp) ?_;refine za (zb ?_);refine λhsuf=>((hso _ (hRx _)).mono ?_).v
   rintro _ _ ⟨rfl,rfl⟩;refine⟨_,_,rfl,zL hsuf ?_⟩;refine za (zb ?_);cases aok with
   | true =>
    refine zn (by simp) ?_;refine za (zb ?_);refine λhsuf=>((hco _ (hRx _)).mono ?_).v
    rintro _ _ ⟨rfl,rfl⟩;refine⟨_,_,rfl,zL hsuf ?_⟩;exact zg (zi hd (by simp;rfl) (by rw[hsame (.inl hk) rfl];rfl))
   | false =>
    refine zm (by simp) ?_;exact zh (zY () [] (by simp) (by simp) rfl (by simp))
  ·by_cases hru:c.rule=1
   ·refine za (ze [(3,17)] (zo hk hru) ?_);refine zn (by simp) ?_;refine za (zb ?_);refine λhsuf=>((hso _ (hRx _)).mono ?_).v
    rintro _ _ ⟨rfl,rfl⟩;refine⟨_,_,rfl,zL hsuf ?_⟩;refine za (zb ?_);cases aok with
    | true =>
     refine zn (by simp) ?_;refine za (zb ?_);refine λhsuf=>((hco _ (hRx _)).mono ?_).v
     rintro _ _ ⟨rfl,rfl⟩;refine⟨_,_,rfl,zL hsuf ?_⟩;exact zg (zi hd (by simp;rfl) (by rw[hsame (.inr hru) rfl];rfl))
    | false =>
     refine zm (by simp) ?_;exact zh (zY () [] (by simp) (by simp) rfl (by simp))
   ·refine za (ze [(3,17)] (zo hk hru) ?_);refine zm (by simp) ?_;exact zh (zY () [] (λh=>h.1.elim hk hru) (by simp) rfl (by simp))
 ·rintro _ hl;have hr:=hlow hl;refine za (zb ?_);refine λhsuf=>((hpr _ (hRx _) 0).mono ?_).v
  rintro _ _ ⟨rfl,rfl⟩;refine⟨_,_,rfl,zL hsuf ?_⟩
  repeat apply za
  refine zb ?_;refine zj (zD (λs:Nat × Nat=>s.1<=n) (λ(k,v)=>[(1,I n),(2,I cap),(3,pl),(4,.ptr nx v 0),(11,I (Jx price k)),(38,I n),(39,I k)]) (λ(k,v)=>[.cells v 87 (ye c)]) (λs=>n-s.1) (0,v0) [] (by simp) (by simp[Jx]) (by simp) ?_);rintro⟨k,v⟩ hk;simp only at hk ⊢;refine za (zb ?_);refine za (zv rfl (λhc=>?_) (λhc=>?_))
  ·simp at hc;refine zh (za (zj (za (zb ?_))));refine zb ?_;refine λhsuf=>((hpr _ (hRx _) k).mono ?_).v
   rintro _ _ ⟨rfl,rfl⟩;refine⟨_,_,rfl,zL hsuf ?_⟩;refine zb ?_;exact zq (k+1,v) [] hc (by simp;omega) (by simp[zu k (by omega),Jx]) rfl (by simp)
  ·simp at hc;obtain rfl:k=n:=by omega
   generalize Jx price k=lp at *;refine zy (za (zb ?_));refine zr hfo ?_
   repeat apply za
   refine zb ?_
   by_cases hk2:c.kind=2
   ·rw[if_pos hk2]at hr;refine zn (by simp[hk2]) ?_;refine zb ?_;refine zr hke ?_;refine za (zb ?_);exact zg (zi hd (by simp;rfl) (by rw[hr];rfl))
   ·rw[if_neg hk2]at hr;refine zm (by simp[hk2]) ?_;refine zh (za (zb ?_));exact zg (zi hd (by simp;rfl) (by rw[hr];rfl))
open Go Go.Proofs
theorem Ztl(x:Inst)(a b:List Int)(k:Nat)(hk:k<x.cust.length)(hn:x.cust.length<=1048576)(ha:a.length=x.cust.length+1)(hb:b.length=x.cust.length+1):
  Pure prog 169 [.agg (zx x),.agg [L a,L b],I k] (I (W (a.getD (k+1) 0+b.getD (k+1) 0))):=by
 obtain⟨t,tl,b1,b2,b3,f0⟩:=zF rfl a (k+1) (by omega);obtain⟨u,tl2,c1,c2,c3,f1⟩:=zF rfl b (k+1) (by omega);have e1:a.getD (k+1) 0=t:=by rw[Aa,b1];rfl
 have e2:b.getD (k+1) 0=u:=by rw[Aa,c1];rfl
 rw[e1,e2];have hka:k+1<a.length:=by omega
 have hkb:k+1<b.length:=by omega
 have h0:¬(k:Int)<0:=by omega
 have h1:¬(x.cust.length:Int)<=k:=by omega
 have w1:IntKind.i64.wrap ((k:Int)+1)=((k+1:Nat):Int):=zu k (by omega);obtain⟨k1,hk1⟩:∃m,m=k+1:=⟨_,rfl⟩;rw[<-hk1]at f0 f1 hka hkb w1;refine zt Tryz.func169 Tryz.ntmps169 Tryz.results169 λS nx hd=>?_
 refine za (zb ?_);intro v0 v1
 repeat apply za
 refine ze [(2,9)] (zo h0 h1) ?_;refine zm (by simp) ?_;refine zh (za (zz (some [nx,nx+1]) (Row.pures [0,1,2,3,4,5,6,7,8,9,10,11,12,13] .done) mixed (yG w1 f0 f1 hka hkb) ?_));exact zg (zi hd (by simp;rfl) rfl)
def vq(x:Inst)(c:Nat):Nat->Int
 | 0=>arc x 0 c
 | k+1=>if k≠c then jR (vq x c k) (arc x k c) else vq x c k
def Y0(x:Inst)(c:Nat):Nat->Int
 | 0=>arc x c 0
 | k+1=>if k≠c then jR (Y0 x c k) (arc x c k) else Y0 x c k
def wd(x:Inst):List Int:=(List.range x.cust.length).map λi=>vq x (i+1) (x.cust.length+1)
def Jy(x:Inst):List Int:=(List.range x.cust.length).map λi=>Y0 x (i+1) (x.cust.length+1)
theorem Ztm(x:Inst)(k:Nat)(h:k<x.cust.length):(wd x).take (k+1)=(wd x).take k++[vq x (k+1) (x.cust.length+1)]:=by
 rw[AN];congr 1;unfold wd;rw[Aj,AQ h];rfl
theorem Ztn(x:Inst)(k:Nat)(h:k<x.cust.length):(Jy x).take (k+1)=(Jy x).take k++[Y0 x (k+1) (x.cust.length+1)]:=by
 rw[AN];congr 1;unfold Jy;rw[Aj,AQ h];rfl
theorem Zto(x:Inst)(hn:x.cust.length<=1048576):Pure prog 171 [.agg (zx x)] (.tup [L (wd x),L (Jy x)]):=by
 have harc:=wO x;have hA:=Ztm x;have hB:=Ztn x;have hAl:(wd x).length=x.cust.length:=by simp[wd]
 have hBl:(Jy x).length=x.cust.length:=by simp[Jy]
 generalize wd x=A at *;generalize Jy x=B at *;refine zt Tryz.func171 Tryz.ntmps171 Tryz.results171 λS nx hd=>?_
 refine za (zb ?_);intro v0;refine za (zb ?_);refine jf 4 3 1 rfl λv1=>?_
 refine jf 5 3 1 rfl λv2=>?_
 repeat apply za
 refine zb ?_;refine zj (zD (λs:Nat × Nat × Nat × Nat=>s.1<=x.cust.length) (λ(k,v,w1,w2)=>[(1,.ptr nx v 0),(4,.sl (nx+1) w1 1 0 k),(5,.sl (nx+2) w2 1 0 k),(13,I x.cust.length),(14,I k)]) (λ(k,v,w1,w2)=>[.cells v 25 (zx x),.cells w1 3 ((A.take k).flatMap Enc.enc),.cells w2 3 ((B.take k).flatMap Enc.enc)]) (λs=>x.cust.length-s.1) (0,v0,v1,v2) [] (by simp) (by simp) (by simp) ?_);rintro⟨k,v,w1,w2⟩ hk;simp only at hk ⊢;refine za (zb ?_);refine za (zv rfl (λhc=>?_) (λhc=>?_))
 ·simp at hc;have wk:IntKind.i64.wrap ((k:Int)+1)=((k+1:Nat):Int):=zu k (by omega);obtain⟨at_,hat⟩:∃m,m=k+1:=⟨_,rfl⟩;rw[<-hat]at wk;have hA1:=hA k hc;have hB1:=hB k hc;rw[<-hat]at hA1 hB1;refine zh (za (zj (za (zb ?_))));refine za (ze [] wk ?_);refine za (zz (some [nx]) (Row.pures [0,1,2,3,4,5,6,7] .done) mixed trivial ?_);refine zJ (harc 0 at_) trivial ?_;refine zJ (harc at_ 0) trivial ?_;have wn:IntKind.i64.wrap ((x.cust.length:Int)+1)=(x.cust.length:Int)+1:=by rw[AI];omega
  repeat apply za
  refine ze [] wn ?_;refine zj (zD (λs:Nat × Nat=>s.1<=x.cust.length+1) (λ(j,v)=>[(1,.ptr nx v 0),(4,.sl (nx+1) w1 1 0 k),(5,.sl (nx+2) w2 1 0 k),(7,I at_),(8,I (vq x at_ j)),(9,I (Y0 x at_ j)),(13,I x.cust.length),(14,I k),(28,I ((x.cust.length:Int)+1)),(29,I j)]) (λ(j,v)=>[.cells v 25 (zx x),.cells w1 3 ((A.take k).flatMap Enc.enc),.cells w2 3 ((B.take k).flatMap Enc.enc)]) (λs=>x.cust.length+1-s.1) (0,v) [] (by simp) (by simp[vq,Y0]) (by simp) ?_);rintro⟨j,v⟩ hj;simp only at hj ⊢;refine za (zb ?_)
  by_cases hjn:j<x.cust.length+1
  ·have hji:(j:Int)<(x.cust.length:Int)+1:=by omega
   refine za (zn (by simp;omega) ?_);refine zh (za (zj (za (zb ?_))));refine za (zb ?_)
   by_cases hja:j=at_
   ·have wja:IntKind.i64.wrap ((at_:Int)+1)=(at_:Int)+1:=by rw[AI];omega
    refine zm (by simp[hja]) ?_;refine zh (zb ?_);exact zq (j+1,v) [] (by simp;omega) (by simp;omega) (by simp[wja,vq,Y0,hja]) rfl (by simp)
   ·repeat apply za
    refine zn (by simp;omega) ?_;refine za (zb ?_);refine zr (harc j at_) ?_;refine zb ?_;refine zr (harc at_ j) ?_;refine zb ?_;exact zq (j+1,v) [] (by simp;omega) (by simp;omega) (by simp[zu j (by omega),vq,Y0,hja]) rfl (by simp)
  ·obtain rfl:j=x.cust.length+1:=by omega
   refine za (zm (by simp) ?_);refine zy ?_;have hAk:((A.take k).flatMap Enc.enc).length=k:=by rw[jG];simp;omega
   have hBk:((B.take k).flatMap Enc.enc).length=k:=by rw[jG];simp;omega
   have htA:List.take k ((A.take k).flatMap Enc.enc)=(A.take k).flatMap Enc.enc:=Af (by rw[hAk];exact Ag _);have htB:List.take k ((B.take k).flatMap Enc.enc)=(B.take k).flatMap Enc.enc:=Af (by rw[hBk];exact Ag _);have hAn:(A.take (k+1)).flatMap Enc.enc=(A.take k).flatMap Enc.enc++[I (vq x at_ (x.cust.length+1))]:=by rw[<-hat,hA1,Av];rfl
   have hBn:(B.take (k+1)).flatMap Enc.enc=(B.take k).flatMap Enc.enc++[I (Y0 x at_ (x.cust.length+1))]:=by rw[<-hat,hB1,Av];rfl
   refine ze [] (zo htA htB) ?_;refine⟨by omega,by omega,?_⟩;refine zb ?_;exact zq (k+1,v,w1+1,w2+1) [] hc (by simp;omega) (by simp[zu k (by omega)]) rfl (by simp only[hAn,hBn,AF])
 ·simp at hc;obtain rfl:k=x.cust.length:=by omega
  rw[show A.take x.cust.length=A from Af (by omega),show B.take x.cust.length=B from Af (by omega)];refine zy (yb 1 rfl ?_);refine yb 2 rfl ?_;refine za (ze [] (zo hAl hBl) ?_);exact zg (zi hd (by simp;rfl) (by simp[zp,hAl,hBl]))
open Go Go.Proofs
theorem Zdj{P:Program}{n:Nat}{F:Nat->PV}{S:Store}{o:Oper}{s x:Operand}{t e m id ver et:Nat}{cs l:List PV}{K:PV->Store->Prop}(ho:o.op=.call { callee:=.builtin .copy,args:=#[s,x],argTypes:=#[t,t] })(ht:P.underlying t=some (.slice e))(hz:(P.info? e).map (·.size)=some 1)
  (hs:ev F s=.sl id ver 1 0 m) (hx:ev F x=.lst l.length l) (hid:S id=.cells ver et cs) (hm:cs.length=m) (hm0:0<m)
  (hK:K (I (min l.length m:Nat)) (S.set id (.cells ver et (l.take m++cs.drop (min l.length m))))):PO P jd n o F S K:=by
 intro G hG C w a N st next Q' hnext;have e1:=st.ev s;rw[(hG s (by simp[ho,Op.operands,Call.operands])).trans hs]at e1;have e2:=st.ev x;rw[(hG x (by simp[ho,Op.operands,Call.operands])).trans hx]at e2;have hnd:∀c,o.op≠.defer c:=by intro c hc;rw[ho]at hc;cases hc
 generalize hv:a.eval s=v at e1;generalize hu:a.eval x=u at e2;cases e1 with
 | sl i1 i2 i3 =>
  rcases (i3 ver (by rw[hid];rfl)).2 rfl with ⟨_,q,_,_⟩ | ⟨b,k,ad,dcap,hl,rfl,hq0,_⟩
  ·omega
  obtain⟨rfl,hq1⟩:=hq0 rfl;rcases st.sim.cells id ver et cs hid with ⟨hn,_⟩ | ⟨b',k',c,g1,g2,g3,g4,g5,g6⟩
  ·rw[hn]at hl;cases hl
  rw[hl]at g1;cases g1;have main:∀(vs:List Value) (a':Addr) (cap:Nat),u=.slice (some a') l.length cap->vs.length=min l.length m->(∀j v,vs[j]?=some v->w.cell? (a'.add j)=some v)->(∀v∈vs,v.oneCell'=true)->(∀(i:Nat) (p:PV) (v:Value),(l.take m)[i]?=some p->vs[i]?=some v->Rel C S w p v)->o.wpIn (Fe jd) n P a w next Q':=by
   intro vs a' cap hu' hvl hcell hone hrel;have hrun0:=run_copy_row P w t t o.type e b 0 m dcap a' l.length cap c et vs ht hz g2 (by rw[hvl]) hcell (by omega) hone;have hrun:=WM (P:=P) (a:=a) (w:=w) ho (by rw[hv,hu,hu'];exact hrun0);simp only[Dj,AS,AR]at hrun;generalize hw':w.setRow b (vs++c.toList.drop vs.length).toArray=w' at hrun;have hheap:w'.heap[b]?=some (.cells (vs++c.toList.drop vs.length).toArray et (0,0)):=by rw[<-hw'];exact setRow_heap w b c _ et _ g2
   have hgr:w.grownBy w' (some b)/\w.drawn<=w'.drawn:=by
    rw[<-hw'];exact⟨⟨rfl,rfl,rfl,by simp[World.setRow],λj hj hne=>setRow_other w b j _ (λe=>hne (by rw[e]))⟩,Ag _⟩
   have hsize:(vs++c.toList.drop vs.length).toArray.size=k:=by simp;omega
   have htl:(l.take m).length=vs.length:=by rw[Ay,hvl];omega
   obtain⟨t1,t2⟩:=st.sim.turn (l:=C.loc id) (ver':=ver) (cs':=l.take m++cs.drop (min l.length m)) hid (Ag _) (λ_=>rfl) (by rw[hl];exact hgr)
    (.inr ⟨b,k,_,hl,.inr (by rw[hl];rfl),hheap,hsize,by rw[Ar,Bt,htl];omega,λi z hi hz=>by
      rw[AD]at hz
      by_cases q1:i<vs.length
      ·rw[Al q1]at hz;exact hone z (Ab hz)
      ·rw[Ak (by omega),AM]at hz;rw[Ar,Bt,htl]at hi;have e9:vs.length+(i-vs.length)=i:=by omega
       rw[e9]at hz;exact g5 i z (by omega) (by rw[<-Array.getElem?_toList];exact hz),
     λi p z hp hz=>by
      rw[AD]at hz
      by_cases q1:i<vs.length
      ·rw[Al q1]at hz;rw[Al (by omega)]at hp;exact hrel i p z hp hz
      ·rw[Ak (by omega),AM]at hz;rw[Ak (by omega),AM,htl,<-hvl]at hp;have e9:vs.length+(i-vs.length)=i:=by omega
       rw[e9]at hz hp;exact g6 i p z hp (by rw[<-Array.getElem?_toList];exact hz)⟩)
   have hres:goInt vs.length=Value.int .i64 ((min l.length m:Nat):Int):=by rw[hvl];rfl
   exact qb hnd hrun (hnext _ _ _ _ _ hK (by rw[hres];exact .sc _) t1 t2)
  generalize hk:l.length=kk at e2;cases e2 with
  | lst0 =>
   rename_i cap a';have hrun0:(Builtin.copy_ #[t,t] o.type #[a.eval s,a.eval x]).run P w=.ok (goInt 0) w:=by
    rw[hv,hu];cases hq:P.info? e with
    | none=>simp[hq]at hz
    | some i =>
     cases a'<;>simp[Builtin.copy_,run_underlying ht,Builtin.lenOf,Builtin.firstCells,sizeOf,typeInfo,hq,storeCells,loadCells,loadCellsFrom]
   have hrun:=WM (P:=P) (a:=a) (w:=w) ho hrun0;have eS:S.set id (.cells ver et cs)=S:=by
    funext i
    by_cases hi:i=id
    ·subst hi;rw[q11];exact hid.symm
    ·exact q10 _ _ _ _ hi
   simp only[Ah,Nat.zero_min,Dv,DU,AS,eS]at hK;exact qb hnd hrun (hnext _ _ _ _ _ hK (.sc _) st.sim (Step.refl _ _ _))
  | lst1 hn hmx hb hM hs1 h1 h2 =>
   rename_i cap b' o' c' e' fz;subst hk;have hadd:∀j,(⟨b',o',none⟩:Addr).add j=⟨b',o'+j,none⟩:=by intro j;unfold Addr.add;split<;>simp_all
   have hat:∀(j:Nat) (v:Value),((c'.toList.drop o').take (min l.length m))[j]?=some v->j<min l.length m/\c'[o'+j]?=some v:=λj v hj=>by
    rw[BL]at hj;split at hj
    ·rename_i hlt;rw[AM,Array.getElem?_toList]at hj;exact⟨hlt,hj⟩
    ·cases hj
   refine main ((c'.toList.drop o').take (min l.length m)) ⟨b',o',none⟩ cap rfl ?_ ?_ ?_ ?_
   ·rw[Ay,Bt];have e9:c'.toList.length=c'.size:=Array.length_toList
    by_cases hl0:l=[]
    ·subst hl0;simp
    ·have:=hs1 hl0;omega
   ·intro j v hj;obtain⟨q1,q2⟩:=hat j v hj;rw[hadd];simp[World.cell?,hb,q2]
   ·intro v hv';obtain⟨j,hj⟩:=Cg hv';obtain⟨q1,q2⟩:=hat j v hj;exact h1 j v (by omega) q2
   ·intro i p v hp hvi;obtain⟨q1,q2⟩:=hat i v hvi;rw[AE (by omega)]at hp;exact h2 i p v hp q2
open Go
def xB(id ver id2 v2:Nat)(p:PV):PV :=
 match p with
 | .sl o v sz off k=>if o=id/\v=ver then .sl id2 v2 sz off k else .sl o v sz off k
 | .ptr o v off=>if o=id/\v=ver then .ptr id2 v2 off else .ptr o v off
 | p=>p
def Y1(id ver id2 v2:Nat)(x:Ob):Ob :=
 match x with
 | .cells v e ds=>.cells v e (ds.map (xB id ver id2 v2))
 | x=>x
theorem Ztp{C C':Ctx}{S T:Store}{w:World}{id ver e id2 v2 e2:Nat}{cs cs2:List PV}(hid:S id=.cells ver e cs)(st:Step C S w C' T w)(hn:T id2=.cells v2 e2 cs2)(hl:C'.loc id2=C.loc id)(hlt:id2<C'.next/\v2<C'.clock){p:PV}{u:Value}
  (h:Rel C S w p u):Rel C' T w (xB id ver id2 v2 p) u:=by
 unfold xB;split
 ·split
  ·rename_i hc;obtain⟨rfl,rfl⟩:=hc;cases h with
   | sl h1 h2 h3 =>
    refine .sl h1 hlt λv0 hv0=>?_
    rw[hn]at hv0;cases hv0;refine⟨Ag _,λ_=>?_⟩;rw[hl];exact(h3 _ (by rw[hid];rfl)).2 rfl
  ·exact h.mono st
 ·split
  ·rename_i hc;obtain⟨rfl,rfl⟩:=hc;cases h with
   | ptr h1 h2 h3 =>
    refine .ptr h1 hlt λv0 hv0=>?_
    rw[hn]at hv0;cases hv0;refine⟨Ag _,λ_=>?_⟩;rw[hl];exact(h3 _ (by rw[hid];rfl)).2 rfl
  ·exact h.mono st
 ·exact h.mono st
theorem Yl{P:Program}{r:Rd}{n nx N:Nat}{Q:Exit->(Nat->PV)->Store->Prop}{F:Nat->PV}{S:Store}{obs:List Ob}{c:Code}(j:Nat){ver e:Nat}{cs:List PV}(hj:obs[j]?=some (.cells ver e cs))
  (h:∀v2,PW P r n N c Q (λi=>xB (nx+j) ver (nx+obs.length) v2 (F i)) (ext S nx ((obs.map (Y1 (nx+j) ver (nx+obs.length) v2)).set j .dead++[.cells v2 e (cs.map (xB (nx+j) ver (nx+obs.length) v2))]))):PW P r n N c Q F (ext S nx obs):=by
 intro C w a st;have hjl:j<obs.length:=(Ac.1 hj).1;have h:=h C.clock;have hid:ext S nx obs (nx+j)=.cells ver e cs:=by rw[zU,Aa,hj];rfl
 have hdn:ext S nx obs (nx+obs.length)=.dead:=uN;have hTn:ext S nx ((obs.map (Y1 (nx+j) ver (nx+obs.length) C.clock)).set j .dead++[.cells C.clock e (cs.map (xB (nx+j) ver (nx+obs.length) C.clock))]) (nx+obs.length)=.cells C.clock e (cs.map (xB (nx+j) ver (nx+obs.length) C.clock)):=by
  rw[zU,Aa,Ak (by simp)];simp
 have hTj:ext S nx ((obs.map (Y1 (nx+j) ver (nx+obs.length) C.clock)).set j .dead++[.cells C.clock e (cs.map (xB (nx+j) ver (nx+obs.length) C.clock))]) (nx+j)=.dead:=by
  rw[zU,Aa,Al (by simpa using hjl),AX (by simpa using hjl)];rfl
 have hat:∀o,o≠nx+j->o≠nx+obs.length->ext S nx ((obs.map (Y1 (nx+j) ver (nx+obs.length) C.clock)).set j .dead++[.cells C.clock e (cs.map (xB (nx+j) ver (nx+obs.length) C.clock))]) o=ext S nx obs o \/
   ext S nx ((obs.map (Y1 (nx+j) ver (nx+obs.length) C.clock)).set j .dead++[.cells C.clock e (cs.map (xB (nx+j) ver (nx+obs.length) C.clock))]) o=Y1 (nx+j) ver (nx+obs.length) C.clock (ext S nx obs o):=by
  intro o h1 h2
  by_cases ho:o<nx
  ·exact .inl (by rw[zA ho,zA ho])
  ·right;simp only[ext];rw[if_neg ho,if_neg ho,Aa,Aa]
   by_cases hlo:o-nx<obs.length
   ·rw[Al (by simpa using hlo),AP (by omega),Aj];cases obs[o-nx]?<;>rfl
   ·rw[Ai (by simp;omega),Ai (by omega)];rfl
 generalize hTT:ext S nx ((obs.map (Y1 (nx+j) ver (nx+obs.length) C.clock)).set j .dead++[.cells C.clock e (cs.map (xB (nx+j) ver (nx+obs.length) C.clock))])=T at *;generalize hSS:ext S nx obs=S1 at *;generalize hi2:nx+obs.length=id2 at *;generalize hi1:nx+j=id at *;clear hTT hSS hi2 hi1 hj hjl;have hS:=st.sim;have hne:id≠id2:=by intro e2;rw[e2,hdn]at hid;cases hid
 have hdead:∀o,o≠id2->T o≠.dead->S1 o≠.dead/\o≠id:=by
  intro o h2 hT
  by_cases h1:o=id
  ·subst h1;exact absurd hTj hT
  ·refine⟨λhs=>?_,h1⟩;rcases hat o h1 h2 with q | q
   ·rw[q,hs]at hT;exact hT rfl
   ·rw[q,hs]at hT;exact hT rfl
 have hver:∀o v,o≠id2->(T o).ver=some v->(S1 o).ver=some v:=by
  intro o v h2 hv
  by_cases h1:o=id
  ·subst h1;rw[hTj]at hv;cases hv
  ·rcases hat o h1 h2 with q | q
   ·rw[q]at hv;exact hv
   ·rw[q]at hv;cases hs:S1 o with
    | dead=>rw[hs]at hv;cases hv
    | cells v0 e0 ds=>rw[hs]at hv;exact hv
    | map v0 es=>rw[hs]at hv;exact hv
 obtain⟨C',hC'⟩:∃C':Ctx,C'={ loc:=λo=>if o=id2 then C.loc id else C.loc o,next:=max C.next (id2+1),clock:=C.clock+1 }:=⟨_,rfl⟩;have hl2:C'.loc id2=C.loc id:=by rw[hC'];simp
 have hlo:∀o,o≠id2->C'.loc o=C.loc o:=λo ho=>by rw[hC'];simp[ho]
 have hnx:C'.next=max C.next (id2+1):=by rw[hC']
 have hck:C'.clock=C.clock+1:=by rw[hC']
 clear hC';have step:Step C S1 w C' T w:=by
  refine⟨rfl,⟨rfl,Ag _⟩,rfl,Ag _,by omega,by omega,λb hlt hM=>⟨rfl,?_⟩,λo v1 hv=>?_⟩
  ·rintro⟨o,k,ho,hl⟩
   by_cases h2:o=id2
   ·subst h2;rw[hl2]at hl;exact hM ⟨id,k,by rw[hid];simp,hl⟩
   ·rw[hlo o h2]at hl;exact hM ⟨o,k,(hdead o h2 ho).1,hl⟩
  ·by_cases h2:o=id2
   ·subst h2;rw[hTn]at hv;cases hv;exact .inl (.inr (Ag _))
   ·exact .inr ⟨v1,hver o v1 h2 hv,Ag _,λ_=>hlo o h2⟩
 have mv:∀{p:PV} {u:Value},Rel C S1 w p u->Rel C' T w (xB id ver id2 C.clock p) u:=λhr=>Ztp hid step hTn hl2 ⟨by omega,by omega⟩ hr
 have mvl:∀{ds:List PV} {i:Nat} {p:PV},(ds.map (xB id ver id2 C.clock))[i]?=some p->∃q,ds[i]?=some q/\p=xB id ver id2 C.clock q:=by
  intro ds i p hp;rw[Aj,Ap]at hp;obtain⟨q,h1,h2⟩:=hp;exact⟨q,h1,h2.symm⟩
 have sim:Sim C' T w:=by
  refine⟨λo ho=>?_,λo v hv=>?_,λo o' b k k' h1 h2 h3 h4=>?_,λo v0 e0 ds ho=>?_,λo v0 es ho=>?_⟩
  ·by_cases h2:o=id2
   ·omega
   ·have:=hS.lt o (hdead o h2 ho).1;omega
  ·by_cases h2:o=id2
   ·subst h2;rw[hTn]at hv;cases hv;omega
   ·have:=hS.clk o v (hver o v h2 hv);omega
  ·by_cases q1:o=id2<;>by_cases q2:o'=id2
   ·omega
   ·subst q1;rw[hl2]at h3;rw[hlo o' q2]at h4;obtain⟨d1,d2⟩:=hdead o' q2 h2;exact absurd (hS.dist id o' b k k' (by rw[hid];simp) d1 h3 h4).symm d2
   ·subst q2;rw[hl2]at h4;rw[hlo o q1]at h3;obtain⟨d1,d2⟩:=hdead o q1 h1;exact absurd (hS.dist o id b k k' d1 (by rw[hid];simp) h3 h4) d2
   ·rw[hlo o q1]at h3;rw[hlo o' q2]at h4;exact hS.dist o o' b k k' (hdead o q1 h1).1 (hdead o' q2 h2).1 h3 h4
  ·by_cases h2:o=id2
   ·subst h2;rw[hTn]at ho;cases ho;rw[hl2];rcases hS.cells id ver e cs hid with ⟨q1,q2⟩ | ⟨b,k,cc,g1,g2,g3,g4,g5,g6⟩
    ·exact .inl ⟨q1,by rw[q2];rfl⟩
    ·refine .inr ⟨b,k,cc,g1,g2,g3,by rw[List.length_map];exact g4,λi v hi hv=>g5 i v (by rw[List.length_map]at hi;exact hi) hv,λi p v hp hv=>?_⟩;obtain⟨q,q1,rfl⟩:=mvl hp;exact mv (g6 i q v q1 hv)
   ·have h1:=(hdead o h2 (by rw[ho];simp)).2;rw[hlo o h2];rcases hat o h1 h2 with q | q
    ·rw[q]at ho;rcases hS.cells o v0 e0 ds ho with hn | ⟨b,k,cc,g1,g2,g3,g4,g5,g6⟩
     ·exact .inl hn
     ·exact .inr ⟨b,k,cc,g1,g2,g3,g4,g5,λi p v hp hv=>(g6 i p v hp hv).mono step⟩
    ·rw[q]at ho;cases hs:S1 o with
     | dead=>rw[hs]at ho;cases ho
     | map v1 es=>rw[hs]at ho;cases ho
     | cells v1 e1 ds1 =>
      rw[hs]at ho;cases ho;rcases hS.cells o _ _ ds1 hs with ⟨q1,q2⟩ | ⟨b,k,cc,g1,g2,g3,g4,g5,g6⟩
      ·exact .inl ⟨q1,by rw[q2];rfl⟩
      ·refine .inr ⟨b,k,cc,g1,g2,g3,by rw[List.length_map];exact g4,λi v hi hv=>g5 i v (by rw[List.length_map]at hi;exact hi) hv,λi p v hp hv=>?_⟩;obtain⟨q,q1,rfl⟩:=mvl hp;exact mv (g6 i q v q1 hv)
  ·have h2:o≠id2:=by rintro rfl;rw[hTn]at ho;cases ho
   have h1:=(hdead o h2 (by rw[ho];simp)).2;have hs:S1 o=.map v0 es:=by
    rcases hat o h1 h2 with q | q
    ·rw[<-q];exact ho
    ·cases hs:S1 o with
     | dead=>rw[q,hs]at ho;cases ho
     | map v1 es1=>rw[q,hs]at ho;exact ho
     | cells v1 e1 ds1=>rw[q,hs]at ho;cases ho
   obtain⟨b,k,ms,cl,g1,g2,g3,g4⟩:=hS.maps o v0 es hs;exact⟨b,k,ms,cl,by rw[hlo o h2];exact g1,g2,g3,λi x m he hm=>⟨(g4 i x m he hm).1,(g4 i x m he hm).2.mono step⟩⟩
 refine wpIn_mono (h C' w a ⟨sim,st.size,λi=>mv (st.fr i),r.keep step st.v⟩) ?_;rintro e a' w' ⟨F2,S2,C2,h1,h2,h3,h4⟩;exact⟨F2,S2,C2,h1,h2,h3,step.trans h4⟩
end Go.Proofs.YtcocagkbfpgmiaaGreatDoor.Pv
