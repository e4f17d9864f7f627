/- Part of a proof, packed. -/
import Derived.Test.YtcnbiofjmioaiaaGreatE3
set_option maxRecDepth 100000
set_option maxHeartbeats 3200000
namespace Go.Proofs.YtcnbiofjmioaiaaGreat.Pv
open Go Hp
abbrev yy:PV:=.sc (.slice none 0 0)
open Go Hp
def Z6 (pl:PV):Prop:=pl=yy\/∃n cs,pl=.lst n cs
theorem Z7 (l:List Stop):Z6 (L l):=.inr ⟨_,_,rfl⟩
abbrev YR (x:Inst) (b:Int):PV:=.fn (.func 208) [] [.ip (zv x),.ip [I b]]
abbrev Vh (x:Inst) (pl:PV) (b:Int):List PV:=[.fn (.func 209) [] [.ip [pl]],.fn (.func 211) [] [.ip [YR x b],.ip (zv x),.ip [pl]],.fn (.func 213) [] [.ip [YR x b],.ip [pl]],.fn (.func 214) [] [.ip (zv x),.ip [pl],.ip [YR x b]]]
theorem ZiT (x:Inst) (pl:PV) (b:Int) (hp:Z6 pl):Pure Tryz.prog 168 [.agg (zv x),pl,I b] (.fn (.func 216) [] [.ip [.lst 4 (Vh x pl b)]]):=by
 rcases hp with rfl | ⟨n,cs,rfl⟩
 all_goals
  refine zz Tryz.func168 Tryz.ntmps168 Tryz.results168 fun S nx hd=>?_
  refine za (zb ?_)
  intro v0 v1 v2
  refine jR 0 rfl ?_
  refine jR 1 rfl ?_
  refine jR 2 rfl ?_
  refine za (zb ?_)
  intro v3
  refine jR 3 rfl ?_
  refine za (zb ?_)
  intro v4
  refine jR 4 rfl ?_
  refine za (zb ?_)
  exact zg (zk hd (by simp;rfl) rfl)
theorem ZiU (pl:PV) (d:zj) (hp:Z6 pl) (hA:Pure Tryz.prog 210 [pl] (.agg [L d])):Pure Tryz.prog 209 [.ip [pl]] (.tup [.agg [L d],B true]):=by
 rcases hp with rfl | ⟨n,cs,rfl⟩
 all_goals
  refine zz Tryz.func209 Tryz.ntmps209 Tryz.results209 fun S nx hd=>?_
  refine za (zb ?_)
  intro v0
  refine za (zb ?_)
  refine zA hA ?_
  exact zg (zk hd (by simp;rfl) rfl)
theorem Vi (x:Inst) (b:Int) (d e:zj) (n:Int) (hI:Pure Tryz.prog 62 [.agg (zv x),.agg [L d],I b] (.tup [.agg [L e],I n])):Pure Tryz.prog 208 [.agg [L d],.ip (zv x),.ip [I b]] (.agg [L e]):=by
 refine zz Tryz.func208 Tryz.ntmps208 Tryz.results208 fun S nx hd=>?_
 refine za (zb ?_)
 intro v0 v1
 refine za (zb ?_)
 refine zA hI ?_
 refine za (zb ?_)
 exact zg (zk hd (by simp;rfl) rfl)
theorem ZiV (x:Inst) (pl:PV) (b:Int) (d e:zj) (n:Int) (hp:Z6 pl) (hJ:Pure Tryz.prog 212 [.agg (zv x),pl] (.agg [L d])) (hI:Pure Tryz.prog 62 [.agg (zv x),.agg [L d],I b] (.tup [.agg [L e],I n])):Pure Tryz.prog 211 [.ip [YR x b],.ip (zv x),.ip [pl]] (.tup [.agg [L e],B true]):=by
 have hF:=Vi x b d e n hI
 rcases hp with rfl | ⟨n,cs,rfl⟩
 all_goals
  refine zz Tryz.func211 Tryz.ntmps211 Tryz.results211 fun S nx hd=>?_
  refine za (zb ?_)
  intro v0
  refine za (zF (some []) (Row.pures [0,1,2,3,4] (.alt 5 (Row.pures [6] .done) .stop)) mixed trivial ?_)
  refine zN (hJ) trivial ?_
  refine zN (hF) trivial ?_
  exact zg (zk hd (by simp;rfl) rfl)
theorem ZiW (x:Inst) (pl:PV) (b:Int) (d e:zj) (n:Int) (hp:Z6 pl) (hA:Pure Tryz.prog 210 [pl] (.agg [L d])) (hI:Pure Tryz.prog 62 [.agg (zv x),.agg [L d],I b] (.tup [.agg [L e],I n])):Pure Tryz.prog 213 [.ip [YR x b],.ip [pl]] (.tup [.agg [L e],B true]):=by
 have hF:=Vi x b d e n hI
 rcases hp with rfl | ⟨n,cs,rfl⟩
 all_goals
  refine zz Tryz.func213 Tryz.ntmps213 Tryz.results213 fun S nx hd=>?_
  refine za (zb ?_)
  intro v0
  refine za (zF (some []) (Row.pures [0,1,2,3] (.alt 4 (Row.pures [5] .done) .stop)) mixed trivial ?_)
  refine zN (hA) trivial ?_
  refine zN (hF) trivial ?_
  exact zg (zk hd (by simp;rfl) rfl)
theorem ZcD (x:Inst) (pl:PV) (b:Int) (d e:zj) (ok:Bool) (n:Int) (hp:Z6 pl) (hR:Pure Tryz.prog 215 [.agg (zv x),pl] (.tup [.agg [L d],B ok])) (hI:ok=true->Pure Tryz.prog 62 [.agg (zv x),.agg [L d],I b] (.tup [.agg [L e],I n])) :
  Pure Tryz.prog 214 [.ip (zv x),.ip [pl],.ip [YR x b]] (.tup [.agg [bif ok then L e else yy],B ok]):=by
 rcases hp with rfl | ⟨n,cs,rfl⟩
 all_goals
  cases ok with
  | false =>
   refine zz Tryz.func214 Tryz.ntmps214 Tryz.results214 fun S nx hd=>?_
   refine za (zb ?_)
   intro v0
   refine za (zb ?_)
   refine zA hR ?_
   intro v1
   repeat apply za
   refine zb ?_
   refine zm rfl (za (zb ?_))
   exact zg (zk hd (by simp;rfl) rfl)
  | true =>
   have hF:=Vi x b d e _ (hI rfl)
   refine zz Tryz.func214 Tryz.ntmps214 Tryz.results214 fun S nx hd=>?_
   refine za (zb ?_)
   intro v0
   refine za (zb ?_)
   refine zA hR ?_
   intro v1
   repeat apply za
   refine zb ?_
   refine zo rfl (zh (za (zb ?_)))
   refine zA hF ?_
   exact zg (zk hd (by simp;rfl) rfl)
theorem ZiX (fs:List PV) (rs:List (Option zj)) (hl:rs.length=fs.length) (hn:fs.length<=1000)
  (h:∀(k:Nat) f,fs[k]?=some f->∃fk caps p,f=.fn (.func fk) [] caps/\Pure Tryz.prog fk caps (.tup [.agg [p],B (rs.getD k none).isSome])/\∀d,rs.getD k none=some d->p=L d) :
  Zi Tryz.prog 216 [.ip [.lst fs.length fs]] ((rs.filterMap id).map fun d=>[.agg [L d]]):=by
 refine QE Tryz.func216 (by rfl) rfl Tryz.ntmps216 (congrArg Array.toList Tryz.results216) (by simp) fun l V keep nx J hJd hY A0 hA0=>?_
 refine za (zb ?_)
 refine zi (yP (σ:=Nat × Store) (fun s=>s.1<=fs.length/\J ((rs.take s.1).filterMap id).length s.2) (fun s=>[(0,jf l),(7,.lst fs.length fs),(8,I fs.length),(9,I s.1)]) (fun s=>s.2) (fun s=>[]) (fun s=>fs.length-s.1) (zD (0,A0) [] (by simp [hA0]) (by simp) rfl (by simp)) ?_)
 rintro ⟨k,A⟩ ⟨hk,hJ⟩
 simp only at hk hJ ⊢
 refine za (zb ?_)
 refine za (zr rfl (fun hc=>?_) (fun hc=>?_))
 ·simp at hc
  have e0:fs.drop k=fs[k] :: fs.drop (k+1):=List.drop_eq_getElem_cons hc
  obtain ⟨fk,caps,p,hf,hP,hd⟩:=h k fs[k] (List.getElem?_eq_getElem hc)
  rw [hf] at e0
  have hkr:k<rs.length:=by omega
  have htk:rs.take (k+1)=rs.take k++[rs[k]]:=List.take_succ_eq_append_getElem hkr
  have hg:rs.getD k none=rs[k]:=by rw [List.getD_eq_getElem?_getD,List.getElem?_eq_getElem hkr];rfl
  rw [hg] at hP hd
  refine zh (za (zi (za (ze [] (zn e0 hc) ?_))))
  cases hr:rs[k] with
  | none =>
   rw [hr] at hP htk
   simp only [Option.isSome_none] at hP
   have hlen:((rs.take (k+1)).filterMap id).length=((rs.take k).filterMap id).length:=by rw [htk];simp
   refine za (zb ?_)
   refine zA hP ?_
   intro v0
   refine za (ze [(1,19)] zx ?_)
   refine zo rfl (zh (zb ?_))
   exact zq (k+1,A) [_] ⟨hc,by rw [hlen];exact hJ⟩ (by simp;omega) (by simp [zt k (by omega)]) rfl (by simp;rfl)
  | some d =>
   obtain rfl:=hd d hr
   rw [hr] at hP htk
   simp only [Option.isSome_some] at hP
   have hlen:((rs.take (k+1)).filterMap id).length=((rs.take k).filterMap id).length+1:=by rw [htk];simp
   have hx:((rs.filterMap id).map fun d=>[PV.agg [L d]])[((rs.take k).filterMap id).length]?=some [PV.agg [L d]]:=by
    have e1:rs.filterMap id=(rs.take k).filterMap id++(d :: (rs.drop (k+1)).filterMap id):=by
     conv=>lhs;rw [<-List.take_append_drop k rs,List.drop_eq_getElem_cons hkr,hr]
     simp
    rw [List.getElem?_map,e1,List.getElem?_append_right (Nat.le_refl _),Nat.sub_self]
    rfl
   refine za (zb ?_)
   refine zA hP ?_
   intro v0
   refine za (z8 [(1,19)] (by rfl) (by rfl) fun K Gc Gh hK hGc hGh X hX0 hX=>?_)
   simp -implicitDefEqProofs [hX0,hX]
   try clear hX0 hX X
   refine hGh _ _ _ _ _ fun hsuf=>YD rfl rfl rfl (hY _ _ _ _ hx hJ) ?_
   rintro _ ⟨A',hJ',rfl⟩
   refine ⟨_,_,rfl,?_⟩
   clear hGc hGh
   clear Gc Gh
   refine zW hsuf (D:=[(1,19)]) (by rfl) fun Gc Gh hGc hGh X hX0 hX=>?_
   simp -implicitDefEqProofs [hX0,hX]
   try clear hX0 hX X
   refine hK _ _ _ ?_
   clear hK hGc hGh
   clear K Gc Gh
   refine zo rfl (zh (zb ?_))
   exact zq (k+1,A') [_] ⟨hc,by rw [hlen];exact hJ'⟩ (by simp;omega) (by simp [zt k (by omega)]) rfl (by simp;rfl)
 ·simp at hc
  obtain rfl:k=fs.length:=by omega
  rw [<-hl,List.take_length] at hJ
  refine zu (wX (hJd _ _ hJ) rfl ?_)
  simpa using hJ
def jA (x:Inst) (st:zj × Int × Bool) (d:zj):zj × Int × Bool:=if yh x d=0 then (if st.2.2=false\/W (yi x d)<st.2.1 then (d,W (yi x d),true) else st) else st
def wL (x:Inst) (ds:List zj):zj × Int × Bool:=ds.foldl (jA x) ([],0,false)
open Go Hp
theorem ZiY {K:(Nat->PV)->Store->Prop} {Q:Exit->(Nat->PV)->Store->Prop} {i:Nat} {F:Nat->PV} {S:Store} (h:Q (.exit i) F S):uG K Q (.exit i) F S:=h
theorem ZiZ {Q:Exit->(Nat->PV)->Store->Prop} {i:Nat} {F:Nat->PV} {S:Store} (h:Q .normal F S):qz i Q (.exit i) F S:=by simp [qz,h]
def jT (x:Inst) (e:Int) (ds:List zj):zj × Int:=if e=0 then (bif (wL x ds).2.2 then ((wL x ds).1,0) else ([],14)) else ([],e)
theorem ZcE (x:Inst) (pl:PV) (b e:Int) (ds:List zj) (hp:Z6 pl) (hx:x.cust.length<=1048576) (hF:Pure Tryz.prog 167 [.agg (zv x),pl] (I e))
  (hit:e=0->Zi Tryz.prog 216 [.ip [.lst 4 (Vh x pl b)]] (ds.map fun d=>[.agg [L d]])) (hds:e=0->∀d∈ds,DayOk d/\d.flatten.length<=1048576) :
  Pure Tryz.prog 126 [.agg (zv x),pl,I b] (.tup [.agg [L (jT x e ds).1],I (jT x e ds).2]):=by
 have hT:=ZiT x pl b hp
 refine zz Tryz.func126 Tryz.ntmps126 Tryz.results126 fun S nx hd=>?_
 refine za (zb ?_)
 intro v0 v1
 repeat apply za
 refine zb ?_
 refine zA hF ?_
 by_cases he:e=0
 case neg =>
  refine za (zb ?_)
  refine zm (by simp [he]) ?_
  refine za (zb ?_)
  refine uN 1 0 rfl rfl ?_
  exact zg (zk hd (by simp;rfl) (by simp [jT,he,zp]))
 subst he
 have hit:=hit rfl
 have hds:=hds rfl
 refine za (zb ?_)
 refine zo (by simp) ?_
 refine zh (za (zb ?_))
 intro v2 v3 v4
 refine uN 2 0 rfl rfl ?_
 repeat apply za
 refine zb ?_
 refine zA hT ?_
 refine zi (YE (xs:=ds.map fun d=>[PV.agg [L d]]) (σ:=zj × Int × Bool) (fun i s=>s=(ds.take i).foldl (jA x) ([],0,false)/\i<=ds.length) [(3,.ptr nx v0 0),(6,.ptr (nx+1) v1 0),(7,I 0),(9,.ptr (nx+2) v2 0),(10,.ptr (nx+3) v3 0),(11,.ptr (nx+4) v4 0)] (fun _=>S)
  (fun (best,least,found)=>[.cells v0 25 (zv x),.cells v1 58 [yy],.cells v2 58 [L best],.cells v3 3 [I least],.cells v4 4 [B found]]) ([],0,false)
  hit rfl (by intro x hx;obtain ⟨y,_,rfl⟩:=List.mem_map.1 hx;rfl) (by decide) (by simp) ⟨by simp,by simp⟩ rfl (by simp) (by simp) ?_ ?_)
 ·rintro l i ⟨best,least,found⟩ more y ⟨hst,hi⟩ hy
  simp only at hst hi ⊢
  rw [List.getElem?_map] at hy
  obtain ⟨d,hd',rfl⟩:=Option.map_eq_some_iff.1 hy
  obtain ⟨hil,hdi⟩:=List.getElem?_eq_some_iff.1 hd'
  obtain ⟨hdo,hdf⟩:=hds d (List.mem_of_getElem? hd')
  have hday:=Zcc x d hx hdo.1 hdo.2 hdf
  have hcost:=YM x d hdo
  have hsucc:(ds.take (i+1)).foldl (jA x) ([],0,false)=jA x (best,least,found) d:=by
   rw [List.take_succ_eq_append_getElem hil,hdi,List.foldl_append,<-hst];rfl
  unfold jA at hsucc
  simp only at hsucc
  refine zb ?_
  intro v5
  refine zi ?_
  repeat apply za
  refine zb ?_
  refine zA hday ?_
  by_cases h1:yh x d=0
  ·rw [if_pos h1] at hsucc
   refine zo (by simp [h1]) ?_
   refine zh (za (zb ?_))
   refine zA hcost ?_
   generalize W (yi x d)=c at *
   cases found with
   | false =>
    rw [if_pos (.inl rfl)] at hsucc
    refine za (ze [(2,36)] zx ?_)
    refine zm rfl (zb ?_)
    simp only [qz]
    exact xA (d,c,true) [_] ⟨hsucc.symm,by omega⟩ rfl (by simp;rfl)
   | true =>
    by_cases h2:c<least
    ·rw [if_pos (.inr h2)] at hsucc
     refine za (ze [(2,36)] (zn h2 zx) ?_)
     refine zm rfl (zb ?_)
     simp only [qz]
     exact xA (d,c,true) [_] ⟨hsucc.symm,by omega⟩ rfl (by simp;rfl)
    ·rw [if_neg (by simp [h2])] at hsucc
     refine za (ze [(2,36)] (zn h2 zx) ?_)
     refine zo rfl (zh ?_)
     simp only [qz]
     exact xA (best,least,true) [_] ⟨hsucc.symm,by omega⟩ rfl (by simp;rfl)
  ·rw [if_neg h1] at hsucc
   refine zm (by simp [h1]) ?_
   refine zu (ZiY (ZiZ ?_))
   exact xA (best,least,found) [_] ⟨hsucc.symm,by omega⟩ rfl (by simp;rfl)
 ·rintro ⟨best,least,found⟩ ⟨hst,-⟩
  simp only [List.length_map,List.take_length] at hst ⊢
  have hz:wL x ds=(best,least,found):=hst.symm
  cases found with
  | false =>
   repeat apply za
   refine zb ?_
   refine zm rfl (za (zb ?_))
   refine uN 1 0 rfl rfl ?_
   exact zg (zk hd (by simp;rfl) (by simp [jT,hz,zp]))
  | true =>
   repeat apply za
   refine zb ?_
   refine zo rfl (zh (za (zb ?_)))
   exact zg (zk hd (by simp;rfl) (by simp [jT,hz,zp]))
open Go Hp
theorem ZcF (lk:List PV) (s:Stop) (hl:lk.length=13):Pure Tryz.prog 99 [.agg lk,.agg [I s.c,I s.q]] (.fn (.func 138) [] [.ip [I s.c,I s.q],.ip lk]):=by
 refine zz Tryz.func99 Tryz.ntmps99 Tryz.results99 fun S nx hd=>?_
 refine za (ze [] hl ?_)
 intro v0 v1
 refine za (zb ?_)
 refine jR 0 rfl ?_
 refine jR 1 rfl ?_
 exact zg (zk hd (by simp;rfl) rfl)
open Go Go.Lib Go.Proofs
theorem Z8:ElemOk Tryz.prog 31 35 (.agg #[.int .i64 0,.int .i64 0]) 16 :=
 ⟨Tryz.underlying31,by simp,by simp,by simp,by simp,by omega⟩
theorem ZcG (a:Addr) (n c:Nat) (w W2:World) (u:Value) (hrz:∀ty,(Builtin.append_ #[31,31] ty #[.slice (some ⟨w.heap.size,0,none⟩) 0 0,.slice (some a) n c]).run Tryz.prog (w.alloc (.cells #[] 35))=.ok u W2) :
  Calls Tryz.prog 105 #[.slice (some a) n c] w fun e w'=>e=.returned u/\w'=W2:=by
 have mixed:Tryz.prog.follows .mixedOrders=true:=by kernel_rfl
 have q22:∀(w:World) (a:Option Addr) (n c n' c':Nat),(binOp .eql 31 (.slice a n c) (.slice none n' c')).run Tryz.prog w=.ok (.bool a.isNone) w:=fun w a n c n' c'=>Lib.run_eql_slice_nil w _ _ a n c n' c' Tryz.underlying31
 go_enter Tryz.func105,Tryz.ntmps105
 go_wp2_with (at_builtin;refine Lib.wpList_append_run _ rfl _ _ _ _ rfl _ _ rfl rfl _ _ (hrz _) ?_)
 go_wp2
 go_ret
 exact ⟨rfl,rfl⟩
theorem Zi0 (n c:Nat) (w:World) :
  Calls Tryz.prog 105 #[.slice none n c] w fun e w'=>e=.returned (.slice none 0 0)/\w'=w:=by
 have mixed:Tryz.prog.follows .mixedOrders=true:=by kernel_rfl
 have q22:∀(w:World) (a:Option Addr) (n c n' c':Nat),(binOp .eql 31 (.slice a n c) (.slice none n' c')).run Tryz.prog w=.ok (.bool a.isNone) w:=fun w a n c n' c'=>Lib.run_eql_slice_nil w _ _ a n c n' c' Tryz.underlying31
 go_enter Tryz.func105,Tryz.ntmps105
 go_wp2
 go_ret
 exact ⟨rfl,rfl⟩
theorem Xm (l:List Stop) (h0:0<l.length) (hn:l.length<=1048576) (S:Store) (nx:Nat) (hd:S nx=.dead) :
  Spec Tryz.prog 105 [L l] S (fun p S'=>∃v,p=.sl nx v 2 0 l.length/\S'=S.set nx (.cells v 35 (l.flatMap Enc.enc))):=by
 refine ⟨qn Tryz.func105 (by rfl) rfl,?_⟩
 intro C w vs hS hl hr
 obtain ⟨u,rfl⟩:=WP hl
 have hu:Rel C S w (.lst l.length (l.flatMap Enc.enc)) u:=hr 0 _ u rfl rfl
 obtain ⟨a,cap,rfl⟩:∃a cap,u=.slice (some a) l.length cap:=by
  generalize hq:l.flatMap Enc.enc=cs at hu
  generalize l.length=n at *
  cases hu with
  | lst0=>omega
  | lst1=>exact ⟨_,_,rfl⟩
 obtain ⟨k1,j1,m1⟩:=hS.alloc (.cells #[] 35)
 have hc:Tryz.prog.cellsOf 35=2:=by simp
 obtain ⟨news,hsrc,hrel,_⟩:=JV (P:=Tryz.prog) (sz:=2) (m:=l.length) (ds:=l.flatMap Enc.enc) k1 (by simp [uI]) (hu.mono j1)
 rw [<-hc] at hsrc
 have hrun:=fun ty=>JU (P:=Tryz.prog) (ty:=ty) (b:=some ⟨w.heap.size,0,none⟩) (k:=0) (cap:=0) (olds:=[]) Z8.ty Z8.pos Z8.zero Z8.bytes hsrc (run_firstCells_some _ _ 0 ⟨w.heap.size,0,none⟩ 0 0 [] (by simp) (by simp)) (by omega) (by omega) Z8.bpos
 simp only [Nat.zero_add] at hrun
 refine (ZcG a l.length cap w _ _ hrun).mono ?_
 rintro e w' ⟨rfl,rfl⟩
 have hge:=grownCap_ge (w.alloc (.cells #[] 35)) l.length 0 35
 obtain ⟨d1,d2⟩:=k1.drew
 have hfr:Fresh C S nx C.clock:=.clock C hd
 have hra:=Ys (cs:=[]) (vs:=[]) (by simp [RelL]) hrel (Builtin.zeroCells (Value.agg #[.int .i64 0,.int .i64 0]).cells (grownCap (w.alloc (.cells #[] 35)) l.length 0 35-l.length)).toList
 simp only [List.nil_append] at hra
 have hget:∀i:Nat,(([]:List Value).toArray++news.toArray++Builtin.zeroCells (Value.agg #[.int .i64 0,.int .i64 0]).cells (grownCap (w.alloc (.cells #[] 35)) l.length 0 35-l.length):Array Value)[i]?=(news++(Builtin.zeroCells (Value.agg #[.int .i64 0,.int .i64 0]).cells (grownCap (w.alloc (.cells #[] 35)) l.length 0 35-l.length)).toList)[i]?:=by
  intro i;rw [<-Array.getElem?_toList];simp
 obtain ⟨t1,t2⟩:=d1.object' hfr 35 (([]:List Value).toArray++news.toArray++Builtin.zeroCells (Value.agg #[.int .i64 0,.int .i64 0]).cells (grownCap (w.alloc (.cells #[] 35)) l.length 0 35-l.length)) (l.flatMap Enc.enc) (by have:=hra.1;simp at this ⊢;omega) (fun i v hi hv=>hra.2.1 i v hi (by rw [<-hget];exact hv)) (fun i p v hp hv=>(hra.2.2 i p v hp (by rw [<-hget];exact hv)).mono d2)
 refine ⟨_,_,_,_,rfl,⟨C.clock,rfl,rfl⟩,Qx C S _ _ _ _ _ _ _ _ _ rfl hge (Nat.le_trans hn (by unfold qV;omega)) (grownCap_le_maxLen _ _ _ _ (by unfold maxLen;omega)) ?_,t1,j1.trans (d2.trans t2)⟩
 have:=hsrc.size
 simp only [Array.size_append,size_zeroCells,List.size_toArray,this,hc]
 simp [Value.cells]
 omega
theorem QX (l:List Stop) (hn:l.length<=1048576):Pure Tryz.prog 105 [L l] (L l):=by
 by_cases h0:0<l.length
 ·exact J3 0 (fun S nx hd=>Xm l h0 hn S nx (hd nx (Nat.le_refl _))) (by simp)
 ·obtain rfl:l=[]:=List.eq_nil_of_length_eq_zero (by omega)
  intro S
  refine ⟨qn Tryz.func105 (by rfl) rfl,?_⟩
  intro C w vs hS hl hr
  obtain ⟨u,rfl⟩:=WP hl
  have hu:Rel C S w (.lst 0 []) u:=hr 0 _ u rfl rfl
  obtain ⟨a,cap,rfl⟩:∃a cap,u=.slice a 0 cap:=by
   cases hu with
   | lst0=>exact ⟨_,_,rfl⟩
   | lst1=>exact ⟨_,_,rfl⟩
  cases a with
  | none =>
   refine (Zi0 0 cap w).mono ?_
   rintro e w' ⟨rfl,rfl⟩
   exact ⟨_,_,_,_,rfl,⟨rfl,rfl⟩,.lst0,hS,.refl _ _ _⟩
  | some a =>
   obtain ⟨k1,j1,m1⟩:=hS.alloc (.cells #[] 35)
   have hc:Tryz.prog.cellsOf 35=2:=by simp
   obtain ⟨news,hsrc,hrel,_⟩:=JV (P:=Tryz.prog) (sz:=2) (m:=0) (ds:=[]) k1 (by simp [uI]) (hu.mono j1)
   have hne:news=[]:=List.eq_nil_of_length_eq_zero (by rw [hsrc.size,Nat.zero_mul])
   subst hne
   rw [<-hc] at hsrc
   have hrun:=fun ty=>Wl (P:=Tryz.prog) (ty:=ty) (b:=some ⟨w.heap.size,0,none⟩) (k:=0) (cap:=0) Z8.ty Z8.pos hsrc (Nat.le_refl 0)
   refine (ZcG a 0 cap w _ _ hrun).mono ?_
   rintro e w' ⟨rfl,rfl⟩
   exact ⟨_,_,_,_,rfl,⟨rfl,rfl⟩,.lst0,k1,j1⟩
theorem Zi1 {S:Store} {id ver:Nat} (cs:List Stop) (s:Stop) (hn:cs.length<=1000000) (hid:S id=.cells ver 35 (cs.flatMap Enc.enc)) :
  Spec Tryz.prog 102 [.sl id ver 2 0 cs.length,I cs.length,L [s]] S (fun p S'=>p=.sl id (ver+1) 2 0 (cs.length+1)/\S'=S.set id (.cells (ver+1) 35 ((cs++[s]).flatMap Enc.enc))):=by
 refine qO Tryz.func102 Tryz.ntmps102 Tryz.results102 fun nx hd=>?_
 have hlt:id<nx:=by
  rcases Nat.lt_or_ge id nx with h | h
  ·exact h
  ·have:=hd id h;rw [hid] at this;cases this
 have hx:=fun obs=>(zH (S:=S) (obs:=obs) hlt).trans hid
 have hlt1:¬nx<=id:=by omega
 refine za (ze [] hx ?_)
 refine za (ze [] hx ?_)
 refine za (ze [] hx ?_)
 repeat apply za
 refine ze [] hx ?_
 refine zo rfl (zh (za (ze [] hx ?_)))
 repeat apply za
 refine ze [] hx ?_
 refine zm rfl (za (ze [] (zn hx hlt1) ?_))
 refine ⟨by omega,?_⟩
 have hdd:∀(o:Ob),zQ nx (S.set id o):=by
  intro o q hq
  rw [Store.set_other _ _ _ _ (by omega)]
  exact hd q hq
 exact zg ⟨_,_,by simp;rfl,⟨by simp [zp],by simp⟩,zU (hdd _)⟩
theorem Zi2 {S:Store} {id ver:Nat} (cs:List Stop) (i:Nat) (s:Stop) (hi:i<=cs.length) (hn:cs.length<=1000000) (hid:S id=.cells ver 35 (cs.flatMap Enc.enc)) :
  Spec Tryz.prog 102 [.sl id ver 2 0 cs.length,I i,L [s]] S (fun p S'=>p=.sl id (ver+1) 2 0 (cs.length+1)/\S'=S.set id (.cells (ver+1) 35 ((cs.take i++s :: cs.drop i).flatMap Enc.enc))):=by
 by_cases h:i=cs.length
 ·subst h
  rw [List.take_length,List.drop_length]
  exact Zi1 cs s hn hid
 ·exact Zg1 cs i s (by omega) hn hid
open Go Go.Proofs
def Z9 (d:zj) (t nx:Nat) (k:Nat) (ts:List PV) (ob:Ob):Prop :=
 ts.length=k/\(k<=t->ts=(d.take k).flatMap Enc.enc/\ob=.dead) /\
 (t<k->∃v l,d[t]?=some l/\ts=((d.take k).flatMap Enc.enc).set t (.sl (nx+4) v 2 0 l.length)/\ob=.cells v 35 (l.flatMap Enc.enc))
theorem Zi3 {d:zj} {t nx k:Nat} {ts:List PV} {ob:Ob} (h:Z9 d t nx k ts ob) (hk:k<d.length) (ht:k≠t):Z9 d t nx (k+1) (ts++[L d[k]]) ob:=by
 obtain ⟨h1,h2,h3⟩:=h
 have e:d.take (k+1)=d.take k++[d[k]]:=List.take_succ_eq_append_getElem hk
 refine ⟨by simp [h1],fun hkt=>?_,fun hkt=>?_⟩
 ·obtain ⟨a,b⟩:=h2 (by omega)
  exact ⟨by rw [e,a,List.flatMap_append];rfl,b⟩
 ·obtain ⟨v,l,a,b,c⟩:=h3 (by omega)
  refine ⟨v,l,a,?_,c⟩
  rw [b,e,List.flatMap_append,List.set_append_left _ _ (by rw [jg];simp;omega)]
  rfl
theorem Zi4 {d:zj} {t nx:Nat} {ts:List PV} {ob:Ob} (h:Z9 d t nx t ts ob) (hk:t<d.length) (v:Nat):Z9 d t nx (t+1) (ts++[.sl (nx+4) v 2 0 d[t].length]) (.cells v 35 (d[t].flatMap Enc.enc)):=by
 obtain ⟨h1,h2,h3⟩:=h
 have e:d.take (t+1)=d.take t++[d[t]]:=List.take_succ_eq_append_getElem hk
 refine ⟨by simp [h1],fun hkt=>by omega,fun _=>⟨v,d[t],List.getElem?_eq_getElem hk,?_,rfl⟩⟩
 obtain ⟨a,-⟩:=h2 (Nat.le_refl _)
 have hl:((d.take t).flatMap Enc.enc).length=t:=by rw [jg];simp;omega
 rw [a,e,List.flatMap_append,List.set_append_right _ _ (by omega),hl,Nat.sub_self]
 rfl
theorem Vj (d:zj) (t:Nat) (hd0:d.length<=1048576) (hd1:∀l∈d,l.length<=1048576) (ht:∀l,d[t]?=some l->0<l.length) (S:Store) (nx:Nat) (hd:zQ nx S) :
  Spec Tryz.prog 100 [.agg [L d]] S (fun p S'=>∃v ts ob,Z9 d t nx d.length ts ob/\p=.agg [.sl (nx+3) v 1 0 d.length]/\S'=(S.set (nx+3) (.cells v 72 ts)).set (nx+4) ob):=by
 refine uc hd Tryz.func100 Tryz.ntmps100 Tryz.results100 ?_
 refine za (zb ?_)
 intro v0 v1
 refine za (zb ?_)
 intro v2
 refine y8 2 0 72 1 rfl rfl fun v3=>?_
 repeat apply za
 refine zb ?_
 show PW _ _ _ _ _ _ _ (ext _ _ _)
 rw [Zbz 1]
 refine zi (zB (fun (s:Nat × List PV × Ob × Nat × Nat)=>s.1<=d.length/\Z9 d t nx s.1 s.2.1 s.2.2.1) (fun (k,ts,ob,v2,v3)=>[(2,.ptr (nx+1) v1 0),(3,.ptr (nx+2) v2 0),(7,L d),(8,I d.length),(9,I k)]) (fun (k,ts,ob,v2,v3)=>[.cells v0 58 [L d],.cells v1 58 [yy],.cells v2 58 [.sl (nx+3) v3 1 0 k],.cells v3 72 ts,ob]) (fun s=>d.length-s.1) (0,[],.dead,v2,v3) [] ⟨by simp,by simp [Z9]⟩ (by simp) (by simp) ?_)
 rintro ⟨k,ts,ob,v2,v3⟩ ⟨hk,hI⟩
 simp only at hk hI ⊢
 have htl:=hI.1
 have htk:ts.take k=ts:=List.take_of_length_le (by omega)
 refine za (zb ?_)
 refine za (zr rfl (fun hc=>?_) (fun hc=>?_))
 ·simp at hc
  obtain ⟨l,tl,a1,a2,a3,e0⟩:=zC rfl d k hc
  obtain ⟨hkl,rfl⟩:=List.getElem?_eq_some_iff.1 a1
  have hk1:1<=d.length-k:=by omega
  refine zh (za (zi (za (ze [] (zE hc e0 hk1) ?_))))
  intro v5
  by_cases hkt:k=t
  ·subst hkt
   have hcl:=Xm d[k] (ht _ a1) (hd1 _ (List.getElem_mem hkl))
   obtain rfl:=(hI.2.1 (Nat.le_refl _)).2
   refine wG (some [nx+5]) (Row.pures [0,2,3] (.alt 1 (.alt 4 (Row.pures [5,6] (.alt 7 (Row.pures [8] (.alt 9 (.done) .stop)) .stop)) .stop) (.alt 4 (Row.pures [5,6] (.alt 1 (.alt 7 (Row.pures [8] (.alt 9 (.done) .stop)) .stop) .stop)) .stop))) mixed (by rfl) (by rfl) (by rfl) fun K Gp Gc Gh hK hGp hGc hGh X hX0 hX1 hX2 hX=>?_
   simp -implicitDefEqProofs [hX0,hX1,hX2,hX,htl,htk]
   try clear hX0 hX1 hX2 hX X
   refine ⟨?_,?_⟩
   all_goals
    refine hGc _ _ _ _ _ _ _ ?_
    refine ((hcl _ (nx+4) (by simp)).mono ?_).v
    rintro _ _ ⟨v4,rfl,rfl⟩
    rw [qA _ (by omega) (by simp),Nat.add_sub_cancel_left]
    refine ⟨by simp [yB],?_⟩
    clear hGp hGc hGh
    clear Gp Gc Gh
    refine jm fun Gp Gc Gh hGp hGc hGh X hX0 hX1 hX2 hX=>?_
    simp -implicitDefEqProofs [hX0,hX1,hX2,hX,htl,htk]
    try clear hX0 hX1 hX2 hX X
    refine ⟨by omega,?_⟩
    refine hK _ _ _ ?_
    clear hK hGp hGc hGh
    clear K Gp Gc Gh
    refine zb ?_
    exact zq (k+1,_,_,v2,v3+1) [_] ⟨hc,Zi4 hI hkl v4⟩ (by simp;omega) (by simp [zt k (by omega)]) rfl (by simp;rfl)
  ·have hcl:=QX d[k] (hd1 _ (List.getElem_mem hkl))
   refine zF (some [nx+5]) (Row.pures [0,2,3,4,5,6] (.alt 1 (.alt 7 (Row.pures [8] (.alt 9 (.done) .stop)) .stop) .stop)) mixed (zn htl htk) ?_
   refine zN (hcl) (zn htl htk) ?_
   refine ⟨by omega,?_⟩
   refine zb ?_
   exact zq (k+1,_,_,v2,v3+1) [_] ⟨hc,Zi3 hI hkl hkt⟩ (by simp;omega) (by simp [zt k (by omega)]) rfl (by simp;rfl)
 ·simp at hc
  obtain rfl:k=d.length:=by omega
  refine zu (za (zb ?_))
  refine zg ⟨_,(S.set (nx+3) (.cells v3 72 ts)).set (nx+4) ob,by simp;rfl,⟨v3,ts,ob,hI,rfl,rfl⟩,?_⟩
  intro o
  by_cases h4:o=nx+4
  ·subst h4
   exact .inl (by rw [Store.set_same];simp)
  by_cases h3:o=nx+3
  ·subst h3
   exact .inl (by rw [Store.set_other _ _ _ _ h4,Store.set_same];simp)
  rw [Store.set_other _ _ _ _ h4,Store.set_other _ _ _ _ h3]
  exact zU hd o
theorem Zi5 (d:zj) (hd0:d.length<=1048576) (hd1:∀l∈d,l.length<=1048576):Pure Tryz.prog 100 [.agg [L d]] (.agg [L d]):=by
 refine Zby (k:=d.length) (sz:=1) (e:=72) (cs:=d.flatMap Enc.enc) 3 (fun S nx hd=>(Vj d d.length hd0 hd1 (by simp) S nx hd).mono ?_) (by simp)
 rintro _ _ ⟨v,ts,ob,⟨h1,h2,-⟩,rfl,rfl⟩
 obtain ⟨rfl,rfl⟩:=h2 (Nat.le_refl _)
 rw [List.take_length]
 refine ⟨v,rfl,?_⟩
 funext o
 by_cases h4:o=nx+4
 ·subst h4
  rw [Store.set_same,Store.set_other _ _ _ _ (by omega),hd _ (by omega)]
 ·rw [Store.set_other _ _ _ _ h4]
theorem Zi6 (d:zj) (t:Nat) (l:zG) (hd0:d.length<=1048576) (hd1:∀l∈d,l.length<=1048576) (ht:d[t]?=some l) (hl:0<l.length) (S:Store) (nx:Nat) (hd:zQ nx S) :
  Spec Tryz.prog 100 [.agg [L d]] S (fun p S'=>∃v w,p=.agg [.sl (nx+3) v 1 0 d.length] /\
   S'=(S.set (nx+3) (.cells v 72 ((d.flatMap Enc.enc).set t (.sl (nx+4) w 2 0 l.length)))).set (nx+4) (.cells w 35 (l.flatMap Enc.enc))):=by
 refine (Vj d t hd0 hd1 (fun m hm=>by rw [ht] at hm;cases hm;exact hl) S nx hd).mono ?_
 rintro _ _ ⟨v,ts,ob,⟨h1,-,h3⟩,rfl,rfl⟩
 obtain ⟨w,m,hm,rfl,rfl⟩:=h3 (List.getElem?_eq_some_iff.1 ht).1
 rw [ht] at hm;cases hm
 rw [List.take_length]
 exact ⟨v,w,rfl,rfl⟩
open Go Go.Proofs
def qI (x:Inst) (t:zG):Int:=W (yc x (t.map (·.c)))
def qJ (t:zG):Int:=W (zO t)
def yO (x:Inst) (d:zj):Nat:=(d.filter fun t=>decide (zK x t≠0)).length
theorem Zi7 (x:Inst) (d e:zj):yO x (d++e)=yO x d+yO x e:=by simp [yO]
theorem Zi8 (x:Inst) (t:zG):yO x [t]=if zK x t=0 then 0 else 1:=by
 by_cases h:zK x t=0<;>simp [yO,h]
theorem ZcH (x:Inst) (d:zj):yO x d<=d.length:=List.length_filter_le _ _
abbrev vx (x:Inst) (d:zj):List PV:=[I x.days,I x.veh,I x.cap,I x.len,L x.cust,L x.dist,L d,L (yK (d.flatten.map (·.c))),B (decide (¬(yK (d.flatten.map (·.c))).Nodup)),L (d.map (zK x)),I (yO x d),L (d.map qJ),L (d.map (qI x))]
theorem ZcI (x:Inst) (d:zj) (hx:x.cust.length<=1048576) (hdo:DayOk d) (hf:d.flatten.length<=1048576):Pure Tryz.prog 98 [.agg (zv x),.agg [L d]] (.agg (vx x d)):=by
 have h1:=Zb3 d hdo.1 hf
 have h2:=Zce d.flatten hf
 have h3:=Zcd (yK (d.flatten.map (·.c))) (by rw [Zj,List.length_map];exact hf) (QO _)
 generalize hon:yK (d.flatten.map (·.c))=on at *
 generalize htw:decide (¬on.Nodup)=tw at *
 refine zz Tryz.func98 Tryz.ntmps98 Tryz.results98 fun S nx hd=>?_
 refine za (zb ?_)
 intro v0 v1 v2
 refine za (zF (some [nx,nx+1]) (Row.pures [0,1,2,3,4,5] (.alt 6 (.alt 7 (.done) .stop) .stop)) mixed trivial ?_)
 refine zN (h1) trivial ?_
 refine zN (h2) trivial ?_
 intro v3
 refine za (zb ?_)
 refine zA h3 ?_
 repeat apply za
 refine zb ?_
 refine y8 3 9 39 1 rfl rfl fun v4=>?_
 refine y8 3 11 3 1 rfl rfl fun v5=>?_
 refine y8 3 12 3 1 rfl rfl fun v6=>?_
 refine zi (zB (fun (k,v4,v5,v6)=>k<=d.length) (fun (k,v4,v5,v6)=>[(2,.ptr nx v0 0),(4,.ptr (nx+2) v2 0),(5,.ptr (nx+3) v3 0),(20,L d),(21,I d.length),(22,I k)])
  (fun (k,v4,v5,v6)=>[.cells v0 25 (zv x),.cells v1 58 [L d],.cells v2 140 [I 0,I 0,I 0,I 0,yy,yy,yy,yy,B false,yy,I 0,yy,yy],
   .cells v3 140 [I x.days,I x.veh,I x.cap,I x.len,L x.cust,L x.dist,L d,L on,B tw,.sl (nx+4) v4 1 0 k,I (yO x (d.take k)),.sl (nx+5) v5 1 0 k,.sl (nx+6) v6 1 0 k],
   .cells v4 39 (((d.map (zK x)).take k).flatMap Enc.enc),.cells v5 3 (((d.map qJ).take k).flatMap Enc.enc),.cells v6 3 (((d.map (qI x)).take k).flatMap Enc.enc)]) (fun s=>d.length-s.1) (0,v4,v5,v6) [] (by simp) (by simp) (by simp [yO]) ?_)
 rintro ⟨k,v4,v5,v6⟩ hk
 simp only at hk ⊢
 refine za (zb ?_)
 refine za (zr rfl (fun hc=>?_) (fun hc=>?_))
 ·simp at hc
  obtain ⟨t,tl,a1,a2,a3,e0⟩:=zC rfl d k hc
  have hk1:1<=d.length-k:=by omega
  have htm:=List.mem_of_getElem? a1
  have hm:=QQ x t hx (hdo.t t htm)
  have hl:=Zb2 t (hdo.t t htm)
  have hw:=QN x t (hdo.t t htm) (hdo.s t htm)
  have b1:yO x (d.take (k+1))=yO x (d.take k)+if zK x t=0 then 0 else 1:=by rw [a3,Zi7,Zi8]
  have b2:=ZcH x (d.take k)
  rw [List.length_take] at b2
  have b3:=hdo.n
  have b4:=Nat.min_le_left k d.length
  have f1:(((d.map (zK x)).take (k+1)).flatMap Enc.enc:List PV)=((d.map (zK x)).take k).flatMap Enc.enc++[I (zK x t)]:=by rw [<-List.map_take,<-List.map_take,a3];simp
  have f2:(((d.map qJ).take (k+1)).flatMap Enc.enc:List PV)=((d.map qJ).take k).flatMap Enc.enc++[I (W (zO t))]:=by rw [<-List.map_take,<-List.map_take,a3];simp [qJ]
  have f3:(((d.map (qI x)).take (k+1)).flatMap Enc.enc:List PV)=((d.map (qI x)).take k).flatMap Enc.enc++[I (W (yc x (t.map (·.c))))]:=by rw [<-List.map_take,<-List.map_take,a3];simp [qI]
  have l1:(((d.map (zK x)).take k).flatMap Enc.enc:List PV).length=k:=by rw [qY,List.length_take,List.length_map];omega
  have l2:(((d.map qJ).take k).flatMap Enc.enc:List PV).length=k:=by rw [qY,List.length_take,List.length_map];omega
  have l3:(((d.map (qI x)).take k).flatMap Enc.enc:List PV).length=k:=by rw [qY,List.length_take,List.length_map];omega
  generalize ((d.map (zK x)).take k).flatMap Enc.enc=c1 at *
  generalize ((d.map qJ).take k).flatMap Enc.enc=c2 at *
  generalize ((d.map (qI x)).take k).flatMap Enc.enc=c3 at *
  have t1:c1.take k=c1:=List.take_of_length_le (by omega)
  have t2:c2.take k=c2:=List.take_of_length_le (by omega)
  have t3:c3.take k=c3:=List.take_of_length_le (by omega)
  generalize yO x (d.take k)=bn at *
  have wb:IntKind.i64.wrap ((bn:Int)+1)=((bn+1:Nat):Int):=zt bn (by omega)
  generalize zK x t=mt at *
  generalize W (zO t)=lt at *
  generalize W (yc x (t.map (·.c)))=wt at *
  refine zh (za (zi (za (ze [] (zE hc e0 hk1) ?_))))
  intro v7
  refine za (zb ?_)
  refine zA hm ?_
  repeat apply za
  refine zb ?_
  refine yk (nx:=nx) (fun _:Unit=>True) (fun _=>[(2,.ptr nx v0 0),(4,.ptr (nx+2) v2 0),(5,.ptr (nx+3) v3 0),(7,.ptr (nx+7) v7 0),(8,I mt),(20,L d),(21,I d.length),(22,I k)]) (fun _=>S) (fun _=>[.cells v0 25 (zv x),.cells v1 58 [L d],.cells v2 140 [I 0,I 0,I 0,I 0,yy,yy,yy,yy,B false,yy,I 0,yy,yy],
   .cells v3 140 [I x.days,I x.veh,I x.cap,I x.len,L x.cust,L x.dist,L d,L on,B tw,.sl (nx+4) v4 1 0 k,I (bn+(if mt=0 then 0 else 1):Nat),.sl (nx+5) v5 1 0 k,.sl (nx+6) v6 1 0 k],
   .cells v4 39 c1,.cells v5 3 c2,.cells v6 3 c3,.cells v7 72 [L t]]) ?_ ?_
  ·repeat apply za
   refine zr rfl (fun hq=>?_) (fun hq=>?_)
   ·simp at hq
    rw [if_neg hq]
    refine ze [] wb ?_
    exact zD () [] trivial (by simp) rfl (by simp)
   ·simp at hq
    rw [if_pos hq]
    exact zh (zD () [] trivial (by simp) rfl (by simp))
  ·rintro ⟨⟩ -
   refine za (ze [] (zn t1 l1) ?_)
   refine ⟨by omega,?_⟩
   refine za (zF (some [nx+7]) (Row.pures [0,2,3,4] (.alt 1 (.alt 5 (Row.pures [6] (.alt 7 (.done) .stop)) .stop) .stop)) mixed (zn t2 l2) ?_)
   refine zN (hl) (zn t2 l2) ?_
   refine ⟨by omega,?_⟩
   refine zF (some [nx,nx+7]) (Row.pures [0,2,3,4,5] (.alt 1 (.alt 6 (Row.pures [7] (.alt 8 (.done) .stop)) .stop) .stop)) mixed (zn t3 l3) ?_
   refine zN (hw) (zn t3 l3) ?_
   refine ⟨by omega,?_⟩
   refine zb ?_
   exact zq (k+1,v4+1,v5+1,v6+1) [_] (by simp;omega) (by simp;omega) (by simp [zt k (by omega)]) rfl (by simp only [f1,f2,f3,b1];simp;rfl)
 ·simp at hc
  obtain rfl:k=d.length:=by omega
  refine zu (za (zb ?_))
  refine zX 6 rfl ?_
  refine zX 5 rfl ?_
  refine zX 4 rfl ?_
  have g1:(d.map (zK x)).take d.length=d.map (zK x):=List.take_of_length_le (by simp)
  have g2:(d.map qJ).take d.length=d.map qJ:=List.take_of_length_le (by simp)
  have g3:(d.map (qI x)).take d.length=d.map (qI x):=List.take_of_length_le (by simp)
  exact zg (zk hd (by simp;rfl) (by simp [zp,g1,g2,g3];simp [<-hon,<-htw]))
open Go Go.Proofs
def Xn (P:Program) (k:FuncId) (args:Nat->List PV) (xs:List (List PV)) (ret:PV):Prop :=
 qt P k/\∀(l:Nat) (V:Ctx->Store->World->Prop) (_:∀{C C':Ctx} {S S':Store} {w w':World},Step C S w C' S' w'->V C S w->V C' S' w') (m:Nat) (J:Nat->Store->Prop),(∀i A,J i A->zQ m A) ->
  (∀i A obs x,xs[i]?=some x->J i A->PYield P V l x (ext A m obs) (fun T=>∃A',J (i+1) A'/\T=ext A' m obs)) ->
  ∀A,J 0 A->PCallsV P V k (args l) A (fun p T=>p=ret/\J xs.length T)
theorem ZcJ {P : Program} {N : Nat} {f : FuncId} {fn : Func} {c : Code} {rs : List ResultVar} {args : Nat → List PV} {xs : List (List PV)} {ret : PV} (hf : P.funcs[f]? = some fn) (hname : (fn.name == "runtime.NumGoroutine") = false) (hb : fn.body = some c) (hN : fn.ntmps = N) (hrs : fn.results.toList = rs) (hargs : ∀ l, (args l).length ≤ N)
  (h:∀(l:Nat) (V:Ctx->Store->World->Prop) (keep:∀{C C':Ctx} {S S':Store} {w w':World},Step C S w C' S' w'->V C S w->V C' S' w') (nx:Nat) (J:Nat->Store->Prop),(∀i A,J i A->zQ nx A) ->
   (∀i A obs x,xs[i]?=some x->J i A->PYield P V l x (ext A nx obs) (fun T=>∃A',J (i+1) A'/\T=ext A' nx obs)) ->
   ∀A,J 0 A->PW P ⟨none,V,keep⟩ 0 N c (xM P rs (fun p T=>p=ret/\J xs.length T)) (j5 (args l)) (ext A nx [])):Xn P f args xs ret:=by
 refine ⟨qn hf hname hb,fun l V keep m J hJ hY A hA=>?_⟩
 have:=h l V keep m J hJ hY A hA
 rw [yX (hJ 0 A hA)] at this
 exact Qw hf hb hN hrs (hargs l) this
theorem PYield.mono {P:Program} {V:Ctx->Store->World->Prop} {l:Nat} {args:List PV} {S:Store} {Q Q':Store->Prop} (h:PYield P V l args S Q) (hq:∀T,Q T->Q' T):PYield P V l args S Q':=by
 intro C w vs h1 h2 h3 h4
 obtain ⟨fn,tmps,assign,body,hy,hR⟩:=h C w vs h1 h2 h3 h4
 refine ⟨fn,tmps,assign,body,hy,hR.mono ?_⟩
 rintro e w' ⟨S',C',a,b,c⟩
 exact ⟨S',C',a,hq _ b,c⟩
theorem ZcK {P:Program} {k:FuncId} {args:Nat->List PV} {xs:List (List PV)} {ret:PV} (h:Xn P k args xs ret) {V:Ctx->Store->World->Prop} (keep:∀{C C':Ctx} {S S':Store} {w w':World},Step C S w C' S' w'->V C S w->V C' S' w')
  {l nx:Nat} {J:Nat->Store->Prop} {ys:List (List PV)} (hY:∀i A obs x,ys[i]?=some x->J i A->PYield P V l x (ext A nx obs) (fun T=>∃A',J (i+1) A'/\T=ext A' nx obs))
  (off:Nat) (hxs:∀i x,xs[i]?=some x->ys[off+i]?=some x) {A:Store} (hJ:J off A) (obs:List Ob) :
  SpecV P V k (args l) (ext A nx obs) (fun p T=>∃A',p=ret/\J (off+xs.length) A'/\T=ext A' nx obs):=by
 refine ⟨h.1,(h.2 l V keep (nx+obs.length) (fun i T=>∃A',J (off+i) A'/\T=ext A' nx obs) ?_ ?_ (ext A nx obs) ⟨A,hJ,rfl⟩).mono ?_⟩
 ·rintro i T ⟨A',_,rfl⟩;exact qN
 ·rintro i T more x hx ⟨A1,hJ1,rfl⟩
  rw [J5 _ _ rfl]
  refine (hY (off+i) A1 (obs++more) x (hxs i x hx) hJ1).mono ?_
  rintro T ⟨A',hA',rfl⟩
  exact ⟨ext A' nx obs,⟨A',hA',rfl⟩,(J5 _ _ rfl).symm⟩
 ·rintro p T ⟨rfl,A',hA',rfl⟩
  exact ⟨A',rfl,hA',rfl⟩
theorem Xo {P:Program} {nx:Nat} {F:Nat->PV} {obs:List Ob} {rs:List ResultVar} {ps:List PV} {J:Store->Prop} {A:Store} {ret:PV} (hd:zQ nx A) (h1:j6 P F (ext A nx obs) rs=some ps) (h2:zp ps=ret) (hJ:J A) :
  ∃ps S',j6 P F (ext A nx obs) rs=some ps/\(zp ps=ret/\J S')/\∀o,S' o=ext A nx obs o\/S' o=.dead:=⟨ps,A,h1,⟨h2,hJ⟩,zU hd⟩
theorem ZcL {α:Type} {f:Nat->Option α} {n k:Nat} {v:α} (hk:k<n) (hf:f k=some v):((List.range n).filterMap f)[((List.range k).filterMap f).length]?=some v:=by
 obtain ⟨m,rfl⟩:∃m,n=k+(m+1):=⟨n-k-1,by omega⟩
 rw [List.range_add,List.filterMap_append,List.getElem?_append_right (Nat.le_refl _),Nat.sub_self,List.range_succ_eq_map]
 simp [hf]
theorem ZcM {α:Type} {f:Nat->Option α} {k:Nat} (hf:f k=none):((List.range (k+1)).filterMap f).length=((List.range k).filterMap f).length:=by
 rw [List.range_succ,List.filterMap_append];simp [hf]
theorem ZcN {α:Type} {f:Nat->Option α} {k:Nat} {v:α} (hf:f k=some v):((List.range (k+1)).filterMap f).length=((List.range k).filterMap f).length+1:=by
 rw [List.range_succ,List.filterMap_append];simp [hf]
structure Spot where
 t:Nat
 p:Nat
 m:Int
abbrev vy (s:Spot):List PV:=[.agg [I s.t,I s.p,I s.m]]
def xh (l:zG) (i:Nat):Int:=if i=0 then 0 else (l.getD (i-1) default).c+1
def xF (l:zG) (i:Nat):Int:=if i<l.length then (l.getD i default).c+1 else 0
def wu (x:Inst) (l:zG) (s:Stop) (i:Nat):Int:=W (W (arc x (xh l i) (s.c+1)+arc x (s.c+1) (xF l i))-arc x (xh l i) (xF l i))
def wM (x:Inst) (t:Nat) (l:zG) (w:Int) (s:Stop) (i:Nat):Option Spot:=if W (w+wu x l s i)<=x.len then some ⟨t,i,wu x l s i⟩ else none
def w9 (x:Inst) (t:Nat) (l:zG) (fl bad ll w:Int) (s:Stop):List Spot :=
 if 0<bad-(if fl=13 then 1 else 0)\/x.cap<W (ll+s.q) then [] else (List.range (l.length+1)).filterMap (wM x t l w s)
abbrev wN (x:Inst) (d:zj) (on:List Int) (tw:Bool) (fs:List Int) (bad:Int) (ls ws:List Int):List PV:=[I x.days,I x.veh,I x.cap,I x.len,L x.cust,L x.dist,L d,L on,B tw,L fs,I bad,L ls,L ws]
theorem Zi9 (x:Inst) (d:zj) (on:List Int) (tw:Bool) (fs:List Int) (bad:Nat) (ls ws:List Int) (t:Nat) (l:zG) (s:Stop) (fl ll w:Int) (hbad:bad<=1048576) (hdn:d.length<=1048576) (hd:d[t]?=some l) (hfs:fs[t]?=some fl) (hls:ls[t]?=some ll) (hws:ws[t]?=some w)
  (hfn:fs.length=d.length) (hln:ls.length=d.length) (hwn:ws.length=d.length) (hb:fl=13->0<bad) (hll:l.length<=1048576) (hsl:∀s∈l,small s.c) (hss:small s.c) :
  Xn Tryz.prog 140 (fun y=>[.agg (wN x d on tw fs bad ls ws),I t,.agg [I s.c,I s.q],jf y]) ((w9 x t l fl bad ll w s).map vy) (B true):=by
 refine ZcJ Tryz.func140 (by rfl) rfl Tryz.ntmps140 (congrArg Array.toList Tryz.results140) (by simp) fun y V keep nx J hJd hY A0 hA0=>?_
 have ht:t<d.length:=(List.getElem?_eq_some_iff.1 hd).1
 obtain ⟨fl',tf,a1,-,-,ef⟩:=zC rfl fs t (by omega)
 obtain ⟨ll',tl,a2,-,-,elo⟩:=zC rfl ls t (by omega)
 obtain ⟨w',tw',a3,-,-,ew⟩:=zC rfl ws t (by omega)
 obtain ⟨l',td,a4,-,-,ed⟩:=zC rfl d t ht
 obtain rfl:fl=fl':=by rw [hfs] at a1;exact Option.some.inj a1
 obtain rfl:ll=ll':=by rw [hls] at a2;exact Option.some.inj a2
 obtain rfl:w=w':=by rw [hws] at a3;exact Option.some.inj a3
 obtain rfl:l=l':=by rw [hd] at a4;exact Option.some.inj a4
 have h1:1<=fs.length-t:=by omega
 have h2:1<=ls.length-t:=by omega
 have h3:1<=ws.length-t:=by omega
 have h4:1<=d.length-t:=by omega
 have g1:t<fs.length:=by omega
 have g2:t<ls.length:=by omega
 have g3:t<ws.length:=by omega
 refine za (zb ?_)
 intro v0 v1
 refine za (zb ?_)
 repeat apply za
 refine ze [] (zE ef h1 g1) ?_
 obtain ⟨oth,hoth⟩:∃oth:Int,oth=bad-(if fl=13 then 1 else 0):=⟨_,rfl⟩
 refine yk (nx:=nx) (fun _:Unit=>True) (fun _=>[(1,I t),(3,jf y),(4,.ptr nx v0 0),(6,.ptr (nx+1) v1 0),(9,I oth)]) (fun _=>A0) (fun _=>[.cells v0 140 (wN x d on tw fs bad ls ws),.cells v1 35 [I s.c,I s.q]]) ?_ ?_
 ·repeat apply za
  refine zr rfl (fun hq=>?_) (fun hq=>?_)
  ·simp at hq
   have hb':=hb hq
   rw [if_pos hq] at hoth
   have wb:IntKind.i64.wrap ((bad:Int)-1)=oth:=by rw [hoth,wr _ (by omega) (by omega)]
   refine ze [] wb ?_
   exact zD () [] trivial (by simp) rfl (by simp)
  ·simp at hq
   rw [if_neg hq] at hoth
   obtain rfl:oth=bad:=by omega
   exact zh (zD () [] trivial (by simp) rfl (by simp))
 ·rintro ⟨⟩ -
  have hout:∀(h:0<oth\/x.cap<W (ll+s.q)),w9 x t l fl bad ll w s=[]:=fun h=>by unfold w9;rw [if_pos (by rw [hoth] at h;exact h)]
  by_cases ho:0<oth
  ·rw [hout (.inl ho)] at hY ⊢
   repeat apply za
   refine zF (some [nx,nx+1]) (Row.pures [0,1,2,3,4,5,6,7,8,9,10,11,12,13,14,15] .done) mixed (zn ho zx) ?_
   refine zm rfl (za (zb ?_))
   exact zg (Xo (hJd _ _ hA0) (by simp;rfl) (by simp [zp]) hA0)
  by_cases hcap:x.cap<W (ll+s.q)
  ·rw [hout (.inr hcap)] at hY ⊢
   repeat apply za
   refine zF (some [nx,nx+1]) (Row.pures [0,1,2,3,4,5,6,7,8,9,10,11,12,13,14,15] .done) mixed (zL ho hcap elo h2 g2 zx) ?_
   refine zm rfl (za (zb ?_))
   exact zg (Xo (hJd _ _ hA0) (by simp;rfl) (by simp [zp]) hA0)
  have hz:w9 x t l fl bad ll w s=(List.range (l.length+1)).filterMap (wM x t l w s):=by unfold w9;rw [if_neg (by rw [<-hoth];simp [ho,hcap])]
  clear hout
  rw [hz] at hY ⊢
  repeat apply za
  refine zF (some [nx,nx+1]) (Row.pures [0,1,2,3,4,5,6,7,8,9,10,11,12,13,14,15] .done) mixed (yD ho hcap elo h2 g2) ?_
  refine zo rfl (zh ?_)
  have wc:IntKind.i64.wrap (s.c+1)=s.c+1:=wr _ (by unfold small at hss;omega) (by unfold small at hss;omega)
  refine za (zF (some [nx,nx+1]) (Row.pures [0,1,2,3,4,5,6,7,8,9,10,11] .done) mixed (zP ed h4 ht wc) ?_)
  have wl:IntKind.i64.wrap ((l.length:Int)+1)=((l.length+1:Nat):Int):=zt _ (by omega)
  repeat apply za
  refine ze [] wl ?_
  refine zi (yP (σ:=Nat × Store) (fun s'=>s'.1<=l.length+1/\J ((List.range s'.1).filterMap (wM x t l w s)).length s'.2) (fun s'=>[(1,I t),(3,jf y),(4,.ptr nx v0 0),(6,.ptr (nx+1) v1 0),(10,L l),(11,I (s.c+1)),(54,I ((l.length+1:Nat):Int)),(55,I s'.1)]) (fun s'=>s'.2)
   (fun _=>[.cells v0 140 (wN x d on tw fs bad ls ws),.cells v1 35 [I s.c,I s.q]]) (fun s'=>l.length+1-s'.1) (zD (0,A0) [] (by simpa using hA0) (by simp) rfl (by simp)) ?_)
  rintro ⟨k,A⟩ ⟨hk,hJ⟩
  simp only at hk hJ ⊢
  refine za (zb ?_)
  refine za (zr rfl (fun hc=>?_) (fun hc=>?_))
  ·simp at hc
   refine zh (za (zi (za (zb ?_))))
   refine za (zb ?_)
   repeat apply za
   refine zb ?_
   refine yk (nx:=nx) (fun _:Unit=>True) (fun _=>[(1,I t),(3,jf y),(4,.ptr nx v0 0),(6,.ptr (nx+1) v1 0),(10,L l),(11,I (s.c+1)),(12,I k),(13,I (xh l k)),(14,I 0),(54,I ((l.length+1:Nat):Int)),(55,I k)]) (fun _=>A) (fun _=>[.cells v0 140 (wN x d on tw fs bad ls ws),.cells v1 35 [I s.c,I s.q]]) ?_ ?_
   ·repeat apply za
    refine zr rfl (fun hk0=>?_) (fun hk0=>?_)
    ·simp at hk0
     obtain ⟨j,rfl⟩:∃j,k=j+1:=⟨k-1,by omega⟩
     obtain ⟨p,tp,p1,-,-,-,ep⟩:=el 2 rfl l j (by omega)
     have wj:IntKind.i64.wrap (j:Int)=(j:Int):=wr _ (by omega) (by omega)
     have hjl:j<l.length:=by omega
     have hj2:2<=l.length*2-j*2:=by omega
     have hsm:=hsl p (List.mem_of_getElem? p1)
     have wp:IntKind.i64.wrap (p.c+1)=p.c+1:=wr _ (by unfold small at hsm;omega) (by unfold small at hsm;omega)
     have hah:xh l (j+1)=p.c+1:=by unfold xh;rw [if_neg (by omega),Nat.add_sub_cancel,List.getD_eq_getElem?_getD,p1];rfl
     refine ze [] (yD wj ep wp hjl hj2) ?_
     exact zD () [] trivial (by simp [hah]) rfl (by simp)
    ·simp at hk0
     subst hk0
     exact zh (zD () [] trivial (by simp [xh]) rfl (by simp))
   ·rintro ⟨⟩ -
    repeat apply za
    refine zb ?_
    refine yk (nx:=nx) (fun _:Unit=>True) (fun _=>[(1,I t),(3,jf y),(4,.ptr nx v0 0),(6,.ptr (nx+1) v1 0),(10,L l),(11,I (s.c+1)),(12,I k),(13,I (xh l k)),(14,I (xF l k)),(54,I ((l.length+1:Nat):Int)),(55,I k)]) (fun _=>A) (fun _=>[.cells v0 140 (wN x d on tw fs bad ls ws),.cells v1 35 [I s.c,I s.q]]) ?_ ?_
    ·repeat apply za
     refine zr rfl (fun hk0=>?_) (fun hk0=>?_)
     ·simp at hk0
      obtain ⟨p,tp,p1,-,-,-,ep⟩:=el 2 rfl l k hk0
      have hj2:2<=l.length*2-k*2:=by omega
      have hsm:=hsl p (List.mem_of_getElem? p1)
      have wp:IntKind.i64.wrap (p.c+1)=p.c+1:=wr _ (by unfold small at hsm;omega) (by unfold small at hsm;omega)
      have hah:xF l k=p.c+1:=by unfold xF;rw [if_pos hk0,List.getD_eq_getElem?_getD,p1];rfl
      refine ze [] (zP ep wp hk0 hj2) ?_
      exact zD () [] trivial (by simp [hah]) rfl (by simp)
     ·simp at hk0
      exact zh (zD () [] trivial (by simp [xF];omega) rfl (by simp))
    ·rintro ⟨⟩ -
     have q1:=wI x (xh l k) (s.c+1)
     have q2:=wI x (s.c+1) (xF l k)
     have q3:=wI x (xh l k) (xF l k)
     have hmo:W (W (arc x (xh l k) (s.c+1)+arc x (s.c+1) (xF l k))-arc x (xh l k) (xF l k))=wu x l s k:=rfl
     refine za (zF (some [nx,nx+1]) (Row.pures [0,1,2,3,4,5,6,7,8,9,10,11,12,13,14,15,16,17] .done) mixed trivial ?_)
     refine zN (q1) trivial ?_
     refine zN (q2) trivial ?_
     refine zN (q3) hmo ?_
     by_cases hf:W (w+wu x l s k)<=x.len
     ·have hsp:wM x t l w s k=some ⟨t,k,wu x l s k⟩:=by unfold wM;rw [if_pos hf]
      have hat:=ZcL (n:=l.length+1) (by omega) hsp
      have hnx:=ZcN hsp
      have hy:(((List.range (l.length+1)).filterMap (wM x t l w s)).map vy)[((List.range k).filterMap (wM x t l w s)).length]?=some (vy ⟨t,k,wu x l s k⟩):=by rw [List.getElem?_map,hat];rfl
      refine za (wG (some [nx,nx+1]) (Row.pures [0,1,2,3,4,5,6,7,8,9,10,11,12,13,14,15,16] (.alt 17 (Row.pures [18,19] .done) .stop)) mixed (by rfl) (by rfl) (by rfl) fun K Gp Gc Gh hK hGp hGc hGh X hX0 hX1 hX2 hX=>?_)
      simp -implicitDefEqProofs [hX0,hX1,hX2,hX,hmo,ew,h3,g3,hf]
      try clear hX0 hX1 hX2 hX X
      refine hGh _ _ _ _ _ (by rfl) (YD rfl rfl rfl (hY _ _ _ _ hy hJ) ?_)
      rintro _ ⟨A',hJ',rfl⟩
      refine ⟨by simp [yB],?_⟩
      clear hGp hGc hGh
      clear Gp Gc Gh
      refine jm fun Gp Gc Gh hGp hGc hGh X hX0 hX1 hX2 hX=>?_
      simp -implicitDefEqProofs [hX0,hX1,hX2,hX]
      try clear hX0 hX1 hX2 hX X
      refine hK _ _ _ ?_
      clear hK hGp hGc hGh
      clear K Gp Gc Gh
      refine zo rfl (zh (zb ?_))
      exact zq (k+1,A') [] ⟨by show k+1<=_;omega,by rw [hnx];exact hJ'⟩ (by simp;omega) (by simp [zt k (by omega)]) rfl (by simp)
     ·have hsp:wM x t l w s k=none:=by unfold wM;rw [if_neg hf]
      have hnx:=ZcM hsp
      refine za (zF (some [nx,nx+1]) (Row.pures [0,1,2,3,4,5,6,7,8,9,10,11,12,13,14,15,16,17,18,19] .done) mixed (zL hmo ew h3 g3 hf zx) ?_)
      refine zo rfl (zh (zb ?_))
      exact zq (k+1,A) [] ⟨by show k+1<=_;omega,by rw [hnx];exact hJ⟩ (by simp;omega) (by simp [zt k (by omega)]) rfl (by simp)
  ·simp at hc
   obtain rfl:k=l.length+1:=by omega
   refine zu (za (zb ?_))
   exact zg (Xo (hJd _ _ hJ) (by simp;rfl) (by simp [zp]) (by simpa using hJ))
open Go
theorem Zja (x:Inst):(yp x).cust.length<=6:=by simp [yp];omega
structure Goods (n:Int) (l:List Stop):Prop where
 each:∀s∈l,0<=s.c/\s.c<n/\1<=s.q/\s.q<=12
 nd:(l.map (·.c)).Nodup
 len:l.length<=6
structure Made (n:Int) (d:zj):Prop where
 goods:Goods n d.flatten
 ne:∀t∈d,t≠[]
theorem QY:∀(d:zj),(∀t∈d,t≠[])->d.length<=d.flatten.length
 | [],_=>by simp
 | t :: d,h=>by
  have:=QY d fun t ht=>h t (by simp [ht])
  have h1:t.length≠0:=by simpa using h t (by simp)
  rw [List.flatten_cons,List.length_append,List.length_cons];omega
theorem vz {d:zj} {t:zG} (h:t∈d):t.Sublist d.flatten:=by
 obtain ⟨a,b,rfl⟩:=List.append_of_mem h
 rw [List.flatten_append,List.flatten_cons]
 exact (List.sublist_append_left t b.flatten).trans (List.sublist_append_right a.flatten _)
section
variable {n:Int} {d:zj} (h:Made n d)
include h
theorem Made.len:d.length<=6:=Nat.le_trans (QY d h.ne) h.goods.len
theorem Made.tlen {t:zG} (ht:t∈d):t.length<=6:=Nat.le_trans (vz ht).length_le h.goods.len
theorem Made.stop {t:zG} (ht:t∈d) {s:Stop} (hs:s∈t):0<=s.c/\s.c<n/\1<=s.q/\s.q<=12:=h.goods.each s ((vz ht).subset hs)
theorem Made.small (hn:n<=6) {t:zG} (ht:t∈d):∀s∈t,small s.c:=fun s hs=>by have:=h.stop ht hs;unfold Pv.small;omega
end
theorem Zjb {α:Type} {a b:List (List α)} (h:a.Sublist b):a.flatten.Sublist b.flatten:=by
 induction h with
 | slnil=>exact List.Sublist.refl _
 | cons x _ ih=>rw [List.flatten_cons];exact ih.trans (List.sublist_append_right _ _)
 | cons_cons x _ ih=>rw [List.flatten_cons,List.flatten_cons];exact List.Sublist.append_left ih x
theorem Zjc {a b:List Int} (h:a.Perm b):a.sum=b.sum:=by
 induction h with
 | nil=>rfl
 | cons x _ ih=>simp [ih]
 | swap x y l=>simp;omega
 | trans _ _ ih1 ih2=>exact ih1.trans ih2
theorem Made.sub {n:Int} {d e:zj} (h:Made n d) (hs:e.Sublist d):Made n e:=by
 have hf:e.flatten.Sublist d.flatten:=Zjb hs
 exact ⟨⟨fun s q=>h.goods.each s (hf.subset q),h.goods.nd.sublist (hf.map _),Nat.le_trans hf.length_le h.goods.len⟩,fun t ht=>h.ne t (hs.subset ht)⟩
theorem Made.perm {n:Int} {d e:zj} (h:Made n d) (hp:e.Perm d):Made n e:=by
 have hf:e.flatten.Perm d.flatten:=hp.flatten
 exact ⟨⟨fun s q=>h.goods.each s (hf.subset q),(hf.map _).nodup_iff.2 h.goods.nd,by rw [hf.length_eq];exact h.goods.len⟩,fun t ht=>h.ne t (hp.subset ht)⟩
theorem xG (x:Inst) (d:zj):yh x d=0<->(∀t∈d,zK x t=0)/\(d.flatten.map (·.c)).Nodup/\(d.length:Int)<=x.veh:=by
 unfold yh
 cases hf:d.find? (fun t=>zK x t != 0) with
 | some t =>
  have h1:=List.find?_some hf
  have h2:=List.mem_of_find?_eq_some hf
  simp only
  constructor
  ·intro e;simp [e] at h1
  ·rintro ⟨h,_⟩;exact h t h2
 | none =>
  rw [List.find?_eq_none] at hf
  simp only
  constructor
  ·intro e
   refine ⟨fun t ht=>by simpa using hf t ht,?_⟩
   split at e
   ·cases e
   ·split at e
    ·cases e
    ·rename_i h1 h2;exact ⟨by simpa using h1,by omega⟩
  ·rintro ⟨_,h1,h2⟩
   rw [if_neg (by simpa using h1),if_neg (by omega)]
theorem Ya (x:Inst) (t:zG):zK x t=0<->yY x t=true/\(t.map (·.c)).Nodup/\W (zO t)<=x.cap/\W (yc x (t.map (·.c)))<=x.len:=by
 unfold zK
 constructor
 ·intro e
  split at e
  ·cases e
  ·split at e
   ·cases e
   ·split at e
    ·cases e
    ·split at e
     ·cases e
     ·rename_i h1 h2 h3 h4
      exact ⟨by simpa using h1,by simpa using h2,by omega,by omega⟩
 ·rintro ⟨h1,h2,h3,h4⟩
  rw [if_neg (by simp [h1]),if_neg (by simpa using h2),if_neg (by omega),if_neg (by omega)]
theorem Vk {t:zG} (h:∀s∈t,0<=s.q/\s.q<=2147483648):0<=zO t/\zO t<=2147483648*t.length:=by
 induction t with
 | nil=>simp [zO]
 | cons s t ih =>
  have:=ih fun a ha=>h a (by simp [ha])
  have:=h s (by simp)
  simp only [zO,List.map_cons,List.sum_cons,List.length_cons] at *
  omega
theorem Zjd (a b:zG):zO (a++b)=zO a+zO b:=by simp [zO]
open Go Go.Proofs
def yM (x:Inst) (d:zj) (s:Stop):List Spot :=
 if zK x [s]=1\/s.c∈d.flatten.map (·.c)\/¬(d.flatten.map (·.c)).Nodup\/x.veh<d.length then []
 else ((List.range d.length).flatMap fun t=>w9 x t (d.getD t []) (zK x (d.getD t [])) (yO x d) (qJ (d.getD t [])) (qI x (d.getD t [])) s) ++
  (if yO x d=0/\zK x [s]=0/\(d.length:Int)<x.veh then [⟨d.length,0,W (yc x [s.c])⟩] else [])
def ui (st:Spot × Bool) (b:Spot):Spot × Bool:=if st.2=false\/b.m<st.1.m then (b,true) else st
def xU (l:List Spot):Spot × Bool:=l.foldl ui (⟨0,0,0⟩,false)
def ji (l:zG) (i:Nat) (s:Stop):zG:=l.take i++s :: l.drop i
def qP (d:zj) (b:Spot) (s:Stop):zj:=if b.t=d.length then d++[[s]] else d.set b.t (ji (d.getD b.t []) b.p s)
def yE (x:Inst) (d:zj) (s:Stop):zj × Bool:=bif (xU (yM x d s)).2 then (qP d (xU (yM x d s)).1 s,true) else (d,false)
theorem ZcO:∀(l:List Spot) (st:Spot × Bool),(l.foldl ui st).2=true->(l.foldl ui st)=st\/(l.foldl ui st).1∈l
 | [],st,_=>.inl rfl
 | b :: l,st,h=>by
  rw [List.foldl_cons] at h ⊢
  rcases ZcO l _ h with e | e
  ·by_cases hq:st.2=false\/b.m<st.1.m
   ·right;rw [e];unfold ui;rw [if_pos hq];simp
   ·left;rw [e];unfold ui;rw [if_neg hq]
  ·exact .inr (by simp [e])
theorem Xp {l:List Spot} (h:(xU l).2=true):(xU l).1∈l:=by
 rcases ZcO l _ h with e | e
 ·rw [show l.foldl ui (⟨0,0,0⟩,false)=xU l from rfl] at e
  rw [e] at h;cases h
 ·exact e
theorem Zje {x:Inst} {t:Nat} {l:zG} {fl bad ll w:Int} {s:Stop} {b:Spot} (h:b∈w9 x t l fl bad ll w s):¬(0<bad-(if fl=13 then 1 else 0))/\W (ll+s.q)<=x.cap/\b∈(List.range (l.length+1)).filterMap (wM x t l w s):=by
 unfold w9 at h
 by_cases hw:0<bad-(if fl=13 then 1 else 0)\/x.cap<W (ll+s.q)
 ·rw [if_pos hw] at h;cases h
 ·rw [if_neg hw] at h
  refine ⟨fun e=>hw (.inl e),?_,h⟩
  rcases Int.lt_or_le x.cap (W (ll+s.q)) with e | e
  ·exact absurd (.inr e) hw
  ·exact e
theorem QZ {x:Inst} {d:zj} {s:Stop} {b:Spot} (h:b∈yM x d s) :
  zK x [s]≠1/\s.c ∉ d.flatten.map (·.c)/\(d.flatten.map (·.c)).Nodup/\(d.length:Int)<=x.veh /\
  ((∃l,d[b.t]?=some l/\b.p<=l.length/\¬(0<(yO x d:Int)-(if zK x l=13 then 1 else 0))/\W (qJ l+s.q)<=x.cap/\b.m=wu x l s b.p/\W (qI x l+b.m)<=x.len) \/
   (b=⟨d.length,0,W (yc x [s.c])⟩/\yO x d=0/\zK x [s]=0/\(d.length:Int)<x.veh)):=by
 unfold yM at h
 split at h
 ·cases h
 ·rename_i hq
  have q1:zK x [s]≠1:=fun e=>hq (.inl e)
  have q2:s.c ∉ d.flatten.map (·.c):=fun e=>hq (.inr (.inl e))
  have q3:(d.flatten.map (·.c)).Nodup:=Classical.byContradiction fun e=>hq (.inr (.inr (.inl e)))
  have q4:(d.length:Int)<=x.veh:=by
   rcases Int.lt_or_le x.veh d.length with e | e
   ·exact absurd (.inr (.inr (.inr e))) hq
   ·exact e
  refine ⟨q1,q2,q3,q4,?_⟩
  rw [List.mem_append] at h
  rcases h with h | h
  ·left
   obtain ⟨t,ht,hb⟩:=List.mem_flatMap.1 h
   rw [List.mem_range] at ht
   have hd:d[t]?=some (d.getD t []):=by rw [List.getD_eq_getElem?_getD,List.getElem?_eq_getElem ht];rfl
   obtain ⟨w1,w2,hb⟩:=Zje hb
   obtain ⟨i,hi,he⟩:=List.mem_filterMap.1 hb
   rw [List.mem_range] at hi
   unfold wM at he
   by_cases hlen:W (qI x (d.getD t [])+wu x (d.getD t []) s i)<=x.len
   ·rw [if_pos hlen] at he
    cases he
    exact ⟨_,hd,by simp only;omega,w1,w2,rfl,hlen⟩
   ·rw [if_neg hlen] at he;cases he
  ·right
   split at h
   ·rename_i hc;simp at h;exact ⟨h,hc⟩
   ·cases h
def yN (a:Int):List Int->Int
 | []=>a
 | c :: l=>yN (c+1) l
def Q0:List Int->Int
 | []=>0
 | c :: _=>c+1
theorem ZcP (x:Inst) (c:Int) (r:List Int):∀(p:List Int) (a:Int),yQ x a (p++c :: r)=yQ x a (p++r)+(arc x (yN a p) (c+1)+arc x (c+1) (Q0 r)-arc x (yN a p) (Q0 r))
 | [],a=>by
  cases r with
  | nil=>simp only [List.nil_append,yQ,yN,Q0];omega
  | cons e r=>simp only [List.nil_append,yQ,yN,Q0];omega
 | e :: p,a=>by
  simp only [List.cons_append,yQ,yN]
  rw [ZcP x c r p (e+1)];omega
theorem ZcQ:∀(p:List Int) (a:Int),yN a p=if p.length=0 then a else (p.getD (p.length-1) 0)+1
 | [],a=>by simp [yN]
 | [c],a=>by simp [yN]
 | c :: e :: p,a=>by
  simp only [yN]
  rw [show yN (e+1) p=yN (c+1) (e :: p) from rfl,ZcQ (e :: p) (c+1)]
  simp [List.getD_eq_getElem?_getD]
theorem Zjf (l:zG) (i:Nat) (h:i<l.length):(l.map (·.c)).getD i 0=(l.getD i default).c:=by
 rw [List.getD_eq_getElem?_getD,List.getD_eq_getElem?_getD,List.getElem?_map,List.getElem?_eq_getElem h];rfl
theorem Zjg (x:Inst) (l:zG) (s:Stop) (i:Nat) (h0:l≠[]) (hi:i<=l.length) :
  yc x ((ji l i s).map (·.c))=yc x (l.map (·.c))+(arc x (xh l i) (s.c+1)+arc x (s.c+1) (xF l i)-arc x (xh l i) (xF l i)):=by
 unfold yc ji
 rw [if_neg (by simp),if_neg (by simpa using h0)]
 rw [List.map_append,List.map_cons,ZcP,<-List.map_append,List.take_append_drop]
 have e1:yN 0 ((l.take i).map (·.c))=xh l i:=by
  rw [ZcQ]
  unfold xh
  rw [List.length_map,List.length_take]
  by_cases hz:i=0
  ·rw [if_pos (by omega),if_pos hz]
  ·rw [if_neg (by omega),if_neg hz,Zjf _ _ (by rw [List.length_take];omega)]
   rw [List.getD_eq_getElem?_getD,List.getD_eq_getElem?_getD,List.getElem?_take_of_lt (by omega),show min i l.length-1=i-1 from by omega]
 have e2:Q0 ((l.drop i).map (·.c))=xF l i:=by
  unfold xF
  by_cases hz:i<l.length
  ·rw [if_pos hz,List.drop_eq_getElem_cons hz,List.getD_eq_getElem?_getD,List.getElem?_eq_getElem hz];rfl
  ·rw [if_neg hz,List.drop_eq_nil_of_le (by omega)];rfl
 rw [e1,e2]
theorem ZcR (x:Inst) (l:zG) (s:Stop) (i:Nat) (h0:l≠[]) (hi:i<=l.length):qI x (ji l i s)=W (qI x l+wu x l s i):=by
 unfold qI wu
 rw [Zjg x l s i h0 hi,xO,Wy]
 generalize arc x (xh l i) (s.c+1)+arc x (s.c+1) (xF l i)=p
 generalize arc x (xh l i) (xF l i)=q
 generalize yc x (l.map (·.c))=r
 simp only [W,IntKind.wrap_i64];omega
theorem ZcS (l:zG) (s:Stop) (i:Nat):qJ (ji l i s)=W (qJ l+s.q):=by
 unfold qJ
 rw [xO]
 have:zO (ji l i s)=zO l+s.q:=by
  unfold zO ji
  conv=>rhs;rw [<-List.take_append_drop i l]
  simp only [List.map_append,List.map_cons,List.sum_append,List.sum_cons];omega
 rw [this]
theorem Q1 (l:zG) (s:Stop) (i:Nat):(ji l i s).Perm (s :: l):=by
 unfold ji
 have:=List.perm_middle (a:=s) (l₁:=l.take i) (l₂:=l.drop i)
 rwa [List.take_append_drop] at this
theorem Vl {α:Type}:∀(d:List (List α)) (t:Nat) (l m:List α) (s:α),d[t]?=some l->m.Perm (s :: l)->(d.set t m).flatten.Perm (s :: d.flatten)
 | [],t,l,m,s,h,_=>by simp at h
 | a :: d,0,l,m,s,h,hm=>by
  simp at h;subst h
  simp only [List.set_cons_zero,List.flatten_cons]
  exact (hm.append_right _)
 | a :: d,t+1,l,m,s,h,hm=>by
  simp only [List.getElem?_cons_succ] at h
  simp only [List.set_cons_succ,List.flatten_cons]
  exact ((Vl d t l m s h hm).append_left a).trans List.perm_middle
theorem Vm {x:Inst} {d:zj} {s:Stop} {b:Spot} (h:b∈yM x d s):(qP d b s).flatten.Perm (s :: d.flatten):=by
 obtain ⟨-,-,-,-,h⟩:=QZ h
 unfold qP
 rcases h with ⟨l,hl,-⟩ | ⟨rfl,-⟩
 ·have hlt:=(List.getElem?_eq_some_iff.1 hl).1
  rw [if_neg (by omega),List.getD_eq_getElem?_getD,hl]
  exact Vl d b.t l _ s hl (Q1 l s b.p)
 ·rw [if_pos rfl]
  simp only [List.flatten_append,List.flatten_cons,List.flatten_nil,List.append_nil]
  exact List.perm_append_comm
theorem Vn {x:Inst} {d:zj} {s:Stop} (h:(yE x d s).2=true):(yE x d s).1.flatten.Perm (s :: d.flatten):=by
 unfold yE at h ⊢
 cases hb:(xU (yM x d s)).2 with
 | false=>rw [hb] at h;cases h
 | true=>exact Vm (Xp hb)
theorem ZcT {x:Inst} {d:zj} {s:Stop} (h:(yE x d s).2=false):(yE x d s).1=d:=by
 unfold yE at h ⊢
 cases hb:(xU (yM x d s)).2 with
 | false=>rfl
 | true=>rw [hb] at h;cases h
theorem Zjh {x:Inst} {a b:zG} (h:a.Perm b):yY x a=yY x b:=by
 unfold yY
 have h1:a.all (qu x)=b.all (qu x):=by
  rw [Bool.eq_iff_iff,List.all_eq_true,List.all_eq_true]
  exact ⟨fun q s hs=>q s (h.symm.subset hs),fun q s hs=>q s (h.subset hs)⟩
 have h2:a.isEmpty=b.isEmpty:=by
  cases a with
  | nil=>rw [List.nil_perm.1 h]
  | cons a l =>
   cases b with
   | nil=>exact absurd h.symm (by simp)
   | cons=>rfl
 rw [h1,h2]
theorem Xq {x:Inst} {t:zG} (h:yY x t=true):t≠[]:=by
 rintro rfl;simp [yY] at h
theorem Vo {x:Inst} {t:zG} (h:yY x t=false):zK x t=1:=by unfold zK;rw [if_pos h]
theorem ZcU {x:Inst} {s:Stop} (h:zK x [s]≠1):qu x s=true:=by
 cases hs:yY x [s] with
 | false=>exact absurd (Vo hs) h
 | true=>simpa [yY] using hs
theorem Zo {x:Inst} {d:zj}:yO x d=0<->∀t∈d,zK x t=0:=by
 unfold yO
 rw [List.length_eq_zero_iff,List.filter_eq_nil_iff]
 simp
theorem Vp {x:Inst} {d:zj} {s:Stop} {b:Spot} (h:b∈yM x d s):yh x (qP d b s)=0:=by
 have hp:=Vm h
 obtain ⟨q1,q2,q3,q4,h⟩:=QZ h
 rw [xG]
 have hg:=ZcU q1
 have hn:((qP d b s).flatten.map (·.c)).Nodup:=by
  rw [(hp.map _).nodup_iff,List.map_cons,List.nodup_cons]
  exact ⟨q2,q3⟩
 refine ⟨?_,hn,?_⟩
 ·rcases h with ⟨l,hl,hi,ho,hcap,hm,hlen⟩ | ⟨rfl,hb,hs,hv⟩
  ·obtain ⟨hlt,hle⟩:=List.getElem?_eq_some_iff.1 hl
   have hpd:qP d b s=d.set b.t (ji l b.p s):=by unfold qP;rw [if_neg (by omega),List.getD_eq_getElem?_getD,hl];rfl
   -- the other tours
   have hoth:∀j m,j≠b.t->d[j]?=some m->zK x m=0:=by
    intro j m hj hm'
    refine Classical.byContradiction fun hbad=>?_
    have h13:0<yO x d:=by
     rcases Nat.eq_zero_or_pos (yO x d) with e | e
     ·exact absurd (Zo.1 e m (List.mem_of_getElem? hm')) hbad
     ·exact e
    by_cases hf:zK x l=13
    ·rw [if_pos hf] at ho
     have h2:2<=yO x d:=by
      unfold yO
      obtain ⟨hjl,hje⟩:=List.getElem?_eq_some_iff.1 hm'
      have key:∀(i j:Nat),i<j->∀(a c:zG),d[i]?=some a->d[j]?=some c->zK x a≠0->zK x c≠0->2<=(d.filter fun t=>decide (zK x t≠0)).length:=by
       intro i j hij a c ha hc na nc
       obtain ⟨hil,rfl⟩:=List.getElem?_eq_some_iff.1 ha
       obtain ⟨hjl,rfl⟩:=List.getElem?_eq_some_iff.1 hc
       have e:d=d.take (i+1)++d.drop (i+1):=(List.take_append_drop _ _).symm
       rw [e,List.filter_append,List.length_append]
       have m1:d[i]∈(d.take (i+1)).filter fun t=>decide (zK x t≠0):=List.mem_filter.2 ⟨List.mem_of_getElem? (i:=i) (by rw [List.getElem?_take_of_lt (by omega)];exact ha),by simp [na]⟩
       have m2:d[j]∈(d.drop (i+1)).filter fun t=>decide (zK x t≠0):=List.mem_filter.2 ⟨List.mem_of_getElem? (i:=j-(i+1)) (by rw [List.getElem?_drop,show i+1+(j-(i+1))=j from by omega];exact hc),by simp [nc]⟩
       have:=List.length_pos_of_mem m1
       have:=List.length_pos_of_mem m2
       omega
      have nl:zK x l≠0:=by rw [hf];decide
      rcases Nat.lt_or_ge j b.t with h3 | h3
      ·exact key j b.t h3 m l hm' hl hbad nl
      ·exact key b.t j (by omega) l m hl hm' nl hbad
     omega
    ·rw [if_neg hf] at ho;omega
   -- the tour itself
   have hself:zK x l=0\/zK x l=13:=by
    by_cases hf:zK x l=13
    ·exact .inr hf
    ·rw [if_neg hf] at ho
     exact .inl (Zo.1 (by omega) l (List.mem_of_getElem? hl))
   have hst:yY x l=true:=by
    cases e:yY x l with
    | true=>rfl
    | false=>rw [Vo e] at hself;rcases hself with h | h<;>cases h
   have hne:=Xq hst
   intro t ht
   rw [hpd] at ht
   obtain ⟨j,hj⟩:=List.mem_iff_getElem?.1 ht
   rw [List.getElem?_set] at hj
   by_cases hjb:b.t=j
   ·rw [if_pos hjb,if_pos hlt] at hj
    cases hj
    rw [Ya]
    refine ⟨?_,?_,?_,?_⟩
    ·rw [Zjh (Q1 l s b.p)]
     unfold yY at hst ⊢
     simp only [List.all_cons,List.isEmpty_cons,Bool.and_eq_true] at hst ⊢
     exact ⟨⟨hg,hst.1⟩,rfl⟩
    ·have hsub:(ji l b.p s).Sublist (qP d b s).flatten:=by rw [hpd];exact vz ht
     exact hn.sublist (hsub.map _)
    ·have:=ZcS l s b.p
     unfold qJ at this
     rw [this];exact hcap
    ·have:=ZcR x l s b.p hne hi
     unfold qI at this
     rw [this,<-hm];exact hlen
   ·rw [if_neg hjb] at hj
    exact hoth j t (fun e=>hjb e.symm) hj
  ·unfold qP
   rw [if_pos rfl]
   intro t ht
   rw [List.mem_append] at ht
   rcases ht with ht | ht
   ·exact Zo.1 hb t ht
   ·simp at ht;subst ht;exact hs
 ·rcases h with ⟨l,hl,-⟩ | ⟨rfl,-,-,hv⟩
  ·have hlt:=(List.getElem?_eq_some_iff.1 hl).1
   unfold qP;rw [if_neg (by omega),List.length_set];exact q4
  ·unfold qP;rw [if_pos rfl,List.length_append];simp;omega
def qw (c:Int) (t:zG):zG:=t.filter fun s=>decide (s.c≠c)
def qj (c:Int) (d:zj):zj:=(d.map (qw c)).filter fun t=>!t.isEmpty
def Vq (c:Int) (d:zj):Int:=W ((d.flatten.filter fun s=>decide (s.c=c)).map (·.q)).sum
theorem Zji (c:Int) (a b:zj):qj c (a++b)=qj c a++qj c b:=by simp [qj]
open Go Hp
theorem JI.begin:∀(l pre:List Stop) (T:zj) (g:Int->Option Int),JI pre T g->((pre++l).map (·.c)).Nodup->∃g',JI (pre++l) (T++l.map fun s=>[s]) g'
 | [],pre,T,g,h,_=>⟨g,by simpa using h⟩
 | s :: l,pre,T,g,h,hn=>by
  have hs:s.c ∉ pre.map (·.c):=by
   rw [List.map_append,List.nodup_append] at hn
   exact fun hm=>hn.2.2 _ hm s.c (by simp) rfl
  obtain ⟨g',h'⟩:=JI.begin l (pre++[s]) (T++[[s]]) _ (h.snoc s hs) (by simpa using hn)
  exact ⟨g',by simpa using h'⟩
theorem Q3 {α:Type} (f:α->Int):∀(T:List α) (i:Nat) (a b:α),T[i]?=some a->((T.set i b).map f).sum=(T.map f).sum-f a+f b
 | [],i,a,b,h=>by simp at h
 | t :: T,0,a,b,h=>by simp at h;subst h;simp;omega
 | t :: T,i+1,a,b,h=>by
  simp only [List.getElem?_cons_succ] at h
  simp only [List.set_cons_succ,List.map_cons,List.sum_cons]
  rw [Q3 f T i a b h];omega
theorem Zjj (x:Inst):yc x []=0:=by simp [yc]
theorem Zjk {x:Inst} {a b:List Int} {u v:Int} (hu:a[a.length-1]?=some u) (hv:b[0]?=some v):yc x (a++b)=yc x a+yc x b-jS x u v:=by
 have ha:0<a.length:=by
  have:=(List.getElem?_eq_some_iff.1 hu).1;omega
 have h1:=ZhS x (a++b) (a.length-1) u v (by rw [List.getElem?_append_left (by omega)];exact hu) (by rw [Nat.sub_add_cancel ha,List.getElem?_append_right (Nat.le_refl _),Nat.sub_self];exact hv)
 rw [Nat.sub_add_cancel ha,List.take_left',List.drop_left'] at h1
 ·exact h1
 ·rfl
 ·rfl
structure KI (x:Inst) (ss:List Stop) (C:Int) (st:zj × Int):Prop where
 j:∃g,JI ss st.1 g
 may:∀t∈st.1,1<t.length->zK x t=0
 num:st.2<=x.veh
 cost:yi x st.1<=C
theorem KI.step {x:Inst} {ss:List Stop} {C:Int} {st:zj × Int} (h:KI x ss C st) {p:Pr} (ha:p.a∈ss.map (·.c)) (hb:p.b∈ss.map (·.c)) (hs:p.s=jS x p.a p.b):KI x ss C (qq x st p):=by
 obtain ⟨g,hI⟩:=h.j
 obtain ⟨i,a,sa,hia,hsa,hsac,hga,hpi⟩:=hI.there ha
 obtain ⟨k,b,sb,hkb,hsb,hsbc,hgb,hpk⟩:=hI.there hb
 have hgi:st.1.getD i []=a:=by rw [List.getD_eq_getElem?_getD,hia];rfl
 have hgk:st.1.getD k []=b:=by rw [List.getD_eq_getElem?_getD,hkb];rfl
 unfold qq YO
 rw [hpi,hpk,hgi,hgk]
 cases hc:yV x st.2 p i k a b with
 | false=>exact h
 | true =>
  simp only [cond_true]
  unfold yV at hc
  simp only [Bool.and_eq_true,decide_eq_true_eq,Bool.not_eq_true',Bool.and_eq_false_iff,decide_eq_false_iff_not] at hc
  obtain ⟨⟨⟨⟨h1,h2⟩,h3⟩,h4⟩,h5⟩:=hc
  have hn:=h.num
  have hpos:0<p.s:=by rcases h4 with h4 | h4<;>omega
  refine ⟨⟨_,hI.join hia hkb h1⟩,fun t ht hl=>?_,by simp only;omega,?_⟩
  ·rcases List.mem_or_eq_of_mem_set ht with ht | ht
   ·rcases List.mem_or_eq_of_mem_set ht with ht | ht
    ·exact h.may t ht hl
    ·rw [ht];exact h5
   ·rw [ht] at hl;simp at hl
  ·have hk2:(st.1.set i (a++b))[k]?=some b:=by rw [List.getElem?_set_ne h1];exact hkb
   have e1:=Q3 (fun t:zG=>yc x (t.map (·.c))) (st.1.set i (a++b)) k b [] hk2
   have e2:=Q3 (fun t:zG=>yc x (t.map (·.c))) st.1 i a (a++b) hia
   have e3:=Zjk (x:=x) (a:=a.map (·.c)) (b:=b.map (·.c)) (u:=p.a) (v:=p.b) (by
    unfold uR at h2;rw [List.getElem?_map,List.length_map];exact h2) (by unfold Zl at h3;rw [List.getElem?_map];exact h3)
   have hcst:=h.cost
   unfold yi at hcst ⊢
   simp only [List.map_append,List.map_nil,Zjj] at e1 e2
   rw [e3] at e2
   simp only
   omega
open Go Go.Proofs
theorem ZcV {x:Inst} (h:jh x):∀(l:List Int) (a:Int),0<=yQ x a l/\yQ x a l<=2147483648*((l.length:Int)+1)
 | [],a=>by
  have:=h a 0
  simp only [yQ,List.length_nil];omega
 | c :: l,a=>by
  have h1:=h a (c+1)
  have h2:=ZcV h l (c+1)
  simp only [yQ,List.length_cons];omega
theorem Q4 {x:Inst} (h:jh x) (l:List Int):0<=yc x l/\yc x l<=2147483648*((l.length:Int)+1):=by
 unfold yc;split
 ·omega
 ·exact ZcV h l 0
def Zp (d:zj):List (Nat × Nat):=(List.range (d.length+1)).flatMap fun t=>(List.range ((d.getD t []).length+1)).map fun p=>(t,p)
def uj (d:zj) (s:Stop) (c:Nat × Nat):zj:=qP d ⟨c.1,c.2,0⟩ s
def Vr (x:Inst) (d:zj) (s:Stop) (c:Nat × Nat):Int:=if c.1=d.length then W (yc x [s.c]) else wu x (d.getD c.1 []) s c.2
def Yb (x:Inst) (d:zj) (s:Stop) (c:Nat × Nat):Option Spot:=if yh x (uj d s c)=0 then some ⟨c.1,c.2,Vr x d s c⟩ else none
theorem ZcW (d:zj) (s:Stop) (b:Spot):qP d b s=uj d s (b.t,b.p):=rfl
theorem ZcX {d:zj} {c:Nat × Nat}:c∈Zp d<->c.1<=d.length/\c.2<=(d.getD c.1 []).length:=by
 unfold Zp
 rw [List.mem_flatMap]
 constructor
 ·rintro ⟨t,ht,hc⟩
  obtain ⟨p,hp,rfl⟩:=List.mem_map.1 hc
  rw [List.mem_range] at ht hp
  simp only;omega
 ·rintro ⟨h1,h2⟩
  exact ⟨c.1,List.mem_range.2 (by omega),List.mem_map.2 ⟨c.2,List.mem_range.2 (by omega),rfl⟩⟩
abbrev Xr (x:Inst) (d:zj) (s:Stop):Prop:=zK x [s]=1\/s.c∈d.flatten.map (·.c)\/¬(d.flatten.map (·.c)).Nodup\/x.veh<d.length
theorem ZcY {d:zj} {s:Stop} {t p:Nat} {l:zG} (hl:d[t]?=some l):uj d s (t,p)=d.set t (ji l p s):=by
 have hlt:=(List.getElem?_eq_some_iff.1 hl).1
 unfold uj qP;rw [if_neg (by simp only;omega),List.getD_eq_getElem?_getD,hl];rfl
theorem ZcZ (d:zj) (s:Stop) (p:Nat):uj d s (d.length,p)=d++[[s]]:=by
 unfold uj qP;rw [if_pos rfl]
theorem Zjl {d:zj} {s:Stop} {c:Nat × Nat} (hc:c∈Zp d):(uj d s c).flatten.Perm (s :: d.flatten):=by
 obtain ⟨t,p⟩:=c
 obtain ⟨h1,h2⟩:=ZcX.1 hc
 simp only at h1 h2
 by_cases ht:t=d.length
 ·subst ht
  rw [ZcZ]
  simp only [List.flatten_append,List.flatten_cons,List.flatten_nil,List.append_nil]
  exact List.perm_append_comm
 ·have hl:d[t]?=some (d.getD t []):=by rw [List.getD_eq_getElem?_getD,List.getElem?_eq_getElem (by omega)];rfl
  rw [ZcY hl]
  exact Vl d t _ _ s hl (Q1 _ s p)
theorem Zjm {x:Inst} {d:zj} {s:Stop} (hd:yh x d=0) {c:Nat × Nat} (hc:c∈Zp d) (h:yh x (uj d s c)=0):¬Xr x d s:=by
 have hp:=Zjl (s:=s) hc
 obtain ⟨g1,g2,g3⟩:=(xG x _).1 h
 obtain ⟨e1,e2,e3⟩:=(xG x _).1 hd
 rw [(hp.map _).nodup_iff,List.map_cons,List.nodup_cons] at g2
 rintro (q | q | q | q)
 ·obtain ⟨u,hu,hsu⟩:=List.mem_flatten.1 (hp.symm.subset (List.mem_cons_self (a:=s)))
  have hm:=((Ya x u).1 (g1 u hu)).1
  unfold yY at hm
  simp only [Bool.and_eq_true,List.all_eq_true] at hm
  have hgs:=hm.1 s hsu
  have:zK x [s]≠1:=by
   unfold zK yY
   rw [if_neg (by simp [hgs])]
   split
   ·decide
   ·split
    ·decide
    ·split<;>decide
  exact this q
 ·exact g2.1 q
 ·exact q e2
 ·omega
theorem Zc0 {x:Inst} {d:zj} {s:Stop} (hd:yh x d=0) (ho:¬Xr x d s) {t p:Nat} {l:zG} (hl:d[t]?=some l) (hp:p<=l.length) :
  yh x (uj d s (t,p))=0<->W (qJ l+s.q)<=x.cap/\W (qI x l+wu x l s p)<=x.len:=by
 obtain ⟨e1,e2,e3⟩:=(xG x _).1 hd
 have hlm:=List.mem_of_getElem? hl
 have hlt:=(List.getElem?_eq_some_iff.1 hl).1
 have hm0:=e1 l hlm
 have hne:l≠[]:=Xq ((Ya x l).1 hm0).1
 have hb:yO x d=0:=Zo.2 e1
 have hg:d.getD t []=l:=by rw [List.getD_eq_getElem?_getD,hl];rfl
 constructor
 ·intro h
  obtain ⟨g1,-,-⟩:=(xG x _).1 h
  rw [ZcY hl] at g1
  have:=g1 (ji l p s) (List.mem_of_getElem? (i:=t) (by simp [hlt]))
  obtain ⟨-,-,a,b⟩:=(Ya x _).1 this
  have ha:=ZcS l s p
  have hw:=ZcR x l s p hne hp
  unfold qJ at ha
  unfold qI at hw
  rw [ha] at a;rw [hw] at b
  exact ⟨a,b⟩
 ·rintro ⟨a,b⟩
  have hmem:(⟨t,p,wu x l s p⟩:Spot)∈yM x d s:=by
   unfold yM
   rw [if_neg ho]
   refine List.mem_append_left _ (List.mem_flatMap.2 ⟨t,List.mem_range.2 hlt,?_⟩)
   rw [hg,hb,hm0]
   unfold w9
   rw [if_neg (by simp;omega)]
   refine List.mem_filterMap.2 ⟨p,List.mem_range.2 (by omega),?_⟩
   unfold wM;rw [if_pos b]
  have:=Vp hmem
  rwa [ZcW] at this
theorem Zjn {x:Inst} {d:zj} {s:Stop} (hd:yh x d=0) (ho:¬Xr x d s):yh x (uj d s (d.length,0))=0<->zK x [s]=0/\(d.length:Int)<x.veh:=by
 obtain ⟨e1,e2,e3⟩:=(xG x _).1 hd
 have hb:yO x d=0:=Zo.2 e1
 constructor
 ·intro h
  obtain ⟨g1,-,g3⟩:=(xG x _).1 h
  rw [ZcZ] at g1 g3
  rw [List.length_append] at g3
  simp at g3
  exact ⟨g1 [s] (by simp),by omega⟩
 ·rintro ⟨a,b⟩
  have hmem:(⟨d.length,0,W (yc x [s.c])⟩:Spot)∈yM x d s:=by
   unfold yM
   rw [if_neg ho,if_pos ⟨hb,a,b⟩]
   exact List.mem_append_right _ (by simp)
  have:=Vp hmem
  rwa [ZcW] at this
theorem Zc1 {α β:Type} {f:α->Option β} {l:List α} (h:∀a∈l,f a=none):l.filterMap f=[]:=by
 rw [List.filterMap_eq_nil_iff];exact h
theorem Zc2 {α β:Type} {f g:α->List β}:∀{l:List α},(∀a∈l,f a=g a)->l.flatMap f=l.flatMap g
 | [],_=>rfl
 | a :: l,h=>by rw [List.flatMap_cons,List.flatMap_cons,h a (by simp),Zc2 fun b hb=>h b (by simp [hb])]
theorem Zc3 {α β:Type} {f g:α->Option β}:∀{l:List α},(∀a∈l,f a=g a)->l.filterMap f=l.filterMap g
 | [],_=>rfl
 | a :: l,h=>by
  have ih:=Zc3 (f:=f) (g:=g) (l:=l) fun b hb=>h b (by simp [hb])
  rw [List.filterMap_cons,List.filterMap_cons,h a (by simp),ih]
def uS (x:Inst) (d:zj) (s:Stop) (t:Nat):List Spot:=((List.range ((d.getD t []).length+1)).map fun p=>(t,p)).filterMap (Yb x d s)
theorem Zc4 {x:Inst} {d:zj} {s:Stop} (hd:yh x d=0):yM x d s=(List.range (d.length+1)).flatMap (uS x d s):=by
 by_cases ho:Xr x d s
 ·unfold yM
  rw [if_pos ho]
  symm
  rw [List.flatMap_eq_nil_iff]
  intro t ht
  rw [List.mem_range] at ht
  refine Zc1 fun c hc=>?_
  obtain ⟨p,hp,rfl⟩:=List.mem_map.1 hc
  rw [List.mem_range] at hp
  unfold Yb
  rw [if_neg]
  intro h
  exact Zjm hd (ZcX.2 ⟨by simp only;omega,by simp only;omega⟩) h ho
 ·unfold yM
  obtain ⟨e1,e2,e3⟩:=(xG x _).1 hd
  have hb:yO x d=0:=Zo.2 e1
  rw [if_neg ho,List.range_succ,List.flatMap_append]
  congr 1
  ·refine Zc2 fun t ht=>?_
   rw [List.mem_range] at ht
   have hl:d[t]?=some (d.getD t []):=by rw [List.getD_eq_getElem?_getD,List.getElem?_eq_getElem ht];rfl
   have hm0:=e1 _ (List.mem_of_getElem? hl)
   unfold uS w9
   rw [hm0,hb,List.filterMap_map]
   by_cases hcap:x.cap<W (qJ (d.getD t [])+s.q)
   ·rw [if_pos (.inr hcap)]
    symm
    refine Zc1 fun p hp=>?_
    rw [List.mem_range] at hp
    simp only [Function.comp_apply]
    unfold Yb
    rw [if_neg]
    rw [Zc0 hd ho hl (by omega)]
    omega
   ·rw [if_neg (show ¬(0<((0:Nat):Int)-(if (0:Int)=13 then 1 else 0)\/x.cap<W (qJ (d.getD t [])+s.q)) from by rintro (q | q);exact absurd q (by decide);exact hcap q)]
    refine Zc3 fun p hp=>?_
    rw [List.mem_range] at hp
    simp only [Function.comp_apply]
    have hi:=Zc0 (p:=p) hd ho hl (by omega)
    unfold Yb wM Vr
    simp only
    rw [if_neg (show ¬t=d.length by omega)]
    by_cases hw:W (qI x (d.getD t [])+wu x (d.getD t []) s p)<=x.len
    ·rw [if_pos hw,if_pos (hi.2 ⟨by omega,hw⟩)]
    ·rw [if_neg hw,if_neg fun e=>hw (hi.1 e).2]
  ·have hi:=Zjn hd ho
   simp only [List.flatMap_cons,List.flatMap_nil,List.append_nil]
   unfold uS
   rw [show d.getD d.length []=([]:zG) from by rw [List.getD_eq_getElem?_getD,List.getElem?_eq_none (Nat.le_refl _)];rfl]
   simp only [List.length_nil,Nat.zero_add,List.range_one,List.map_cons,List.map_nil,List.filterMap_cons,List.filterMap_nil]
   unfold Yb Vr
   simp only [if_true]
   by_cases hc:zK x [s]=0/\(d.length:Int)<x.veh
   ·rw [if_pos ⟨hb,hc⟩,if_pos (hi.2 hc)]
   ·rw [if_neg fun e=>hc e.2,if_neg fun e=>hc (hi.1 e)]
theorem Zc5 {α β γ:Type} (f:α->List β) (g:β->Option γ):∀l:List α,(l.flatMap f).filterMap g=l.flatMap fun a=>(f a).filterMap g
 | []=>rfl
 | a :: l=>by rw [List.flatMap_cons,List.filterMap_append,Zc5 f g l,List.flatMap_cons]
theorem Zjo {x:Inst} {d:zj} {s:Stop} (hd:yh x d=0):yM x d s=(Zp d).filterMap (Yb x d s):=by
 rw [Zc4 hd];unfold Zp;rw [Zc5];rfl
theorem Vs {x:Inst} {d:zj} (h:yh x d=0):∀t∈d,t≠[]:=fun t ht=>Xq ((Ya x t).1 (((xG x d).1 h).1 t ht)).1
def Zq (st:Int × Bool) (m:Int):Int × Bool:=if st.2=false\/m<st.1 then (m,true) else st
def Zr (l:List Int):Int × Bool:=l.foldl Zq (0,false)
def YS (x:Inst) (d:zj) (s:Stop) (n:Nat):List Int:=(List.range n).filterMap fun t=>bif (Zr ((uS x d s t).map (·.m))).2 then some (Zr ((uS x d s t).map (·.m))).1 else none
def YT (x:Inst) (d:zj) (s:Stop):List Int:=yK (YS x d s (d.length+1))
theorem Vt:∀(l:List Int) (m:Int),(l.foldl Zq (m,true)).2=true
 | [],_=>rfl
 | a :: l,m=>by
  rw [List.foldl_cons]
  unfold Zq
  split
  ·exact Vt l a
  ·exact Vt l m
theorem Zjp:Zr []=(0,false):=rfl
theorem Zjq (a:Int) (l:List Int):Zr (a :: l)=l.foldl Zq (a,true):=by
 unfold Zr;rw [List.foldl_cons];unfold Zq;simp
def xi (st:List Int × Int) (p:Spot):List Int × Int :=
 if (p.t:Int)≠st.2 then (st.1++[p.m],(p.t:Int)) else (st.1.set (st.1.length-1) (if p.m<st.1.getD (st.1.length-1) 0 then p.m else st.1.getD (st.1.length-1) 0),st.2)
theorem Zc6 (t:Nat):∀(g:List Spot) (l:List Int) (m:Int),(∀p∈g,p.t=t)->g.foldl xi (l++[m],(t:Int))=(l++[((g.map (·.m)).foldl Zq (m,true)).1],(t:Int))
 | [],l,m,_=>rfl
 | p :: g,l,m,h=>by
  have hp:=h p (by simp)
  have hs:xi (l++[m],(t:Int)) p=(l++[if p.m<m then p.m else m],(t:Int)):=by
   unfold xi
   rw [hp,if_neg (by simp)]
   simp
  have hm:Zq (m,true) p.m=(if p.m<m then p.m else m,true):=by
   unfold Zq
   by_cases q:p.m<m<;>simp [q]
  rw [List.foldl_cons,hs,List.map_cons,List.foldl_cons,hm]
  exact Zc6 t g l _ fun q hq=>h q (by simp [hq])
theorem Zjr {t:Nat} {g:List Spot} (hg:∀p∈g,p.t=t) (l:List Int) (last:Int) (hl:last<t) :
  g.foldl xi (l,last)=(l++(bif (Zr (g.map (·.m))).2 then [(Zr (g.map (·.m))).1] else []),if g=[] then last else (t:Int)):=by
 cases g with
 | nil=>simp [Zjp]
 | cons p g =>
  have hp:=hg p (by simp)
  have hs:xi (l,last) p=(l++[p.m],(t:Int)):=by
   unfold xi;rw [hp,if_pos (by simp only [ne_eq];omega)]
  rw [List.foldl_cons,hs,Zc6 t g l p.m fun q hq=>hg q (by simp [hq]),List.map_cons,Zjq,Vt]
  simp
theorem Zjs {x:Inst} {d:zj} {s:Stop} {t:Nat}:∀p∈uS x d s t,p.t=t:=by
 intro b hb
 unfold uS at hb
 obtain ⟨c,hc,he⟩:=List.mem_filterMap.1 hb
 obtain ⟨p,-,rfl⟩:=List.mem_map.1 hc
 unfold Yb at he
 split at he
 ·cases he;rfl
 ·cases he
theorem Zc7 (x:Inst) (d:zj) (s:Stop):∀n:Nat,∃last:Int,last<n/\((List.range n).flatMap (uS x d s)).foldl xi ([],-1)=(YS x d s n,last)
 | 0=>⟨-1,by omega,rfl⟩
 | n+1=>by
  obtain ⟨last,h1,h2⟩:=Zc7 x d s n
  rw [List.range_succ,List.flatMap_append,List.foldl_append,h2]
  simp only [List.flatMap_cons,List.flatMap_nil,List.append_nil]
  rw [Zjr Zjs _ _ h1]
  refine ⟨_,?_,by
   congr 1
   unfold YS
   rw [List.range_succ,List.filterMap_append]
   congr 1
   cases hm:(Zr ((uS x d s n).map (·.m))).2<;>simp [hm]⟩
  split<;>omega
theorem Zjt {x:Inst} {d:zj} {s:Stop} (hd:yh x d=0):((yM x d s).foldl xi ([],-1)).1=YS x d s (d.length+1):=by
 rw [Zc4 hd]
 obtain ⟨last,-,h⟩:=Zc7 x d s (d.length+1)
 rw [h]
theorem Zc8:∀{a b:List Int},a.Perm b->a.Pairwise (·<=·)->b.Pairwise (·<=·)->a=b
 | [],b,h,_,_=>(List.nil_perm.1 h).symm
 | x :: a,[],h,_,_=>absurd h.symm (by simp)
 | x :: a,y :: b,h,ha,hb=>by
  rw [List.pairwise_cons] at ha hb
  have hxy:x=y:=by
   have h1:x∈y :: b:=h.subset (by simp)
   have h2:y∈x :: a:=h.symm.subset (by simp)
   have q1:y<=x:=by
    rcases List.mem_cons.1 h1 with e | e
    ·omega
    ·exact hb.1 x e
   have q2:x<=y:=by
    rcases List.mem_cons.1 h2 with e | e
    ·omega
    ·exact ha.1 y e
   omega
  subst hxy
  rw [Zc8 ((List.perm_cons x).1 h) ha.2 hb.2]
open Go Go.Proofs
theorem Zju (x:Inst) (d:zj) (s:Stop) (t:Nat):(YS x d s t).length<=t:=by
 unfold YS;exact Nat.le_trans (List.length_filterMap_le _ _) (by simp)
open Go Go.Proofs
theorem Sim.drewN {C:Ctx} {S:Store} {w:World} (h:Sim C S w):∀q:Nat,Sim C S (w.drewN q)/\Step C S w C S (w.drewN q)
 | 0=>by
  have e:w.drewN 0=w:=rfl
  rw [e];exact ⟨h,.refl _ _ _⟩
 | q+1=>by
  obtain ⟨a,b⟩:=Sim.drewN h q
  obtain ⟨c,d⟩:=a.drew
  have e:w.drewN (q+1)=(w.drewN q).drew:=by unfold World.drewN World.drew;simp [Nat.add_assoc]
  rw [e]
  exact ⟨c,b.trans d⟩
theorem Zjv (zs:List Int) (c:Int) (hn:zs.length<=1048576) (hs:zs.Pairwise (·<=·)):Pure Tryz.prog 139 [L zs,I c] (.tup [I (zs.countP (·<c):Nat),B (zs.contains c)]):=by
 intro S
 refine ⟨qn Tryz.func139 (by rfl) rfl,?_⟩
 intro C w vs hS hl hr
 obtain ⟨u,v,rfl⟩:∃u v,vs=#[u,v]:=Zct hl
 obtain rfl:=Z1 (hr 1 _ v rfl rfl)
 have h0:Rel C S w (.lst zs.length (zs.flatMap Enc.enc)) u:=hr 0 _ u rfl rfl
 have hret:∀(k:Int) (b:Bool),Rel C S w (.tup [I k,B b]) (.tuple #[.int .i64 k,.bool b]):=by
  intro k b
  refine .tup rfl ?_
  intro i p v hc hv
  match i with
  | 0=>have hc:some (I k)=some p:=hc;have hv:some (Value.int .i64 k)=some v:=hv;cases hc;cases hv;exact .sc _
  | 1=>have hc:some (B b)=some p:=hc;have hv:some (Value.bool b)=some v:=hv;cases hc;cases hv;exact .sc _
  | i+2=>simp at hc
 rw [Xc] at h0
 generalize hcs:zs.map I=cs at h0
 generalize hzl:zs.length=n at h0 hn
 cases h0 with
 | lst0 =>
  obtain rfl:zs=[]:=List.eq_nil_of_length_eq_zero hzl
  refine (Tryz.slices_BinarySearch_int_empty _ _ c w).mono ?_
  rintro e w' ⟨rfl,rfl⟩
  exact ⟨_,_,_,_,rfl,⟨rfl,rfl⟩,hret 0 false,hS,.refl _ _ _⟩
 | lst1 g1 g2 g3 g4 g5 g6 g7 =>
  rename_i cap b o ca e fz
  by_cases hz:zs=[]
  ·subst hz
   simp at hzl
   subst hzl
   refine (Tryz.slices_BinarySearch_int_empty _ _ c w).mono ?_
   rintro e w' ⟨rfl,rfl⟩
   exact ⟨_,_,_,_,rfl,⟨rfl,rfl⟩,hret 0 false,hS,.refl _ _ _⟩
  ·subst hcs
   have g5':=g5 (by simpa using hz)
   rw [List.length_map] at g5'
   have hcell:∀j,j<zs.length->w.cell? ⟨b,o+j,none⟩=some (.int .i64 (zs.getD j 0)):=by
    intro j hj
    have e2:ca[o+j]?=some ca[o+j]:=by rw [Array.getElem?_eq_getElem]
    have e3:=Z1 (g7 j (I (zs.getD j 0)) _ (by simp [hj]) e2)
    rw [e3] at e2
    simp [World.cell?,g3,e2]
   refine (Tryz.slices_BinarySearch_int b o n cap zs c w (by omega) (by omega) hcell (hs.sublist (List.take_sublist _ _))).mono ?_
   rintro e w' ⟨rfl,q,rfl⟩
   obtain ⟨s1,s2⟩:=hS.drewN q
   rw [List.take_of_length_le (by omega)]
   exact ⟨_,_,_,_,rfl,⟨rfl,rfl⟩,(hret _ _).mono s2,s1,s2⟩
theorem Zjw {n k:Nat} (hk:k<n) (W:Nat->List Spot) (E:List Spot) (i:Nat) (x:List PV) (h:((W k).map vy)[i]?=some x):(((List.range n).flatMap W++E).map vy)[((List.range k).flatMap W).length+i]?=some x:=by
 obtain ⟨m,rfl⟩:∃m,n=k+(m+1):=⟨n-k-1,by omega⟩
 rw [List.getElem?_map] at h ⊢
 rw [List.range_add,List.flatMap_append,List.append_assoc,List.getElem?_append_right (Nat.le_add_right _ _),Nat.add_sub_cancel_left,List.range_succ_eq_map]
 have hi:i<(W k).length:=by
  rcases Nat.lt_or_ge i (W k).length with e | e
  ·exact e
  ·rw [List.getElem?_eq_none e] at h;cases h
 rw [List.getElem?_append_left (by simp;omega)]
 simp only [List.map_cons,List.flatMap_cons,Nat.add_zero]
 rw [List.getElem?_append_left (by omega)]
 exact h
theorem Zjx (W:Nat->List Spot) (k:Nat):((List.range (k+1)).flatMap W).length=((List.range k).flatMap W).length+(W k).length:=by
 rw [List.range_succ,List.flatMap_append,List.length_append];simp
theorem Zjy (l:List Int) (c:Int):(yK l).contains c=l.contains c:=by
 rw [Bool.eq_iff_iff,List.contains_iff_mem,List.contains_iff_mem]
 exact (List.mergeSort_perm l _).mem_iff
theorem Zc9 {x:Inst} {s:Stop} (hx:x.cust.length<=1048576) (h:zK x [s]≠1):small s.c:=by
 have:=ZcU h
 unfold qu at this
 simp only [Bool.and_eq_true,decide_eq_true_eq] at this
 unfold small;omega
theorem Zda (x:Inst) (d:zj) (s:Stop) (hx:x.cust.length<=1048576) (hdo:DayOk d) (hf:d.flatten.length<=1048576):Zi Tryz.prog 138 [.ip [I s.c,I s.q],.ip (vx x d)] ((yM x d s).map vy):=by
 have hmay:=QQ x [s] hx (by simp)
 have hse:=Zjv (yK (d.flatten.map (·.c))) s.c (by rw [Zj,List.length_map];exact hf) (QO _)
 rw [Zjy] at hse
 generalize ((yK (d.flatten.map (·.c))).countP (·<s.c):Nat)=cnt at hse
 obtain ⟨tw,htw⟩:∃tw,tw=decide (¬(yK (d.flatten.map (·.c))).Nodup):=⟨_,rfl⟩
 have htw':tw=decide (¬(d.flatten.map (·.c)).Nodup):=by rw [htw];exact decide_eq_decide.2 (not_congr (List.mergeSort_perm _ _).nodup_iff)
 obtain ⟨th,hth⟩:∃th,th=(d.flatten.map (·.c)).contains s.c:=⟨_,rfl⟩
 rw [<-hth] at hse
 have hlk:vx x d=wN x d (yK (d.flatten.map (·.c))) tw (d.map (zK x)) (yO x d) (d.map qJ) (d.map (qI x)):=by rw [htw]
 rw [hlk]
 obtain ⟨on,hon⟩:∃on,on=yK (d.flatten.map (·.c)):=⟨_,rfl⟩
 rw [<-hon] at hse ⊢
 obtain ⟨fa,hfa⟩:∃fa,fa=zK x [s]:=⟨_,rfl⟩
 rw [<-hfa] at hmay
 have hdn:=hdo.n
 refine QE Tryz.func138 (by rfl) rfl Tryz.ntmps138 (congrArg Array.toList Tryz.results138) (by simp) fun l V keep nx J hJd hY A0 hA0=>?_
 refine za (zF (some []) (Row.pures [0,1,2,3,4,5] (.alt 6 (.alt 7 (Row.pures [8] .done) .stop) .stop)) mixed trivial ?_)
 refine zN (WU s) trivial ?_
 intro v0
 refine za (zb ?_)
 refine zA hmay ?_
 refine za (zb ?_)
 refine zA hse ?_
 by_cases hout:zK x [s]=1\/s.c∈d.flatten.map (·.c)\/¬(d.flatten.map (·.c)).Nodup\/x.veh<d.length
 ·have hz:yM x d s=[]:=by unfold yM;rw [if_pos hout]
  rw [hz] at hY ⊢
  by_cases h1:fa=1
  ·repeat apply za
   refine ze [(2,30),(5,33),(9,37)] (zn h1 zx) ?_
   exact zm rfl (zg (wX (hJd _ _ hA0) rfl (by simpa using hA0)))
  cases h2:th with
  | true =>
   repeat apply za
   refine ze [(2,30),(5,33),(9,37)] (zn h1 zx) ?_
   exact zm rfl (zg (wX (hJd _ _ hA0) rfl (by simpa using hA0)))
  | false =>
   cases h3:tw with
   | true =>
    repeat apply za
    refine ze [(2,30),(5,33),(9,37)] (zn h1 zx) ?_
    exact zm rfl (zg (wX (hJd _ _ hA0) rfl (by simpa using hA0)))
   | false =>
    have h4:x.veh<d.length:=by
     rcases hout with e | e | e | e
     ·exact absurd (hfa.trans e) h1
     ·have:th=true:=by rw [hth,List.contains_iff_mem];exact e
      rw [h2] at this;cases this
     ·have:tw=true:=by rw [htw'];exact decide_eq_true e
      rw [h3] at this;cases this
     ·exact e
    repeat apply za
    refine ze [(2,30),(5,33),(9,37)] (zE h1 h4 zx) ?_
    exact zm rfl (zg (wX (hJd _ _ hA0) rfl (by simpa using hA0)))
 have h1:¬fa=1:=fun e=>hout (.inl (hfa ▸ e))
 have h2:th=false:=by
  cases e:th with
  | false=>rfl
  | true=>rw [hth,List.contains_iff_mem] at e;exact absurd (.inr (.inl e)) hout
 have h3:tw=false:=by
  cases e:tw with
  | false=>rfl
  | true=>rw [htw'] at e;exact absurd (.inr (.inr (.inl (of_decide_eq_true e)))) hout
 have h4:¬x.veh<d.length:=fun e=>hout (.inr (.inr (.inr e)))
 have hsm:=Zc9 hx (s:=s) (fun e=>hout (.inl e))
 obtain ⟨WW,hWW⟩:∃WW:Nat->List Spot,WW=fun t=>w9 x t (d.getD t []) (zK x (d.getD t [])) (yO x d) (qJ (d.getD t [])) (qI x (d.getD t [])) s:=⟨_,rfl⟩
 obtain ⟨EE,hEE⟩:∃EE:List Spot,EE=if yO x d=0/\zK x [s]=0/\(d.length:Int)<x.veh then [⟨d.length,0,W (yc x [s.c])⟩] else []:=⟨_,rfl⟩
 have hz:yM x d s=(List.range d.length).flatMap WW++EE:=by unfold yM;rw [if_neg hout,hWW,hEE]
 rw [hz] at hY ⊢
 subst h2 h3
 repeat apply za
 refine ze [(2,30),(5,33),(9,37)] (zE h1 h4 zx) ?_
 refine zo rfl (zh ?_)
 repeat apply za
 refine zb ?_
 refine zi (yP (σ:=Nat × Store) (fun s'=>s'.1<=d.length/\J ((List.range s'.1).flatMap WW).length s'.2) (fun s'=>[(0,jf l),(1,.ip [I s.c,I s.q]),(2,.ip (wN x d on false (d.map (zK x)) (yO x d) (d.map qJ) (d.map (qI x)))),(4,.ptr nx v0 0),(5,I d.length),(6,I fa),(44,I d.length),(45,I s'.1)]) (fun s'=>s'.2)
  (fun _=>[.cells v0 72 [L [s]]]) (fun s'=>d.length-s'.1) (zD (0,A0) [] (by simpa using hA0) (by simp) rfl (by simp)) ?_)
 rintro ⟨k,A⟩ ⟨hk,hJ⟩
 simp only at hk hJ ⊢
 refine za (zb ?_)
 refine za (zr rfl (fun hc=>?_) (fun hc=>?_))
 ·simp at hc
  have hdk:d[k]?=some d[k]:=List.getElem?_eq_getElem hc
  have hg:d.getD k []=d[k]:=by rw [List.getD_eq_getElem?_getD,hdk];rfl
  have hb:zK x d[k]=13->0<yO x d:=by
   intro e
   rcases Nat.eq_zero_or_pos (yO x d) with q | q
   ·rw [Zo.1 q _ (List.getElem_mem hc)] at e;cases e
   ·exact q
  have hw:=Zi9 x d on false (d.map (zK x)) (yO x d) (d.map qJ) (d.map (qI x)) k d[k] s (zK x d[k]) (qJ d[k]) (qI x d[k]) (Nat.le_trans (ZcH x d) hdn) hdn hdk (by rw [List.getElem?_map,hdk];rfl) (by rw [List.getElem?_map,hdk];rfl) (by rw [List.getElem?_map,hdk];rfl) (by simp) (by simp) (by simp) hb (hdo.t _ (List.getElem_mem hc)) (hdo.s _ (List.getElem_mem hc)) hsm
  have hWk:WW k=w9 x k d[k] (zK x d[k]) (yO x d) (qJ d[k]) (qI x d[k]) s:=by rw [hWW];simp only [hg]
  rw [<-hWk] at hw
  have hlen:=Zjx WW k
  refine zh (za (zi (za (zb ?_))))
  refine za (z8 [] (by rfl) (by rfl) fun K Gc Gh hK hGc hGh X hX0 hX=>?_)
  simp -implicitDefEqProofs [hX0,hX]
  try clear hX0 hX X
  refine hGc _ _ _ _ _ _ _ fun hsuf=>((ZcK hw keep hY _ (Zjw hc WW EE) hJ _).mono ?_)
  rintro _ _ ⟨A',rfl,hJ',rfl⟩
  rw [List.length_map,<-hlen] at hJ'
  refine ⟨_,_,rfl,?_⟩
  clear hGc hGh
  clear Gc Gh
  refine zW hsuf (D:=[]) (by rfl) fun Gc Gh hGc hGh X hX0 hX=>?_
  simp -implicitDefEqProofs [hX0,hX]
  clear hX0 hX X
  refine hK _ _ _ ?_
  clear hK hGc hGh
  clear K Gc Gh
  refine zo rfl (zh (zb ?_))
  exact zq (k+1,A') [] ⟨hc,hJ'⟩ (by simp;omega) (by simp [zt k (by omega)]) rfl (by simp)
 ·simp at hc
  obtain rfl:k=d.length:=by omega
  refine zu ?_
  by_cases he:yO x d=0/\zK x [s]=0/\(d.length:Int)<x.veh
  ·have hE:EE=[⟨d.length,0,W (yc x [s.c])⟩]:=by rw [hEE,if_pos he]
   obtain ⟨e1,e2,e3⟩:=he
   have hlw:=QN x [s] (by simp) (by simpa using hsm)
   have h5:fa=0:=hfa.trans e2
   have hy:(((List.range d.length).flatMap WW++EE).map vy)[((List.range d.length).flatMap WW).length]?=some (vy ⟨d.length,0,W (yc x [s.c])⟩):=by
    rw [List.getElem?_map,List.getElem?_append_right (Nat.le_refl _),Nat.sub_self,hE];rfl
   simp only [List.map_cons,List.map_nil] at hlw
   refine za (ze [(3,58),(7,62)] (zP e1 h5 e3 zx) ?_)
   refine zm rfl (z8 [] (by rfl) (by rfl) fun K Gc Gh hK hGc hGh X hX0 hX=>?_)
   simp -implicitDefEqProofs [hX0,hX]
   try clear hX0 hX X
   refine hGc _ _ _ _ _ _ _ fun hsuf=>((hlw _).mono ?_).v
   rintro _ _ ⟨rfl,rfl⟩
   refine ⟨_,_,rfl,?_⟩
   clear hGc hGh
   clear Gc Gh
   refine zW hsuf (D:=[]) (by rfl) fun Gc Gh hGc hGh X hX0 hX=>?_
   simp -implicitDefEqProofs [hX0,hX]
   try clear hX0 hX X
   refine hGh _ _ _ _ _ fun hsuf=>YD rfl rfl rfl (hY _ _ _ _ hy hJ) ?_
   rintro _ ⟨A',hJ',rfl⟩
   refine ⟨_,_,rfl,?_⟩
   clear hGc hGh
   clear Gc Gh
   refine zW hsuf (D:=[]) (by rfl) fun Gc Gh hGc hGh X hX0 hX=>?_
   simp -implicitDefEqProofs [hX0,hX]
   try clear hX0 hX X
   refine hK _ _ _ ?_
   clear hK hGc hGh
   clear K Gc Gh
   exact wX (hJd _ _ hJ') rfl (by rw [List.length_map,List.length_append,hE];exact hJ')
  ·have hE:EE=[]:=by rw [hEE,if_neg he]
   have hfin:J (((List.range d.length).flatMap WW++EE).map vy).length A:=by rw [hE,List.append_nil,List.length_map];exact hJ
   by_cases e1:yO x d=0
   ·by_cases e2:fa=0
    ·have e3:¬(d.length:Int)<x.veh:=fun e=>he ⟨e1,hfa ▸ e2,e⟩
     refine za (ze [(3,58),(7,62)] (zP e1 e2 e3 zx) ?_)
     exact zo rfl (zh (wX (hJd _ _ hJ) rfl hfin))
    ·refine za (ze [(3,58),(7,62)] (zE e1 e2 zx) ?_)
     exact zo rfl (zh (wX (hJd _ _ hJ) rfl hfin))
   ·refine za (ze [(3,58),(7,62)] (zn e1 zx) ?_)
    exact zo rfl (zh (wX (hJd _ _ hJ) rfl hfin))
open Go Go.Proofs
theorem Zdb (id v:Nat) (cs:List PV) (d:zj):(d.flatMap Enc.enc).map (yU id v cs)=(d.flatMap Enc.enc:List PV):=by
 induction d with
 | nil=>rfl
 | cons l d ih=>rw [List.flatMap_cons,List.map_append,ih];rfl
theorem Zjz (id v:Nat) (cs:List PV) (d:zj) (t:Nat) (p:PV):((d.flatMap Enc.enc).set t p).map (yU id v cs)=(d.flatMap Enc.enc:List PV).set t (yU id v cs p):=by
 rw [List.map_set,Zdb]
theorem Zdc:∀(d:zj) (t:Nat) (l:zG),(d.flatMap Enc.enc:List PV).set t (L l)=(d.set t l).flatMap Enc.enc
 | [],t,l=>rfl
 | m :: d,0,l=>rfl
 | m :: d,t+1,l=>by
  rw [List.set_cons_succ,List.flatMap_cons,List.flatMap_cons,<-Zdc d t l]
  rfl
theorem ZjA {S:Store} {nx m:Nat} {obs:List Ob} (x y:Ob) (hm:m=nx+obs.length):((ext S nx obs).set (m+3) x).set (m+4) y=ext S nx (obs++[.dead,.dead,.dead,x,y]):=by
 subst hm
 rw [J6 3]
 have:=jl (S:=S) (nx:=nx) (obs:=obs++List.replicate 3 .dead++[x]) y
 simpa [Nat.add_assoc] using this
theorem ZjB (d:zj) (hd0:d.length<=1048576) (hd1:∀l∈d,l.length<=1048576) (S:Store) (nx:Nat) (hd:zQ nx S) :
  Spec Tryz.prog 100 [.agg [L d]] S (fun p S'=>∃v,p=.agg [.sl (nx+3) v 1 0 d.length]/\S'=S.set (nx+3) (.cells v 72 (d.flatMap Enc.enc))):=by
 refine (Vj d d.length hd0 hd1 (by simp) S nx hd).mono ?_
 rintro _ _ ⟨v,ts,ob,⟨h1,h2,-⟩,rfl,rfl⟩
 obtain ⟨rfl,rfl⟩:=h2 (Nat.le_refl _)
 rw [List.take_length]
 refine ⟨v,rfl,?_⟩
 funext o
 by_cases h4:o=nx+4
 ·subst h4
  rw [Store.set_same,Store.set_other _ _ _ _ (by omega),hd _ (by omega)]
 ·rw [Store.set_other _ _ _ _ h4]
theorem ZjC (cs:List PV) (i:Nat) (p q:PV) (h:i<cs.length):yb (cs.set i p) i [q]=cs.set i q:=by
 unfold yb
 rw [List.set_eq_take_append_cons_drop,if_pos h,List.set_eq_take_append_cons_drop,if_pos h]
 have hl:(cs.take i).length=i:=by rw [List.length_take];omega
 rw [List.take_append_of_le_length (by omega),List.take_of_length_le (by omega),List.drop_append,hl,List.drop_of_length_le (by rw [hl];simp)]
 simp
theorem Zdd (id v sz k:Nat) (cs:List PV) (h:k*sz=cs.length):yU id v cs (.sl id v sz 0 k)=.lst k cs:=by simp [yU,h]
theorem Vu {α β:Type} {f:β->α->β} {b:β} {l:List α} {i:Nat} {a:α} (h:l[i]?=some a):(l.take (i+1)).foldl f b=f ((l.take i).foldl f b) a:=by
 obtain ⟨hi,rfl⟩:=List.getElem?_eq_some_iff.1 h
 rw [List.take_succ_eq_append_getElem hi,List.foldl_append];rfl
theorem ZjD {x:Inst} {d:zj} {s:Stop} {b:Spot} (h:b∈yM x d s) (hb:b.t≠d.length):∃l,d[b.t]?=some l/\0<l.length/\b.p<=l.length:=by
 obtain ⟨-,-,-,-,h⟩:=QZ h
 rcases h with ⟨l,hl,hi,ho,-⟩ | ⟨rfl,-⟩
 ·refine ⟨l,hl,?_,hi⟩
  have hself:zK x l=0\/zK x l=13:=by
   by_cases hf:zK x l=13
   ·exact .inr hf
   ·rw [if_neg hf] at ho
    exact .inl (Zo.1 (by omega) l (List.mem_of_getElem? hl))
  have hst:yY x l=true:=by
   cases e:yY x l with
   | true=>rfl
   | false=>rw [Vo e] at hself;rcases hself with h | h<;>cases h
  exact List.length_pos_iff.2 (Xq hst)
 ·exact absurd rfl hb
theorem ZjE {x:Inst} {d:zj} {s:Stop} {b:Spot} (h:b∈yM x d s):b.t<=d.length:=by
 obtain ⟨-,-,-,-,h⟩:=QZ h
 rcases h with ⟨l,hl,-⟩ | ⟨rfl,-⟩
 ·exact Nat.le_of_lt (List.getElem?_eq_some_iff.1 hl).1
 ·exact Nat.le_refl _
theorem Vv (x:Inst) (d:zj) (s:Stop) (hx:x.cust.length<=1048576) (hdo:DayOk d) (hf:d.flatten.length<=1000000):Pure Tryz.prog 57 [.agg (zv x),.agg [L d],.agg [I s.c,I s.q]] (.tup [.agg [L (yE x d s).1],B (yE x d s).2]):=by
 have hit:=Zda x d s hx hdo (by omega)
 have hsee:=ZcI x d hx hdo (by omega)
 have hmem:=fun h=>Xp (l:=yM x d s) h
 have hle:∀b∈yM x d s,b.t<=d.length:=fun b hb=>ZjE hb
 have htour:∀b∈yM x d s,b.t≠d.length->∃l,d[b.t]?=some l/\0<l.length/\b.p<=l.length:=fun b hb=>ZjD hb
 have hins:yE x d s=bif (xU (yM x d s)).2 then (qP d (xU (yM x d s)).1 s,true) else (d,false):=rfl
 have hsF:=ZcF (vx x d) s rfl
 rw [hins]
 clear hins
 generalize yM x d s=xs at *
 generalize hlk:vx x d=lk at *
 have hdn:=hdo.n
 have hd1:∀l∈d,l.length<=1000000:=fun l hl=>Nat.le_trans (vz hl).length_le hf
 refine zz Tryz.func57 Tryz.ntmps57 Tryz.results57 fun S nx hd=>?_
 refine za (zb ?_)
 intro v0 v1 v2 v3
 refine za (zb ?_)
 intro v4 v5
 repeat apply za
 refine zF none (Row.pures [0,1,2,3,4] .done) mixed trivial ?_
 refine zN (hsee) trivial ?_
 refine zN (hsF) trivial ?_
 refine zi (YE (xs:=xs.map vy) (σ:=Spot × Bool) (fun i st=>st=(xs.take i).foldl ui (⟨0,0,0⟩,false)) [(3,.ptr nx v0 0),(4,.ptr (nx+1) v1 0),(5,.ptr (nx+2) v2 0),(6,.ptr (nx+3) v3 0),(8,.ptr (nx+4) v4 0),(9,.ptr (nx+5) v5 0)] (fun _=>S)
  (fun (b,found)=>[.cells v0 25 (zv x),.cells v1 58 [L d],.cells v2 35 [I s.c,I s.q],.cells v3 58 [yy],.cells v4 136 [I b.t,I b.p,I b.m],.cells v5 4 [B found]]) (⟨0,0,0⟩,false)
  hit rfl (by intro x hx;obtain ⟨y,_,rfl⟩:=List.mem_map.1 hx;rfl) (by decide) (by simp) (by simp) rfl (by simp) (by simp) ?_ ?_)
 ·rintro l i ⟨b,found⟩ more y hst hy
  simp only at hst ⊢
  rw [List.getElem?_map] at hy
  obtain ⟨p,hp,rfl⟩:=Option.map_eq_some_iff.1 hy
  have hsucc:=Vu (f:=ui) (b:=(⟨0,0,0⟩,false)) hp
  rw [<-hst] at hsucc
  unfold ui at hsucc
  simp only at hsucc
  refine zb ?_
  intro v6
  refine zi ?_
  cases found with
  | false =>
   rw [if_pos (.inl rfl)] at hsucc
   refine za (ze [(2,21)] zx ?_)
   refine zm rfl (zb ?_)
   simp only [qz]
   exact xA (p,true) [_] hsucc.symm rfl (by simp;rfl)
  | true =>
   by_cases hm:p.m<b.m
   ·rw [if_pos (.inr hm)] at hsucc
    refine za (ze [(2,21)] (zn hm zx) ?_)
    refine zm rfl (zb ?_)
    simp only [qz]
    exact xA (p,true) [_] hsucc.symm rfl (by simp;rfl)
   ·rw [if_neg (by simp [hm])] at hsucc
    refine za (ze [(2,21)] (zn hm zx) ?_)
    refine zo rfl (zh ?_)
    simp only [qz]
    exact xA (b,true) [_] hsucc.symm rfl (by simp;rfl)
 ·rintro ⟨b,found⟩ hst
  simp only [List.length_map,List.take_length] at hst ⊢
  have hbz:xU xs=(b,found):=hst.symm
  rw [hbz] at hmem ⊢
  simp only at hmem ⊢
  cases found with
  | false =>
   simp only [cond_false]
   refine za (zb ?_)
   refine zA (Zi5 d hdn (fun l hl=>Nat.le_trans (hd1 l hl) (by decide))) ?_
   refine za (zi (za (zb ?_)))
   refine zm rfl (za (zb ?_))
   exact zg (zk hd (by simp;rfl) (by simp [zp]))
  | true =>
   have hb:=hmem rfl
   have hbl:=hle b hb
   simp only [cond_true]
   by_cases hbt:b.t=d.length
   ·have hpd:qP d b s=d++[[s]]:=by unfold qP;rw [if_pos hbt]
    rw [hpd]
    have hfl:(d.flatMap Enc.enc:List PV).length=d.length:=jg d
    have htk:(d.flatMap Enc.enc:List PV).take d.length=d.flatMap Enc.enc:=List.take_of_length_le (by omega)
    have hsn:((d++[[s]]).flatMap Enc.enc:List PV)=d.flatMap Enc.enc++[L [s]]:=by rw [List.flatMap_append];rfl
    refine za (z8 [] (by rfl) (by rfl) fun K Gc Gh hK hGc hGh X hX0 hX=>?_)
    simp -implicitDefEqProofs [hX0,hX]
    try clear hX0 hX X
    refine hGc _ _ _ _ _ _ _ fun hsuf=>((ZjB d hdn (fun l hl=>Nat.le_trans (hd1 l hl) (by decide)) _ _ qN).mono ?_).v
    rintro _ _ ⟨v7,rfl,rfl⟩
    refine ⟨_,_,J6 3 _,?_⟩
    clear hGc hGh
    clear Gc Gh
    refine zW hsuf (D:=[]) (by rfl) fun Gc Gh hGc hGh X hX0 hX=>?_
    simp -implicitDefEqProofs [hX0,hX,Nat.add_assoc]
    clear hX0 hX X
    refine hK _ _ _ ?_
    clear hK hGc hGh
    clear K Gc Gh
    generalize hds:(d.flatMap Enc.enc:List PV)=ds at *
    refine za (zi (za (zb ?_)))
    refine zo rfl (za (zb ?_))
    refine zm (by simp;omega) ?_
    refine zF (some [nx+2]) (Row.pures [0,2,3,4] (.alt 1 (.alt 5 (Row.pures [6] (.alt 7 (.done) .stop)) .stop) .stop)) mixed (zn hfl htk) ?_
    refine zN (WU s) (zn hfl htk) ?_
    refine ⟨by omega,?_⟩
    refine zX 9 rfl ?_
    refine za (zb ?_)
    exact zg (zk hd (by simp;rfl) (by simp [zp,hfl,hds]))
   ·obtain ⟨l,hl,hl0,hp⟩:=htour b hb hbt
    have hblt:b.t<d.length:=by omega
    have hpd:qP d b s=d.set b.t (ji l b.p s):=by unfold qP;rw [if_neg hbt,List.getD_eq_getElem?_getD,hl];rfl
    have hl1:=hd1 l (List.mem_of_getElem? hl)
    rw [hpd]
    refine za (z8 [] (by rfl) (by rfl) fun K Gc Gh hK hGc hGh X hX0 hX=>?_)
    simp -implicitDefEqProofs [hX0,hX]
    try clear hX0 hX X
    refine hGc _ _ _ _ _ _ _ fun hsuf=>((Zi6 d b.t l hdn (fun l hl=>Nat.le_trans (hd1 l hl) (by decide)) hl hl0 _ _ qN).mono ?_).v
    rintro _ _ ⟨v7,w7,rfl,rfl⟩
    refine ⟨_,_,ZjA _ _ rfl,?_⟩
    clear hGc hGh
    clear Gc Gh
    refine zW hsuf (D:=[]) (by rfl) fun Gc Gh hGc hGh X hX0 hX=>?_
    simp -implicitDefEqProofs [hX0,hX,Nat.add_assoc]
    clear hX0 hX X
    refine hK _ _ _ ?_
    clear hK hGc hGh
    clear K Gc Gh
    refine za (zi (za (zb ?_)))
    refine zo rfl (za (zb ?_))
    refine zo (by simp;omega) ?_
    refine za (ze [] hblt ?_)
    refine wG (some [nx+4,nx+2]) (Row.pures [0,1,2,3,5,6,7,8] (.alt 4 (.alt 9 (Row.pures [10,11] (.alt 12 (.done) .stop)) .stop) .stop)) mixed (by rfl) (by rfl) (by rfl) fun K Gp Gc Gh hK hGp hGc hGh X hX0 hX1 hX2 hX=>?_
    simp -implicitDefEqProofs [hX0,hX1,hX2,hX,hblt]
    try clear hX0 hX1 hX2 hX X
    refine hGc _ _ _ _ _ _ _ ?_
    refine ((Zi2 l b.p s hp hl1 (by simp)).mono ?_).v
    rintro _ _ ⟨rfl,rfl⟩
    have hcl:((ji l b.p s).flatMap Enc.enc:List PV).length=(l.length+1)*2:=by
     have e:=(Q1 l s b.p).length_eq
     rw [wd,e];simp
    have hLi:L (ji l b.p s)=.lst (l.length+1) ((ji l b.p s).flatMap Enc.enc):=by
     have e:=(Q1 l s b.p).length_eq
     show PV.lst _ _=_
     rw [e];rfl
    rw [show l.take b.p++s :: l.drop b.p=ji l b.p s from rfl]
    generalize hcs:((ji l b.p s).flatMap Enc.enc:List PV)=cs at *
    rw [qA _ (by omega) (by simp),Nat.add_sub_cancel_left]
    refine ⟨by simp [yB],?_⟩
    clear hGp hGc hGh
    clear Gp Gc Gh
    refine jm fun Gp Gc Gh hGp hGc hGh X hX0 hX1 hX2 hX=>?_
    simp -implicitDefEqProofs [hX0,hX1,hX2,hX,hblt]
    try clear hX0 hX1 hX2 hX X
    refine ⟨by omega,?_⟩
    refine hK _ _ _ ?_
    clear hK hGp hGc hGh
    clear K Gp Gc Gh
    rw [ZjC _ _ _ _ (by rw [jg];exact hblt)]
    have e10:yU (nx+10) (w7+1) cs (.sl (nx+10) (w7+1) 2 0 (l.length+1))=L (ji l b.p s):=by
     rw [Zdd _ _ _ _ _ hcl.symm,hLi]
    have e9:yU (nx+9) v7 ((d.set b.t (ji l b.p s)).flatMap Enc.enc) (.sl (nx+9) v7 1 0 d.length)=L (d.set b.t (ji l b.p s)):=by
     rw [Zdd _ _ _ _ _ (by rw [jg];simp)]
     show _=PV.lst _ _
     rw [List.length_set]
    have n9:yU (nx+10) (w7+1) cs (.sl (nx+9) v7 1 0 d.length)=.sl (nx+9) v7 1 0 d.length:=by
     simp only [yU];rw [if_neg (by omega)]
    refine zX 10 rfl ?_
    simp only [List.map_cons,List.map_nil,List.set_cons_succ,List.set_cons_zero,jI,Zjz,e10,Zdc,n9]
    refine zX 9 rfl ?_
    simp only [List.map_cons,List.map_nil,List.set_cons_succ,List.set_cons_zero,jI,e9]
    refine za (ze [] (zn e9 n9) ?_)
    exact zg (zk hd (by simp;rfl) (by simp [zp]))
open Go Go.Proofs
theorem Zde {α:Type} (f:Nat->List α) (m:Nat):∀n,(∀t,t<n->(f t).length<=m)->((List.range n).flatMap f).length<=n*m
 | 0,_=>by simp
 | n+1,h=>by
  rw [List.range_succ,List.flatMap_append,List.length_append]
  have h1:=Zde f m n fun t ht=>h t (by omega)
  have h2:=h n (by omega)
  simp only [List.flatMap_cons,List.flatMap_nil,List.append_nil]
  rw [Nat.add_mul,Nat.one_mul];omega
theorem ZjF {d:zj} (h1:d.length<=1000000) (h2:d.flatten.length<=1000000):(Zp d).length<=1000001*1000001:=by
 unfold Zp
 refine Nat.le_trans (Zde _ 1000001 _ fun t _=>?_) (Nat.mul_le_mul_right _ (by omega))
 rw [List.length_map,List.length_range,List.getD_eq_getElem?_getD]
 cases hq:d[t]? with
 | none=>simp
 | some l =>
  have:=(vz (List.mem_of_getElem? hq)).length_le
  simp only [Option.getD_some];omega
theorem ZjG {x:Inst} {d:zj} {s:Stop} (hd:yh x d=0) (h1:d.length<=1000000) (h2:d.flatten.length<=1000000):(yM x d s).length<=1000001*1000001:=by
 rw [Zjo hd];exact Nat.le_trans (List.length_filterMap_le _ _) (ZjF h1 h2)
theorem ZjH (cs:List PV) (v:PV) (h:0<cs.length):yb cs (cs.length-1) [v]=cs.set (cs.length-1) v:=by
 unfold yb
 rw [List.set_eq_take_append_cons_drop,if_pos (by omega)];simp
theorem Zdf:∀(l:List Int) (k:Nat) (v:Int),(l.flatMap Enc.enc:List PV).set k (I v)=(l.set k v).flatMap Enc.enc
 | [],k,v=>rfl
 | a :: l,0,v=>rfl
 | a :: l,k+1,v=>by
  rw [List.set_cons_succ,List.flatMap_cons,List.flatMap_cons,<-Zdf l k v]
  rfl
theorem ZjI (st:List Int × Int) (p:Spot):(xi st p).1.length<=st.1.length+1:=by
 unfold xi;split<;>simp
def Vw (st:List Int × Int):Prop:=st.2=-1\/0<st.1.length
theorem ZjJ {st:List Int × Int} (h:Vw st) (p:Spot):Vw (xi st p):=by
 unfold xi
 split
 ·exact .inr (by simp)
 ·rename_i e
  rcases h with h | h
  ·exfalso;simp only [ne_eq] at e;omega
  ·exact .inr (by simpa using h)
theorem ZjK (x:Inst) (d:zj) (s:Stop) (hx:x.cust.length<=1048576) (hdo:DayOk d) (h0:yh x d=0) (h1:d.length<=1000000) (h2:d.flatten.length<=1000000):Pure Tryz.prog 266 [.agg (vx x d),.agg [I s.c,I s.q]] (L (YT x d s)):=by
 have hit:=Zda x d s hx hdo (by omega)
 have hfold:=Zjt (s:=s) h0
 have hlen:=ZjG (s:=s) h0 h1 h2
 have hml:=Zju x d s (d.length+1)
 have hsF:=ZcF (vx x d) s rfl
 unfold YT
 rw [<-hfold] at hml ⊢
 clear hfold
 generalize yM x d s=xs at *
 obtain ⟨on,tw,fs,bd,ls,ws,hlk⟩:∃on tw fs bd ls ws,vx x d=wN x d on tw fs bd ls ws:=⟨_,_,_,_,_,_,rfl⟩
 rw [hlk] at hit hsF ⊢
 clear hlk
 refine zz Tryz.func266 Tryz.ntmps266 Tryz.results266 fun S nx hd=>?_
 refine za (zb ?_)
 intro v0 v1
 refine za (zb ?_)
 intro v2
 refine za (zb ?_)
 intro v3
 repeat apply za
 refine zb ?_
 refine zA hsF ?_
 refine y8 2 0 3 1 rfl rfl fun v4=>?_
 refine zi (YE (xs:=xs.map vy) (σ:=(List Int × Int) × Nat) (fun i st=>st.1=(xs.take i).foldl xi ([],-1)/\Vw st.1/\st.1.1.length<=i/\i<=xs.length) [(2,.ptr nx v0 0),(3,.ptr (nx+1) v1 0),(5,.ptr (nx+2) v2 0),(6,.ptr (nx+3) v3 0)] (fun _=>S)
  (fun ((l,last),v4)=>[.cells v0 140 (wN x d on tw fs bd ls ws),.cells v1 35 [I s.c,I s.q],.cells v2 45 [.sl (nx+4) v4 1 0 l.length],.cells v3 3 [I last],.cells v4 3 (l.flatMap Enc.enc)]) (([],-1),v4)
  hit rfl (by intro x hx;obtain ⟨y,_,rfl⟩:=List.mem_map.1 hx;rfl) (by decide) (by simp) ⟨rfl,.inl rfl,by simp,by simp⟩ rfl (by simp) (by simp) ?_ ?_)
 ·rintro lp i ⟨⟨l,last⟩,v4⟩ more y ⟨hst,hok,hli,hi⟩ hy
  simp only at hst hok hli hi ⊢
  rw [List.getElem?_map] at hy
  obtain ⟨p,hp,rfl⟩:=Option.map_eq_some_iff.1 hy
  have hsucc:=Vu (f:=xi) (b:=([],-1)) hp
  rw [<-hst] at hsucc
  have hok2:=ZjJ hok p
  have hln2:=ZjI (l,last) p
  simp only at hln2
  have hil:=(List.getElem?_eq_some_iff.1 hp).1
  have hdef:xi (l,last) p=xi (l,last) p:=rfl
  conv at hdef=>rhs;unfold xi
  simp only at hdef
  have hlf:(l.flatMap Enc.enc:List PV).length=l.length:=qY l
  have hlt:(l.flatMap Enc.enc:List PV).take l.length=l.flatMap Enc.enc:=List.take_of_length_le (by omega)
  refine zb ?_
  intro v5
  refine zi ?_
  repeat apply za
  refine zb ?_
  by_cases hpl:(p.t:Int)=last
  ·have hl0:0<l.length:=by
    rcases hok with e | e
    ·simp only at e;omega
    ·exact e
   obtain ⟨m,hm⟩:∃m,l.length=m+1:=⟨l.length-1,by omega⟩
   obtain ⟨z,tz,z1,z2,z3,z0⟩:=zC rfl l m (by omega)
   rw [if_neg (by simp [hpl])] at hdef
   have hgz:l.getD (l.length-1) 0=z:=by rw [hm,Nat.add_sub_cancel,List.getD_eq_getElem?_getD,z1];rfl
   rw [hgz] at hdef
   have wm:IntKind.i64.wrap ((l.length:Int)-1)=(m:Int):=by rw [wr _ (by omega) (by omega)];omega
   have hml1:m<l.length:=by omega
   have hml2:1<=l.length-m:=by omega
   have hsp:=ZjH (l.flatMap Enc.enc) (I (if p.m<z then p.m else z)) (by omega)
   rw [hlf,Zdf] at hsp
   have hmin:vk z p.m=if p.m<z then p.m else z:=rfl
   refine zo (by simp [hpl]) ?_
   refine zh ?_
   rw [show l.length-1=m by omega] at hsp
   refine zF (some [nx+2,nx+(more.length+5)]) (Row.pures [0,1,2,3,4,5,6,7,8,10,11] (.alt 9 (Row.pures [12,13] (.alt 14 (.done) .stop)) .stop)) mixed (zL wm hml1 hml2 z0 hmin hlf) ?_
   refine ⟨by omega,?_⟩
   simp only [qz]
   rw [hm,Nat.add_sub_cancel] at hdef
   rw [hdef] at hsucc hok2
   refine xA ((l.set m (if p.m<z then p.m else z),last),v4) [_] ⟨hsucc.symm,hok2,by simp;omega,by omega⟩ rfl (by simp [hsp];rfl)
  ·rw [if_pos hpl] at hdef
   rw [hdef] at hsucc hok2 hln2
   have w0:IntKind.i64.wrap (l.length:Int)=(l.length:Int):=wr _ (by omega) (by omega)
   have w2:(l.length:Int)<(l.length:Int)+1:=by omega
   have hmin:vk p.m p.m=p.m:=by unfold vk;split<;>rfl
   have hat:(l.flatMap Enc.enc++[I p.m]:List PV)[l.length]?=some (I p.m):=by rw [List.getElem?_append_right (by omega),hlf,Nat.sub_self];rfl
   have hdl:(l.flatMap Enc.enc++[I p.m]:List PV).drop l.length=[I p.m]:=by rw [<-hlf,List.drop_left]
   have hspl:yb (l.flatMap Enc.enc++[I p.m]:List PV) l.length [I p.m]=l.flatMap Enc.enc++[I p.m]:=by
    unfold yb
    rw [<-hlf,List.take_left,List.drop_of_length_le (by simp)];simp
   refine zm (by simp [hpl]) ?_
   refine zF (some [nx+(more.length+5)]) (Row.pures [1,2,3,5,6] (.alt 0 (.alt 4 (.alt 7 (.alt 8 (.done) .stop) .stop) .stop) .stop)) mixed (zn hlf hlt) ?_
   refine ⟨by omega,?_⟩
   refine zF (some [nx+2,nx+(more.length+5)]) (Row.pures [0,1,2,3,4,5,6,7,8,10,11] (.alt 9 (Row.pures [12,13] (.alt 14 (.done) .stop)) .stop)) mixed (yD w0 w2 hmin hat hlf) ?_
   simp only [qz]
   refine xA ((l++[p.m],(p.t:Int)),v4+1) [_] ⟨hsucc.symm,hok2,by simp;omega,by omega⟩ rfl (by simp [hspl];rfl)
 ·rintro ⟨⟨l,last⟩,v4⟩ ⟨hst,-⟩
  simp only [List.length_map,List.take_length] at hst ⊢
  rw [<-hst] at hml ⊢
  simp only at hml ⊢
  have hz4:=Zj l
  refine za (z8 [] (by rfl) (by rfl) fun K Gc Gh hK hGc hGh X hX0 hX=>?_)
  simp -implicitDefEqProofs [hX0,hX]
  try clear hX0 hX X
  refine hGc _ _ _ _ _ _ _ fun hsuf=>((Xd l (by simp) (by omega)).mono ?_).v
  rintro _ _ rfl
  refine ⟨_,_,qA _ (by omega) (by simp),?_⟩
  clear hGc hGh
  clear Gc Gh
  refine zW hsuf (D:=[]) (by rfl) fun Gc Gh hGc hGh X hX0 hX=>?_
  simp -implicitDefEqProofs [hX0,hX,(show nx+4-nx=4 by omega)]
  clear hX0 hX X
  refine hK _ _ _ ?_
  clear hK hGc hGh
  clear K Gc Gh
  generalize yK l=c at *
  rw [<-hz4]
  refine zX 4 rfl ?_
  refine za (zb ?_)
  exact zg (zk hd (by simp;rfl) rfl)
open Go Go.Proofs Go.Shelf Go.RowKit Go.Lib
theorem ZjL {P:Program} (b o:Nat) (vs:List Value) (w:World) (cur:Array Value) (t:TypeId) (hw:w.heap[b]?=some (.cells cur t (0,0))) (hl:o+vs.length<=cur.size) (h1:∀v∈vs,v.oneCell'=true) :
  w.setCells b o vs=w.setRow b (cur.toList.take o++vs++cur.toList.drop (o+vs.length)).toArray:=by
 have a:=run_storeCells_cells (P:=P) b o vs 0 w (fun j hj=>by simp [World.cell?,hw];omega) (fun j _=>by simp [World.frozen?,hw]) h1
 have c:=run_storeCells_at (P:=P) b o t vs 0 cur w hw (by simpa using hl) h1
 rw [a] at c
 simpa using c
theorem ZjM (zc:Array Value):(Builtin.zeroCells zc 1).toList=zc.toList:=by
 apply List.ext_getElem
 ·simp [Builtin.zeroCells]
 ·intro i h1 h2
  simp [Builtin.zeroCells,Nat.mod_eq_of_lt (show i<zc.size by simpa using h2)]
  exact getElem!_pos zc i (by simpa using h2)
theorem ZjN {P:Program} (w:World) (t e ty:TypeId) (zc:Array Value) (ht:P.underlying t=some (.slice e)) (hv:∀w,(zeroValue e).run P w=.ok (.agg zc) w) (h1:∀v∈zc.toList,v.oneCell'=true) (b o c:Nat) (cur:Array Value) (t':TypeId) (hw:w.heap[b]?=some (.cells cur t' (0,0))) (hl:o+zc.size<=cur.size) :
  (Builtin.clear_ #[t] ty #[.slice (some ⟨b,o,none⟩) 1 c]).run P w=.ok (.tuple #[]) (w.setRow b (cur.toList.take o++zc.toList++cur.toList.drop (o+zc.size)).toArray):=by
 have c:=run_storeCells_at (P:=P) b o t' zc.toList 0 cur w hw (by simpa using hl) h1
 simp only [Nat.add_zero,Array.length_toList] at c
 simp [Builtin.clear_,run_underlying ht,hv,ZjM,c]
theorem ZjO (b n c i:Nat) (V:List Value) (w:World) (i0:TypeInfo) (hi0:Tryz.prog.info? 35=some i0) (hzs:i0.size=2) (cur:Array Value) (hcur:w.heap[b]?=some (.cells cur 35 (0,0))) (hcc:cur.size=c*2)
  (hi:i<n) (hnc:n<=c) (hc63:c<=9223372036854775807) (hn:n<=1048576) (hV:V.length=n*2) (hcV:cur.toList.take (n*2)=V) (h1:∀v∈V,v.oneCell'=true) (R1 R2:Array Value)
  (hR1:R1=(cur.toList.take (i*2)++V.drop ((i+1)*2)++cur.toList.drop (i*2+(V.drop ((i+1)*2)).length)).toArray) (hR2:R2=(R1.toList.take ((i+(n-(i+1)))*2)++([.int .i64 0,.int .i64 0]:List Value)++R1.toList.drop ((i+(n-(i+1)))*2+2)).toArray) :
  Calls Tryz.prog 244 #[.slice (some ⟨b,0,none⟩) n c,.int .i64 i,.int .i64 ((i:Int)+1)] w fun e w' =>
   e=.returned (.slice (some ⟨b,0,none⟩) (i+(n-(i+1))) c)/\w'=(w.drew.setRow b R1).setRow b R2:=by
 obtain ⟨news,hnews⟩:∃news,news=V.drop ((i+1)*2):=⟨_,rfl⟩
 have hlen:news.length=(n-(i+1))*2:=by rw [hnews,List.length_drop,hV];omega
 have hget:∀t u,news[t]?=some u->w.drew.cell? ⟨b,(i+1)*2+t,none⟩=some u:=by
  intro t u hu
  rw [hnews,List.getElem?_drop,<-hcV,List.getElem?_take] at hu
  split at hu
  ·rw [Array.getElem?_toList] at hu
   show w.cell? _=_
   simp [World.cell?,hcur,hu]
  ·cases hu
 obtain ⟨A,hA,hsrc⟩:∃A:Addr,(if c=i+1 then some (⟨b,0,none⟩:Addr) else some ⟨b,(i+1)*2,none⟩)=some A/\Hid (∀t u,news[t]?=some u->w.drew.cell? (A.add t)=some u):=by
  by_cases h:c=i+1
  ·refine ⟨⟨b,0,none⟩,by simp [h],fun t u hu=>?_⟩
   have h0:news.length=0:=by rw [hlen];omega
   rw [List.length_eq_zero_iff.1 h0] at hu
   simp at hu
  ·refine ⟨⟨b,(i+1)*2,none⟩,by simp [h],fun t u hu=>?_⟩
   rw [Addr.add_lit]
   exact hget t u hu
 have s1:Hid (news.length=(n-(i+1))*2):=hlen
 have s2:Hid (∀u∈news,u.oneCell'=true):=fun u hu=>h1 u (by rw [hnews] at hu;exact List.mem_of_mem_drop hu)
 have s3:Hid (∀t,t<news.length->(w.drew.cell? ⟨b,0+i*2+t,none⟩).isSome=true/\w.drew.frozen? ⟨b,0+i*2+t,none⟩=false):=by
  intro t ht
  rw [hlen] at ht
  refine ⟨?_,?_⟩
  ·show (w.cell? _).isSome=true
   simp [World.cell?,hcur];omega
  ·show w.frozen? _=false
   simp [World.frozen?,hcur]
 obtain ⟨W1,hW1⟩:∃W1,W1=w.drew.setCells b (0+i*2) news:=⟨_,rfl⟩
 have hW1':W1=w.drew.setRow b R1:=by
  rw [hW1,ZjL (P:=Tryz.prog) b (0+i*2) news w.drew cur 35 hcur (by rw [hlen,hcc];omega) s2,hR1,hnews,Nat.zero_add]
 have hW1h:W1.heap[b]?=some (.cells R1 35 (0,0)):=by rw [hW1'];exact setRow_heap _ _ _ _ _ _ hcur
 have hR1s:R1.size=c*2:=by rw [hR1,<-hnews];simp [hlen];omega
 have hcl:∀ty,(Builtin.clear_ #[31] ty #[.slice (some ⟨b,(i+(n-(i+1)))*2,none⟩) (n-(i+(n-(i+1)))) (c-(i+(n-(i+1))))]).run Tryz.prog W1=.ok (.tuple #[]) (W1.setRow b R2):=fun ty=>by
  have:=ZjN (P:=Tryz.prog) W1 31 35 ty #[.int .i64 0,.int .i64 0] Tryz.underlying31 Tryz.zeroValue35 (by intro v hv;simp at hv;rcases hv with rfl | rfl<;>rfl) b ((i+(n-(i+1)))*2) (c-(i+(n-(i+1)))) R1 35 hW1h (by simp;omega)
  rw [show n-(i+(n-(i+1)))=1 by omega,this,hR2]
  simp
 have hW:Hid (W1=w.drew.setCells b (0+i*2) news):=hW1
 have hX:Hid (W1=w.drew.setRow b R1):=hW1'
 clear hW1 hW1' hW1h hR1 hR2 hR1s hcur hcV hget hnews hlen h1 hV hcc
 have hic:i<=c:=by omega
 have hjc:i+1<=c:=by omega
 have hin:i<=n:=by omega
 have hjn:i+1<=n:=by omega
 have hne:¬(i:Int)=(i:Int)+1:=by omega
 have hb1:(0:Int)<=(i:Int)+1:=by omega
 have htn:((i:Int)+1).toNat=i+1:=by omega
 have hb2:(i:Int)+1<=(n:Int):=by omega
 have hb3:(i:Int)<=(i:Int)+1:=by omega
 have hcn:¬c=i+(n-(i+1)):=by omega
 have hnn:i+(n-(i+1))<=n:=by omega
 have mixed:Tryz.prog.follows .mixedOrders=true:=by kernel_rfl
 go_enter Tryz.func244,Tryz.ntmps244
 go_wp2_with fail
 go_region_law_o (refine step_append_room rfl (.tmp 22) (.tmp 25) 31 rfl 35 i0 2 Tryz.underlying31 hi0 hzs b 0 i c (by simp [Act.eval,Act.put]) A (n-(i+1)) (c-(i+1)) news (by simp [Act.eval,Act.put]) s1.out hsrc.out s2.out (by omega) s3.out ?_;rw [<-hW.out])
 go_wp2
 go_ret
 exact ⟨rfl,by rw [hX.out]⟩
theorem ZjP (l:List Stop) (i:Nat) (h:i<l.length):yf (l.eraseIdx i)=(yf l).take (i*2)++(yf l).drop ((i+1)*2):=by
 rw [List.eraseIdx_eq_take_drop_succ,Xe,ZbX l i (by omega),ZbY l (i+1) (by omega)]
theorem ZjQ {S:Store} {id ver:Nat} (cs:List Stop) (i:Nat) (hi:i<cs.length) (hn:cs.length<=1000000) (hid:S id=.cells ver 35 (cs.flatMap Enc.enc)) :
  Spec Tryz.prog 244 [.sl id ver 2 0 cs.length,I i,I ((i:Int)+1)] S (fun p S'=>p=.sl id (ver+1) 2 0 (cs.eraseIdx i).length/\S'=S.set id (.cells (ver+1) 35 ((cs.eraseIdx i).flatMap Enc.enc))):=by
 refine ⟨qn Tryz.func244 (by rfl) rfl,?_⟩
 intro C w vs hS hl hr
 obtain ⟨u,v,x,rfl⟩:=ZbZ hl
 obtain rfl:=Z1 (hr 1 _ v rfl rfl)
 obtain rfl:=Z1 (hr 2 _ x rfl rfl)
 have hu:=hr 0 _ u rfl rfl
 have hvl:(yf cs).length=cs.length*2:=YK cs
 have hel:(cs.eraseIdx i).length=i+(cs.length-(i+1)):=by rw [List.length_eraseIdx_of_lt hi];omega
 have hnew:=ZjP cs i hi
 have hnl:(yf (cs.eraseIdx i)).length=(i+(cs.length-(i+1)))*2:=by rw [YK,hel]
 rw [ZbW] at hid ⊢
 rw [hel]
 generalize cs.eraseIdx i=es at *
 obtain ⟨i0,hi0⟩:=Option.isSome_iff_exists.1 WG
 have hc:=WF
 simp only [Program.cellsOf,hi0,Option.map_some,Option.getD_some] at hc
 cases hu with
 | sl h1 h2 h3 =>
  obtain ⟨ad,cap,rfl,q1,q2,q3,q4⟩:=h1
  have hloc:=(h3 ver (by rw [hid];rfl)).2 rfl
  rcases hS.cells id ver _ _ hid with ⟨hno,hnil⟩ | ⟨b,k,c,g1,g2,g3,g4,g5,g6⟩
  ·have:=congrArg List.length hnil
   simp [hvl] at this
   exfalso;omega
  rcases hloc with ⟨z1,_⟩ | ⟨b',k',ad',cap',z1,z2,z3,z4⟩
  ·rw [g1] at z1;cases z1
  rw [g1] at z1;cases z1;cases z2
  obtain ⟨rfl,hcap⟩:=z3 rfl
  rw [List.length_map,hvl] at g4
  have hcells:∀(j:Nat) v,(yf cs)[j]?=some v->c[j]?=some v:=by
   intro j v hj
   have hjl:=(List.getElem?_eq_some_iff.1 hj).1
   have e2:c[j]?=some c[j]:=Array.getElem?_eq_getElem (by omega)
   have:=g6 j (.sc v) _ (by rw [List.getElem?_map,hj];rfl) e2
   rw [e2]
   generalize c[j]=y at this
   cases this;rfl
  have hcur:c.toList.take (cs.length*2)=yf cs:=by
   apply List.ext_getElem?
   intro j
   by_cases hj:j<cs.length*2
   ·rw [List.getElem?_take_of_lt hj,Array.getElem?_toList]
    have e:(yf cs)[j]?=some (yf cs)[j]:=List.getElem?_eq_getElem (by omega)
    rw [e,hcells j _ e]
   ·rw [List.getElem?_eq_none (by simp;omega),List.getElem?_eq_none (by omega)]
  have hcsz:c.size=cap*2:=g3.trans hcap.symm
  have hdl:((yf cs).drop ((i+1)*2)).length=(cs.length-(i+1))*2:=by rw [List.length_drop,hvl];omega
  obtain ⟨R1,hR1⟩:∃R1:Array Value,R1=(c.toList.take (i*2)++(yf cs).drop ((i+1)*2)++c.toList.drop (i*2+((yf cs).drop ((i+1)*2)).length)).toArray:=⟨_,rfl⟩
  obtain ⟨R2,hR2⟩:∃R2:Array Value,R2=(R1.toList.take ((i+(cs.length-(i+1)))*2)++([.int .i64 0,.int .i64 0]:List Value)++R1.toList.drop ((i+(cs.length-(i+1)))*2+2)).toArray:=⟨_,rfl⟩
  have htk:c.toList.take (i*2)=(yf cs).take (i*2):=by rw [<-hcur,List.take_take,Nat.min_eq_left (by omega)]
  have hR1l:R1.toList.take ((i+(cs.length-(i+1)))*2)=yf es:=by
   rw [hR1]
   simp only []
   rw [htk,<-hnew,<-hnl,List.take_left]
  have hR1s:R1.size=cap*2:=by rw [hR1];simp [hdl];omega
  have hR2l:R2.toList=yf es++(([.int .i64 0,.int .i64 0]:List Value)++R1.toList.drop ((i+(cs.length-(i+1)))*2+2)):=by
   rw [hR2,hR1l]
   simp
  have hR2s:R2.size=cap*2:=by
   rw [<-Array.length_toList,hR2l]
   simp [hnl,hR1s]
   omega
  refine (ZjO b cs.length cap i (yf cs) w i0 hi0 hc c g2 hcsz hi q1 (by unfold maxLen at q3;omega) (by omega) hvl hcur (YL cs) R1 R2 hR1 hR2).mono ?_
  rintro e w' ⟨rfl,rfl⟩
  obtain ⟨r1,r2⟩:=WQ (C:=C) (S:=S) (w:=w) hR2l (YL _)
  have hb1:=setRow_heap w.drew b c R1 _ _ g2
  obtain ⟨t1,t2⟩:=hS.turn (l:=some (b,cap*2)) (ver':=ver+1) (cs':=(yf es).map .sc) hid (by omega) (fun h=>absurd h (by omega)) (w':=(w.drew.setRow b R1).setRow b R2)
   (by
    rw [g1]
    refine ⟨⟨rfl,rfl,rfl,by simp [World.setRow],fun j hj hne=>?_⟩,Nat.le_succ _⟩
    have hjb:j≠b:=fun e=>hne (by rw [e];rfl)
    rw [setRow_other _ _ _ _ hjb,setRow_other _ _ _ _ hjb];rfl)
   (.inr ⟨b,cap*2,R2,rfl,.inr (by rw [g1];rfl),setRow_heap _ _ _ _ _ _ hb1,hR2s,by rw [List.length_map,hnl];omega,r1,r2⟩)
  refine ⟨_,_,_,_,rfl,⟨rfl,rfl⟩,?_,t1,t2⟩
  refine .sl ⟨_,_,rfl,by omega,by unfold qV;omega,q3,fun _=>⟨_,_,rfl⟩⟩ ⟨h2.1,by simp only [Ctx.at];omega⟩ fun v0 hv0=>?_
  rw [Store.set_same] at hv0;cases hv0
  exact ⟨Nat.le_refl _,fun _=>.inr ⟨b,_,_,_,by simp [Ctx.at],rfl,fun _=>⟨rfl,rfl⟩,fun _=>rfl⟩⟩
open Go Go.Proofs
def uk (c:Int) (l:List Stop):Int:=((l.filter fun s=>decide (s.c=c)).map (·.q)).sum
theorem Zdg (c:Int) (d:zj):Vq c d=W (uk c d.flatten):=rfl
theorem Zdh (c:Int) (l:List Stop) (s:Stop):uk c (l++[s])=uk c l+if s.c=c then s.q else 0:=by
 unfold uk
 rw [List.filter_append,List.map_append,List.sum_append]
 by_cases h:s.c=c<;>simp [h]
theorem Zdi (c:Int) (l:List Stop) (s:Stop):qw c (l++[s])=qw c l++if s.c=c then [] else [s]:=by
 unfold qw
 rw [List.filter_append]
 by_cases h:s.c=c<;>simp [h]
theorem Zdj (c:Int) (d:zj) (t:zG):qj c (d++[t])=qj c d++if (qw c t).length=0 then [] else [qw c t]:=by
 rw [Zji]
 congr 1
 unfold qj
 rw [List.map_cons,List.map_nil]
 generalize qw c t=u
 cases u<;>simp
theorem Q5 (c:Int) (t:zG):(qw c t).length<=t.length:=List.length_filter_le _ _
theorem Vx (c:Int) (d:zj):(qj c d).length<=d.length:=by
 unfold qj
 exact Nat.le_trans (List.length_filter_le _ _) (by simp)
theorem ZjR (d:zj) (c:Int) (hdn:d.length<=1048576) (hdt:∀t∈d,t.length<=1048576):Pure Tryz.prog 54 [.agg [L d],I c] (.tup [.agg [L (qj c d)],I (Vq c d)]):=by
 rw [Zdg]
 refine zz Tryz.func54 Tryz.ntmps54 Tryz.results54 fun S nx hd=>?_
 refine za (zb ?_)
 intro v0 v1
 refine za (zb ?_)
 intro v2
 refine y8 2 0 72 1 rfl rfl fun v3=>?_
 refine za (zb ?_)
 repeat apply za
 refine zb ?_
 refine zi (zB (fun (s:Nat × Nat)=>s.1<=d.length) (fun (k,v3)=>[(1,I c),(4,.ptr (nx+1) v1 0),(6,.ptr (nx+2) v2 0),(7,I (W (uk c (d.take k).flatten))),(14,L d),(15,I d.length),(16,I k)]) (fun (k,v3)=>[.cells v0 58 [L d],.cells v1 58 [yy],.cells v2 58 [.sl (nx+3) v3 1 0 (qj c (d.take k)).length],.cells v3 72 ((qj c (d.take k)).flatMap Enc.enc)]) (fun s=>d.length-s.1) (0,v3) [] (by simp) (by simp [uk]) (by simp [qj]) ?_)
 rintro ⟨k,v3⟩ hk
 simp only at hk ⊢
 refine za (zb ?_)
 refine za (zr rfl (fun hc=>?_) (fun hc=>?_))
 ·simp at hc
  obtain ⟨t,tl,a1,a2,a3,e0⟩:=zC rfl d k hc
  have hk1:1<=d.length-k:=by omega
  have htm:=List.mem_of_getElem? a1
  have htn:=hdt t htm
  have hrd:=Zdj c (d.take k) t
  rw [<-a3] at hrd
  have hfl:(d.take (k+1)).flatten=(d.take k).flatten++t:=by rw [a3,List.flatten_append];simp
  generalize (d.take k).flatten=pre at *
  have hrl:(qj c (d.take k)).length<=1048576:=Nat.le_trans (Vx _ _) (by rw [List.length_take];omega)
  refine zh (za (zi ?_))
  generalize hrk:qj c (d.take k)=rk at *
  have hfz:∀id v cs,(rk.flatMap Enc.enc).map (yU id v cs)=(rk.flatMap Enc.enc:List PV):=fun id v cs=>Zdb id v cs rk
  have hrf:(rk.flatMap Enc.enc:List PV).length=rk.length:=jg rk
  have hrt:(rk.flatMap Enc.enc:List PV).take rk.length=rk.flatMap Enc.enc:=List.take_of_length_le (by omega)
  refine za (ze [] (zE hc e0 hk1) ?_)
  intro v4
  refine za (zb ?_)
  refine yT 10 35 2 rfl fun v5=>?_
  repeat apply za
  refine zb ?_
  refine zi (zB (fun (s:Nat × Nat)=>s.1<=t.length) (fun (j,v5)=>[(1,I c),(4,.ptr (nx+1) v1 0),(6,.ptr (nx+2) v2 0),(7,I (W (uk c (pre++t.take j)))),(10,.sl (nx+5) v5 2 0 (qw c (t.take j)).length),(14,L d),(15,I d.length),(16,I k),(21,L t),(22,I t.length),(23,I j)]) (fun (j,v5)=>[.cells v0 58 [L d],.cells v1 58 [yy],.cells v2 58 [.sl (nx+3) v3 1 0 rk.length],.cells v3 72 (rk.flatMap Enc.enc),.cells v4 72 [L t],.cells v5 35 ((qw c (t.take j)).flatMap Enc.enc)]) (fun s=>t.length-s.1) (0,v5) [] (by simp) (by simp [qw]) (by simp [qw]) ?_)
  rintro ⟨j,v5⟩ hj
  simp only at hj ⊢
  refine za (zb ?_)
  refine za (zr rfl (fun hcj=>?_) (fun hcj=>?_))
  ·simp at hcj
   obtain ⟨s,ts,b1,b2,b3,b4,b5⟩:=el 2 rfl t j hcj
   have hj2:2<=t.length*2-j*2:=by omega
   have hsum:=Zdh c (pre++t.take j) s
   rw [List.append_assoc,<-b3] at hsum
   have hrs:=Zdi c (t.take j) s
   rw [<-b3] at hrs
   have hul:(qw c (t.take j)).length<=1048576:=Nat.le_trans (Q5 _ _) (by rw [List.length_take];omega)
   generalize qw c (t.take j)=u at *
   have huf:(u.flatMap Enc.enc:List PV).length=u.length*2:=wd u
   have hut:(u.flatMap Enc.enc:List PV).take (u.length*2)=u.flatMap Enc.enc:=List.take_of_length_le (by omega)
   refine zh (za (zi (za (ze [] (zE hcj b5 hj2) ?_))))
   intro v6
   refine za (zb ?_)
   refine zr rfl (fun hq=>?_) (fun hq=>?_)
   ·simp at hq
    rw [if_pos hq] at hsum hrs
    rw [List.append_nil] at hrs
    refine zb ?_
    refine zb ?_
    exact zq (j+1,v5) [_] (by simp;omega) (by simp;omega) (by simp [zt j (by omega),hsum,xO,hrs]) rfl (by simp [hrs];rfl)
   ·simp at hq
    rw [if_neg hq] at hsum hrs
    rw [Int.add_zero] at hsum
    have hul':((qw c (t.take (j+1))).flatMap Enc.enc:List PV)=u.flatMap Enc.enc++[I s.c,I s.q]:=by rw [hrs,List.flatMap_append];rfl
    refine ze [] (zn huf hut) ?_
    refine ⟨by omega,?_⟩
    refine zb ?_
    exact zq (j+1,v5+1) [_] (by simp;omega) (by simp;omega) (by simp [zt j (by omega),hsum,hrs]) rfl (by simp [hul'];rfl)
  ·simp at hcj
   obtain rfl:j=t.length:=by omega
   refine zu ?_
   rw [List.take_length]
   have hul:(qw c t).length<=1048576:=Nat.le_trans (Q5 _ _) htn
   generalize qw c t=u at *
   have huf:(u.flatMap Enc.enc:List PV).length=u.length*2:=wd u
   refine zX 5 rfl ?_
   simp only [List.map_cons,List.map_nil,List.set_cons_succ,List.set_cons_zero,jI,hfz]
   refine za (zb ?_)
   refine zr rfl (fun hq=>?_) (fun hq=>?_)
   ·simp at hq
    rw [if_neg (by omega)] at hrd
    have hrl':((rk++[u]).flatMap Enc.enc:List PV)=rk.flatMap Enc.enc++[L u]:=by rw [List.flatMap_append];rfl
    refine ze [] (zn hrf hrt) ?_
    refine ⟨by omega,?_⟩
    refine zb ?_
    exact zq (k+1,v3+1) [_,_] (by simp;omega) (by simp;omega) (by simp [zt k (by omega),hfl]) rfl (by simp [hrd,hrl'];exact ⟨rfl,rfl⟩)
   ·simp at hq
    rw [if_pos (by rw [hq];rfl),List.append_nil] at hrd
    refine zh (zb ?_)
    exact zq (k+1,v3) [_,_] (by simp;omega) (by simp;omega) (by simp [zt k (by omega),hfl]) rfl (by simp [hrd];exact ⟨rfl,rfl⟩)
 ·simp at hc
  obtain rfl:k=d.length:=by omega
  refine zu (zX 3 rfl ?_)
  have g1:d.take d.length=d:=List.take_length
  refine za (zb ?_)
  exact zg (zk hd (by simp;rfl) (by simp [zp,g1]))
open Go Hp
theorem Zdk {x:Inst} (h:∀row∈x.dist,∀d∈row,0<=d/\d<=2147483648):jh x:=by
 intro a b
 unfold arc
 split
 ·omega
 ·rw [List.getD_eq_getElem?_getD,List.getD_eq_getElem?_getD]
  cases hr:x.dist[a.toNat]? with
  | none=>simp
  | some row =>
   simp only [Option.getD_some]
   cases hd:row[b.toNat]? with
   | none=>simp
   | some d=>exact h row (List.mem_of_getElem? hr) d (List.mem_of_getElem? hd)
open Go Go.Proofs
theorem YU {α:Type} {a b:List α} {k:Nat} {x y:α} (hx:a[k]?=some x) (hy:b[k]?=some y) (h:x≠y):a≠b:=by
 rintro rfl;rw [hx] at hy;cases hy;exact h rfl
theorem Zdl {x:Inst} {d:zj} {s:Stop} (hx:x.cust.length<=1048576) (hdo:DayOk d) (hd1:d.length<=1000000) (hf:d.flatten.length<=1000000):DayOk (yE x d s).1:=by
 unfold yE
 cases hb:(xU (yM x d s)).2 with
 | false=>exact hdo
 | true =>
  have hm:=Xp hb
  have hp:=Vm hm
  have hs:=Zc9 hx (QZ hm).1
  simp only [cond_true]
  have hfl:(qP d (xU (yM x d s)).1 s).flatten.length<=1000001:=by rw [hp.length_eq,List.length_cons];omega
  refine ⟨?_,fun t ht=>?_,fun t ht a ha=>?_⟩
  ·unfold qP;split
   ·simp;omega
   ·simp;omega
  ·have:=(vz ht).length_le;omega
  ·have:=hp.subset ((vz ht).subset ha)
   rw [List.mem_cons] at this
   rcases this with rfl | h
   ·exact hs
   ·obtain ⟨u,hu,hau⟩:=List.mem_flatten.1 h
    exact hdo.s u hu a hau
open Go Go.Proofs
def vA (l:List Int):Int:=if 1<l.length then W (l.getD 1 0-l.getD 0 0) else 1099511627776
def wv (c:Stop->List Int):List Stop->Nat->Int->Int->Int
 | [],_,place,_=>place
 | s :: l,i,place,most=>if (c s).length=0 then (i:Int) else if place<0\/most<vA (c s) then wv c l (i+1) (i:Int) (vA (c s)) else wv c l (i+1) place most
def ul (x:Inst) (d:zj) (l:List Stop):Int:=wv (YT x d) l 0 (-1) 0
theorem Vy (c:Stop->List Int):∀(l:List Stop) (i:Nat) (place most:Int),(l≠[]\/0<=place)->place<i->0<=wv c l i place most/\wv c l i place most<(i+l.length:Nat)
 | [],i,place,most,h,hp=>by
  rcases h with h | h
  ·exact absurd rfl h
  ·simp only [wv,List.length_nil];omega
 | s :: l,i,place,most,_,hp=>by
  unfold wv
  split
  ·simp only [List.length_cons];omega
  ·split
   ·have:=Vy c l (i+1) i (vA (c s)) (.inr (by omega)) (by omega)
    simp only [List.length_cons];omega
   ·rename_i hc
    have:=Vy c l (i+1) place most (.inr (by omega)) (by omega)
    simp only [List.length_cons];omega
theorem Zdm {x:Inst} {d:zj} {l:List Stop} (h:l≠[]):∃k:Nat,ul x d l=k/\k<l.length:=by
 have:=Vy (YT x d) l 0 (-1) 0 (.inl h) (by omega)
 exact ⟨(ul x d l).toNat,by unfold ul;omega,by unfold ul;omega⟩
def ww (x:Inst):Nat->zj->List Stop->zj × Bool
 | 0,d,_=>(d,true)
 | n+1,d,l=>bif (yE x d (l.getD (ul x d l).toNat default)).2 then ww x n (yE x d (l.getD (ul x d l).toNat default)).1 (l.eraseIdx (ul x d l).toNat) else (d,false)
def qC (x:Inst) (l:List Stop):zj × Bool:=ww x l.length [] l
structure RgOk (x:Inst) (d:zj) (l:List Stop):Prop where
 ok:DayOk d
 may:yh x d=0
 len:d.flatten.length+l.length<=1000
theorem RgOk.dl {x:Inst} {d:zj} {l:List Stop} (h:RgOk x d l):d.length<=1000:=by
 have h1:=QY d (Vs h.may)
 have h2:=h.len
 omega
theorem RgOk.step {x:Inst} {d:zj} {l:List Stop} (hx:x.cust.length<=1048576) (h:RgOk x d l) {i:Nat} (hi:i<l.length) {s:Stop} (hs:(yE x d s).2=true):RgOk x (yE x d s).1 (l.eraseIdx i):=by
 have hf:=h.len
 have hl:=h.dl
 refine ⟨Zdl hx h.ok (by omega) (by omega),?_,?_⟩
 ·unfold yE at hs ⊢
  cases hb:(xU (yM x d s)).2 with
  | false=>rw [hb] at hs;cases hs
  | true=>exact Vp (Xp hb)
 ·rw [(Vn hs).length_eq,List.length_cons,List.length_eraseIdx_of_lt hi];omega
theorem Zdn {x:Inst} (hv:0<=x.veh) {l:List Stop} (hl:l.length<=1000):RgOk x [] l :=
 ⟨⟨by simp,by simp,by simp⟩,(xG x []).2 ⟨by simp,by simp,by simpa using hv⟩,by simpa using hl⟩
theorem ZjS {c:Stop->List Int} {l:List Stop} {k:Nat} {s:Stop} {place most:Int} (hd:l.drop k=s :: l.drop (k+1)) :
  wv c (l.drop k) k place most=if (c s).length=0 then (k:Int) else if place<0\/most<vA (c s) then wv c (l.drop (k+1)) (k+1) (k:Int) (vA (c s)) else wv c (l.drop (k+1)) (k+1) place most:=by
 rw [hd];rfl
theorem ZjT (x:Inst) (d:zj) (l:List Stop) (hx:x.cust.length<=1048576) (h:RgOk x d l) {S:Store} {id ver:Nat} (hid:S id=.cells ver 35 (l.flatMap Enc.enc)) :
  Spec Tryz.prog 243 [.agg (vx x d),.sl id ver 2 0 l.length] S (fun p S'=>p=I (ul x d l)/\S'=S):=by
 have hf:=h.len
 have hl:=h.dl
 have hco:=fun s=>ZjK x d s hx h.ok h.may (by omega) (by omega)
 have hu:ul x d l=wv (YT x d) (l.drop 0) 0 (-1) 0:=rfl
 rw [hu]
 clear hu
 obtain ⟨on,tw,fs,bd,ls,ws,hlk⟩:∃on tw fs bd ls ws,vx x d=wN x d on tw fs bd ls ws:=⟨_,_,_,_,_,_,rfl⟩
 rw [hlk] at hco ⊢
 clear hlk
 generalize hcz:YT x d=cz at *
 refine qO Tryz.func243 Tryz.ntmps243 Tryz.results243 fun nx hd=>?_
 have hlt:id<nx:=qB hd hid (by simp)
 have xid:=fun obs=>zH (S:=S) (obs:=obs) hlt
 refine za (zb ?_)
 intro v0
 refine za (zb ?_)
 repeat apply za
 refine zb ?_
 refine zi (zB (fun s':Nat × Int × Int=>s'.1<=l.length/\wv cz (l.drop s'.1) s'.1 s'.2.1 s'.2.2=wv cz (l.drop 0) 0 (-1) 0) (fun (k,place,most)=>[(2,.ptr nx v0 0),(5,I place),(6,I most),(11,.sl id ver 2 0 l.length),(12,I l.length),(13,I k)]) (fun _=>[.cells v0 140 (wN x d on tw fs bd ls ws)]) (fun s'=>l.length-s'.1) (0,-1,0) [] ⟨by simp,rfl⟩ (by simp) (by simp) ?_)
 rintro ⟨k,place,most⟩ ⟨hk,hg⟩
 simp only at hk hg ⊢
 rw [<-hg]
 refine za (zb ?_)
 refine za (zr rfl (fun hc=>?_) (fun hc=>?_))
 ·simp at hc
  obtain ⟨s,tl,a1,a2,a3,e1,e0⟩:=el 2 rfl l k hc
  have hk2:2<=l.length*2-k*2:=by omega
  have hun:=ZjS (c:=cz) (place:=place) (most:=most) a2
  have hcs:=hco s
  generalize hc0:cz s=c at *
  have wk:=zt k (by omega)
  refine zh (za (zi (za (ze [] (yD xid hid e0 hc hk2) ?_))))
  intro v1
  refine za (zb ?_)
  refine zA hcs ?_
  by_cases h0:c.length=0
  ·rw [if_pos h0] at hun
   repeat apply za
   refine ze [] h0 ?_
   refine zm rfl (za (zb ?_))
   exact zg ⟨_,S,(by simp;rfl),⟨by simp [zp,hun],rfl⟩,zU hd⟩
  rw [if_neg h0] at hun
  repeat apply za
  refine zb ?_
  refine zo (by simp;exact fun e=>h0 (by rw [e];rfl)) ?_
  refine zh ?_
  repeat apply za
  refine zb ?_
  refine yk (nx:=nx) (fun _:Unit=>True) (fun _=>[(2,.ptr nx v0 0),(5,I place),(6,I most),(7,I k),(10,I (vA c)),(11,.sl id ver 2 0 l.length),(12,I l.length),(13,I k)]) (fun _=>S) (fun _=>[.cells v0 140 (wN x d on tw fs bd ls ws)]) ?_ ?_
  ·by_cases h1:1<c.length
   ·obtain ⟨a,ta,q1,-,-,q0⟩:=zC rfl c 1 h1
    obtain ⟨b,tb,r1,-,-,r0⟩:=zC rfl c 0 (by omega)
    have hab:vA c=W (a-b):=by unfold vA;rw [if_pos h1,List.getD_eq_getElem?_getD,List.getD_eq_getElem?_getD,q1,r1];rfl
    have g1:1<=c.length-1:=by omega
    have g2:0<c.length:=by omega
    have g3:1<=c.length:=by omega
    have r0':(c.flatMap Enc.enc:List PV)=Enc.enc b++tb:=by simpa using r0
    have h1':(1:Int)<c.length:=by omega
    refine zm (by simp;omega) ?_
    rw [r0'] at q0
    have htb:tb=I a :: ta:=by simpa using q0
    rw [htb] at r0'
    refine zF none (Row.pures [0,1,2,3,4,5,6,7] .done) mixed (zL r0' h1 h1' g1 g2 g3) ?_
    exact zD () [_] trivial (by simp [hab]) rfl (by simp;rfl)
   ·have hab:vA c=1099511627776:=by unfold vA;rw [if_neg h1]
    refine zo (by simp;omega) ?_
    exact zh (zD () [_] trivial (by simp [hab]) rfl (by simp;rfl))
  ·rintro ⟨⟩ -
   generalize vA c=ab at *
   by_cases hq:place<0
   ·rw [if_pos (.inl hq)] at hun
    refine za (ze [(2,37)] (zn hq zx) ?_)
    refine zm rfl (zb ?_)
    refine zb ?_
    exact zq (k+1,(k:Int),ab) [] ⟨hc,by rw [<-hun,hg]⟩ (by simp;omega) (by simp [wk]) rfl (by simp)
   ·by_cases hq2:most<ab
    ·rw [if_pos (.inr hq2)] at hun
     refine za (ze [(2,37)] (zn hq hq2) ?_)
     refine zm rfl (zb ?_)
     refine zb ?_
     exact zq (k+1,(k:Int),ab) [] ⟨hc,by rw [<-hun,hg]⟩ (by simp;omega) (by simp [wk]) rfl (by simp)
    ·rw [if_neg (by rintro (q | q);exact hq q;exact hq2 q)] at hun
     refine za (ze [(2,37)] (zn hq hq2) ?_)
     refine zo rfl (zh (zb ?_))
     exact zq (k+1,place,most) [] ⟨hc,by rw [<-hun,hg]⟩ (by simp;omega) (by simp [wk]) rfl (by simp)
 ·simp at hc
  obtain rfl:k=l.length:=by omega
  refine zu ?_
  have hgl:wv cz (l.drop l.length) l.length place most=place:=by rw [List.drop_length];rfl
  refine za (zb ?_)
  exact zg ⟨_,S,(by simp;rfl),⟨by simp [zp];rfl,rfl⟩,zU hd⟩
open Go Go.Proofs
theorem ZjU {x:Inst} {d:zj} {l:List Stop} {k:Nat} {s:Stop} (hu:ul x d l=k) (hk:l[k]?=some s) :
  ww x l.length d l=bif (yE x d s).2 then ww x (l.eraseIdx k).length (yE x d s).1 (l.eraseIdx k) else (d,false):=by
 have hlt:=(List.getElem?_eq_some_iff.1 hk).1
 obtain ⟨n,hn⟩:∃n,l.length=n+1:=⟨l.length-1,by omega⟩
 have he:(l.eraseIdx k).length=n:=by rw [List.length_eraseIdx_of_lt hlt];omega
 have hg:l.getD k default=s:=by rw [List.getD_eq_getElem?_getD,hk];rfl
 rw [hn,he,ww,hu,Int.toNat_natCast,hg]
theorem ZjV {x:Inst} {d:zj} {l:List Stop} (h:RgOk x d l):d.length<=1000/\d.flatten.length<=1000/\l.length<=1000:=by
 have h1:=h.dl
 have h2:=h.len
 omega
theorem ZjW (x:Inst) (l:List Stop) (hx:x.cust.length<=1048576) (hv:0<=x.veh) (hl:l.length<=1000):Pure Tryz.prog 215 [.agg (zv x),L l] (.tup [.agg [L (qC x l).1],B (qC x l).2]):=by
 have hb:=Zdn hv hl
 unfold qC
 by_cases h0:0<l.length
 case neg =>
  obtain rfl:l=[]:=List.eq_nil_of_length_eq_zero (by omega)
  have hcl:=QX [] (by simp)
  refine zz Tryz.func215 Tryz.ntmps215 Tryz.results215 fun S nx hd=>?_
  refine za (zb ?_)
  intro v0 v1
  refine za (zb ?_)
  intro v2
  refine uN 2 0 rfl rfl ?_
  refine za (zb ?_)
  refine zA hcl ?_
  refine za (zi (zB (fun _:Nat=>True) (fun _=>[(2,.ptr nx v0 0),(4,.ptr (nx+1) v1 0),(6,.ptr (nx+2) v2 0),(7,L ([]:List Stop))]) (fun _=>[.cells v0 25 (zv x),.cells v1 58 [yy],.cells v2 58 [L ([]:zj)]]) (fun k=>k) 0 [] trivial (by simp) (by simp) ?_))
  rintro k -
  repeat apply za
  refine zb ?_
  refine zo rfl (zu (za (zb ?_)))
  exact zg (zk hd (by simp;rfl) (by simp [zp,ww]))
 refine zz Tryz.func215 Tryz.ntmps215 Tryz.results215 fun S nx hd=>?_
 refine za (zb ?_)
 intro v0 v1
 refine za (zb ?_)
 intro v2
 refine uN 2 0 rfl rfl ?_
 refine za (z8 [] (by rfl) (by rfl) fun K Gc Gh hK hGc hGh X hX0 hX=>?_)
 simp -implicitDefEqProofs [hX0,hX]
 try clear hX0 hX X
 refine hGc _ _ _ _ _ _ _ fun hsuf=>((Xm l h0 (by omega) _ _ vX).mono ?_).v
 rintro _ _ ⟨v3,rfl,rfl⟩
 refine ⟨_,_,jl _,?_⟩
 clear hGc hGh
 clear Gc Gh
 refine zW hsuf (D:=[]) (by rfl) fun Gc Gh hGc hGh X hX0 hX=>?_
 simp -implicitDefEqProofs [hX0,hX]
 clear hX0 hX X
 refine hK _ _ _ ?_
 clear hK hGc hGh
 clear K Gc Gh
 refine za (zi (zB (fun s':zj × List Stop × Nat=>ww x s'.2.1.length s'.1 s'.2.1=ww x l.length [] l/\RgOk x s'.1 s'.2.1) (fun (d,m,v3)=>[(2,.ptr nx v0 0),(4,.ptr (nx+1) v1 0),(6,.ptr (nx+2) v2 0),(7,.sl (nx+3) v3 2 0 m.length)]) (fun (d,m,v3)=>[.cells v0 25 (zv x),.cells v1 58 [yy],.cells v2 58 [L d],.cells v3 35 (m.flatMap Enc.enc)]) (fun s'=>s'.2.1.length) ([],l,v3) [] ⟨rfl,hb⟩ (by simp) (by simp) ?_))
 rintro ⟨d,m,v3⟩ ⟨hr,hok⟩
 simp only at hr hok ⊢
 rw [<-hr]
 by_cases hm:m=[]
 ·subst hm
  repeat apply za
  refine zb ?_
  refine zo rfl (zu (za (zb ?_)))
  exact zg (zk hd (by simp;rfl) (by simp [zp,ww]))
 ·have hm0:0<m.length:=List.length_pos_iff.2 hm
  obtain ⟨k,hu,hk⟩:=Zdm (x:=x) (d:=d) hm
  obtain ⟨s,tl,a1,a2,a3,e1,e0⟩:=el 2 rfl m k hk
  have hk2:2<=m.length*2-k*2:=by omega
  have hst:=ZjU hu a1
  obtain ⟨b1,b2,b3⟩:=ZjV hok
  have hsee:=ZcI x d hx hok.ok (by omega)
  have hins:=Vv x d s hx hok.ok (by omega)
  have hnx:=fun h=>hok.step hx hk (s:=s) h
  have hurg:=fun (S:Store) (id ver:Nat) h=>ZjT x d m hx hok (S:=S) (id:=id) (ver:=ver) h
  rw [hu] at hurg
  obtain ⟨on,tw,fs,bd,ls,ws,hlk⟩:∃on tw fs bd ls ws,vx x d=wN x d on tw fs bd ls ws:=⟨_,_,_,_,_,_,rfl⟩
  rw [hlk] at hsee hurg
  clear hlk
  have hno:=ZcT (x:=x) (d:=d) (s:=s)
  generalize hi:yE x d s=r at *
  obtain ⟨d2,ok⟩:=r
  simp only at hst hnx hno
  have wk:=zt k (by omega)
  have hm0':(0:Int)<m.length:=by omega
  repeat apply za
  refine ze [] hm0' ?_
  refine zm (by simp;exact hm0) ?_
  refine zh (zi (za (z8 [] (by rfl) (by rfl) fun K Gc Gh hK hGc hGh X hX0 hX=>?_)))
  simp -implicitDefEqProofs [hX0,hX]
  try clear hX0 hX X
  refine hGc _ _ _ _ _ _ _ fun hsuf=>((hsee _).mono ?_).v
  rintro _ _ ⟨rfl,rfl⟩
  refine ⟨_,_,rfl,?_⟩
  clear hGc hGh
  clear Gc Gh
  refine zW hsuf (D:=[]) (by rfl) fun Gc Gh hGc hGh X hX0 hX=>?_
  simp -implicitDefEqProofs [hX0,hX]
  clear hX0 hX X
  refine hGc _ _ _ _ _ _ _ fun hsuf=>((hurg _ _ _ (by rw [yS];rfl)).mono ?_).v
  rintro _ _ ⟨rfl,rfl⟩
  refine ⟨_,_,rfl,?_⟩
  clear hGc hGh
  clear Gc Gh
  refine zW hsuf (D:=[]) (by rfl) fun Gc Gh hGc hGh X hX0 hX=>?_
  simp -implicitDefEqProofs [hX0,hX]
  clear hX0 hX X
  refine hK _ _ _ ?_
  clear hK hGc hGh
  clear K Gc Gh
  refine za (zF (some [nx,nx+2,nx+3]) (Row.pures [0,1,2,3,4,5,6,7,8,9] (.alt 10 (.alt 11 (Row.pures [12] .done) .stop) .stop)) mixed (zE e0 hk hk2) ?_)
  refine zN (hins) trivial ?_
  intro v4
  repeat apply za
  refine zb ?_
  cases ok with
  | false =>
   simp only [cond_false] at hst
   refine zm rfl (za (zb ?_))
   exact zg (zk hd (by simp;rfl) (by simp [zp,hst]))
  | true =>
   simp only [cond_true] at hst
   refine zo rfl (zh ?_)
   have hkl:=List.length_eraseIdx_of_lt hk
   refine wG (some [nx+4]) (Row.pures [0,1,2,3,4] (.alt 5 (.alt 6 (Row.pures [7] .done) .stop) .stop)) mixed (by rfl) (by rfl) (by rfl) fun K Gp Gc Gh hK hGp hGc hGh X hX0 hX1 hX2 hX=>?_
   simp -implicitDefEqProofs [hX0,hX1,hX2,hX,wk]
   try clear hX0 hX1 hX2 hX X
   refine hGc _ _ _ _ _ _ _ ?_
   refine ((ZjQ m k hk (by omega) (by rw [yS];rfl)).mono ?_).v
   rintro _ _ ⟨rfl,rfl⟩
   rw [qA _ (by omega) (by simp),Nat.add_sub_cancel_left]
   refine ⟨by simp [yB],?_⟩
   clear hGp hGc hGh
   clear Gp Gc Gh
   refine jm fun Gp Gc Gh hGp hGc hGh X hX0 hX1 hX2 hX=>?_
   simp -implicitDefEqProofs [hX0,hX1,hX2,hX]
   try clear hX0 hX1 hX2 hX X
   refine hK _ _ _ ?_
   clear hK hGp hGc hGh
   clear K Gp Gc Gh
   exact zq (d2,m.eraseIdx k,v3+1) [_] ⟨hst.symm,hnx rfl⟩ (by simp only;omega) (by simp) rfl (by simp;rfl)
open Go Go.Proofs
def qK (step:zj->Option zj):Nat->zj->zj
 | 0,d=>d
 | n+1,d=>match step d with
  | none=>d
  | some e=>qK step n e
def jr (step:zj->Option zj):Nat->zj->Nat
 | 0,_=>0
 | n+1,d=>match step d with
  | none=>0
  | some e=>jr step n e+1
def Zdo (x:Inst) (step:zj->Option zj) (G:zj->Prop):Prop:=∀d,G d->∃mk ma mb mi mj least,Pure Tryz.prog 106 [.agg (zv x),.agg [L d]] (.tup [.agg [I mk,I ma,I mb,I mi,I mj],I least,B (step d).isSome]) /\
 ∀e,step d=some e->Pure Tryz.prog 107 [.agg (zv x),.agg [L d],.agg [I mk,I ma,I mb,I mi,I mj]] (.tup [.agg [L e],I 0])/\G e
theorem ZjX (x:Inst) (d:zj) (b:Int) (step:zj->Option zj) (G:zj->Prop) (hb:b<=9223372036854775807) (hdn:d.length<=1048576) (hdt:∀t∈d,t.length<=1048576) (hd':0<b->G d) (hs:Zdo x step G):Pure Tryz.prog 62 [.agg (zv x),.agg [L d],I b] (.tup [.agg [L (qK step b.toNat d)],I (if jr step b.toNat d<b.toNat then (jr step b.toNat d:Int) else j4 b 0)]):=by
 refine zz Tryz.func62 Tryz.ntmps62 Tryz.results62 fun S nx hd=>?_
 refine za (zb ?_)
 intro v0 v1 v2
 refine za (zb ?_)
 intro v3
 refine y8 3 0 72 1 rfl rfl fun v4=>?_
 repeat apply za
 refine zb ?_
 refine zi (zB (fun s':Nat × Nat=>s'.1<=d.length) (fun (k,v4)=>[(2,I b),(3,.ptr nx v0 0),(6,.ptr (nx+2) v2 0),(7,I 0),(8,.ptr (nx+3) v3 0),(16,L d),(17,I d.length),(18,I k)]) (fun (k,v4)=>[.cells v0 25 (zv x),.cells v1 58 [L d],.cells v2 58 [yy],.cells v3 58 [.sl (nx+4) v4 1 0 k],.cells v4 72 ((d.take k).flatMap Enc.enc)]) (fun s'=>d.length-s'.1) (0,v4) [] (by simp) (by simp) (by simp) ?_)
 rintro ⟨k,v4⟩ hk
 simp only at hk ⊢
 refine za (zb ?_)
 refine za (zr rfl (fun hc=>?_) (fun hc=>?_))
 ·simp at hc
  obtain ⟨t,tl,a1,a2,a3,e0⟩:=zC rfl d k hc
  have hk1:1<=d.length-k:=by omega
  have hcl:=QX t (hdt t (List.mem_of_getElem? a1))
  have hcl':((d.take k).flatMap Enc.enc:List PV).length=k:=by rw [jg,List.length_take];omega
  have hct:((d.take k).flatMap Enc.enc:List PV).take k=(d.take k).flatMap Enc.enc:=List.take_of_length_le (by omega)
  have hcn:((d.take (k+1)).flatMap Enc.enc:List PV)=(d.take k).flatMap Enc.enc++[L t]:=by rw [a3,List.flatMap_append];rfl
  generalize ((d.take k).flatMap Enc.enc:List PV)=cs at *
  refine zh (za (zi (za (ze [] (zE e0 hc hk1) ?_))))
  intro v5
  refine zF (some [nx+5]) (Row.pures [0,2,3,4,5,6] (.alt 1 (.alt 7 (Row.pures [8] (.alt 9 (.done) .stop)) .stop) .stop)) mixed (zn hcl' hct) ?_
  refine zN (hcl) (zn hcl' hct) ?_
  refine ⟨by omega,?_⟩
  refine zb ?_
  exact zq (k+1,v4+1) [_] hc (by simp;omega) (by simp [zt k (by omega)]) rfl (by simp [hcn];rfl)
 ·simp at hc
  obtain rfl:k=d.length:=by omega
  have g1:d.take d.length=d:=List.take_length
  refine zu ?_
  rw [g1]
  refine zX 4 rfl ?_
  repeat apply za
  refine zb ?_
  clear hk hc g1
  refine zi (zB (fun s':Nat × zj=>s'.1<=b.toNat/\(0<b->G s'.2)/\qK step (b.toNat-s'.1) s'.2=qK step b.toNat d/\s'.1+jr step (b.toNat-s'.1) s'.2=jr step b.toNat d) (fun (k,e)=>[(2,I b),(3,.ptr nx v0 0),(6,.ptr (nx+2) v2 0),(8,.ptr (nx+3) v3 0),(11,I k)]) (fun (k,e)=>[.cells v0 25 (zv x),.cells v1 58 [L d],.cells v2 58 [yy],.cells v3 58 [L e]]) (fun s'=>b.toNat-s'.1) (0,d) [.dead] ⟨by simp,hd',by simp,by simp⟩ (by simp) (by simp) ?_)
  rintro ⟨k,e⟩ ⟨hk,hG,hi,hco⟩
  simp only at hk hG hi hco ⊢
  rw [<-hi]
  repeat apply za
  refine zb ?_
  refine zr rfl (fun hc=>?_) (fun hc=>?_)
  ·simp at hc
   obtain ⟨mk,ma,mb,mi,mj,least,hB,hM⟩:=hs e (hG (by omega))
   obtain ⟨n,hn⟩:∃n,b.toNat-k=n+1:=⟨b.toNat-k-1,by omega⟩
   refine zh (za (zi (za (zb ?_))))
   refine zA hB ?_
   intro v5
   repeat apply za
   refine zb ?_
   cases hst:step e with
   | none =>
    have hr:qK step (b.toNat-k) e=e:=by rw [hn];unfold qK;rw [hst]
    have hr2:jr step (b.toNat-k) e=0:=by rw [hn];unfold jr;rw [hst]
    rw [hr2] at hco
    rw [hr,<-hco,if_pos (by omega)]
    refine zm rfl (za (zb ?_))
    exact zg (zk hd (by simp;rfl) (by simp [zp]))
   | some e2 =>
    have hr:qK step (b.toNat-k) e=qK step (b.toNat-(k+1)) e2:=by rw [hn,show b.toNat-(k+1)=n by omega];conv=>lhs;unfold qK;rw [hst]
    have hr2:jr step (b.toNat-k) e=jr step (b.toNat-(k+1)) e2+1:=by rw [hn,show b.toNat-(k+1)=n by omega];conv=>lhs;unfold jr;rw [hst]
    obtain ⟨hM1,hG2⟩:=hM e2 hst
    refine zo rfl (zh (zb ?_))
    refine zA hM1 ?_
    refine zb ?_
    exact zq (k+1,e2) [_] ⟨by simp;omega,fun _=>hG2,hr.symm,by simp only;omega⟩ (by simp;omega) (by simp [zt k (by omega)]) rfl (by simp;rfl)
  ·simp at hc
   have hz:b.toNat-k=0:=by omega
   rw [hz] at hco ⊢
   have hco':jr step b.toNat d=k:=by rw [<-hco];rfl
   rw [hco',if_neg (by omega)]
   refine zu (za (zb ?_))
   exact zg (zk hd (by simp;rfl) (by simp [zp,qK]))
open Go Go.Proofs
structure Pc where
 t:Nat
 f:Nat
 o:Nat
 b:Bool
 deriving DecidableEq
def yl:Pc:=⟨0,0,0,false⟩
abbrev pcL (p:Pc):List PV:=[I p.t,I p.f,I p.o,B p.b]
structure Rw5 where
 a:Pc
 b:Pc
 c:Pc
 d:Pc
 e:Pc
abbrev ye (r:Rw5):List PV:=[I r.a.t,I r.a.f,I r.a.o,B r.a.b,I r.b.t,I r.b.f,I r.b.o,B r.b.b,I r.c.t,I r.c.f,I r.c.o,B r.c.b,I r.d.t,I r.d.f,I r.d.o,B r.d.b,I r.e.t,I r.e.f,I r.e.o,B r.e.b]
def Rw5.l (r:Rw5):List Pc:=[r.a,r.b,r.c,r.d,r.e]
def jB:Rw5:=⟨yl,yl,yl,yl,yl⟩
structure Mv where
 k:Nat
 a:Nat
 b:Nat
 i:Nat
 j:Nat
 deriving DecidableEq
abbrev xV (m:Mv):List PV:=[I m.k,I m.a,I m.b,I m.i,I m.j]
abbrev vB (m:Mv) (la lb:Nat):List PV:=[I m.k,I m.a,I m.b,I m.i,I m.j,I la,I lb]
def xW (m:Mv) (la lb:Nat):Bool :=
 if m.k=0 then decide (m.b=m.a/\m.i<m.j/\m.j<la)
 else if m.k=1 then decide (m.i<la/\(if m.a=m.b then m.j<lb else m.j<=lb))
 else if m.k=2 then decide (¬(m.b<m.a\/m.a=m.b/\m.j<=m.i)/\m.i<la/\m.j<lb)
 else decide (m.a<m.b/\m.i<=la/\m.j<=lb)
def jC (m:Mv) (la lb:Nat):Rw5 × Rw5 :=
 if m.k=0 then (⟨⟨m.a,0,m.i,false⟩,⟨m.a,m.i,m.j+1,true⟩,⟨m.a,m.j+1,la,false⟩,yl,yl⟩,jB)
 else if m.k=1 then
  (if m.a≠m.b then (⟨⟨m.a,0,m.i,false⟩,⟨m.a,m.i+1,la,false⟩,yl,yl,yl⟩,⟨⟨m.b,0,m.j,false⟩,⟨m.a,m.i,m.i+1,false⟩,⟨m.b,m.j,lb,false⟩,yl,yl⟩)
  else if m.i<m.j then (⟨⟨m.a,0,m.i,false⟩,⟨m.a,m.i+1,m.j+1,false⟩,⟨m.a,m.i,m.i+1,false⟩,⟨m.a,m.j+1,la,false⟩,yl⟩,jB)
  else (⟨⟨m.a,0,m.j,false⟩,⟨m.a,m.i,m.i+1,false⟩,⟨m.a,m.j,m.i,false⟩,⟨m.a,m.i+1,la,false⟩,yl⟩,jB))
 else if m.k=2 then
  (if m.a=m.b then (⟨⟨m.a,0,m.i,false⟩,⟨m.b,m.j,m.j+1,false⟩,⟨m.a,m.i+1,m.j,false⟩,⟨m.a,m.i,m.i+1,false⟩,⟨m.a,m.j+1,la,false⟩⟩,jB)
  else (⟨⟨m.a,0,m.i,false⟩,⟨m.b,m.j,m.j+1,false⟩,⟨m.a,m.i+1,la,false⟩,yl,yl⟩,⟨⟨m.b,0,m.j,false⟩,⟨m.a,m.i,m.i+1,false⟩,⟨m.b,m.j+1,lb,false⟩,yl,yl⟩))
 else (⟨⟨m.a,0,m.i,false⟩,⟨m.b,m.j,lb,false⟩,yl,yl,yl⟩,⟨⟨m.b,0,m.j,false⟩,⟨m.a,m.i,la,false⟩,yl,yl,yl⟩)
theorem ZjZ (m:Mv) (la lb:Nat) (hk:m.k=0):Pure Tryz.prog 225 [.agg (vB m la lb)] (B (xW m la lb)):=by
 unfold xW
 rw [if_pos hk]
 refine zz Tryz.func225 Tryz.ntmps225 Tryz.results225 fun S nx hd=>?_
 refine za (zb ?_)
 intro v0
 by_cases h1:m.b=m.a
 case neg =>
  have h1':¬(m.b:Int)=m.a:=by omega
  refine za (ze [(7,10),(13,16),(22,25)] (zn h1' zx) ?_)
  exact zg (zk hd rfl (by simp [h1,zp]))
 have h1':(m.b:Int)=m.a:=by omega
 by_cases h2:m.i<m.j
 case neg =>
  have h2':¬(m.i:Int)<m.j:=by omega
  refine za (ze [(7,10),(13,16),(22,25)] (zE h1' h2 zx) ?_)
  exact zg (zk hd rfl (by simp [h2,zp]))
 by_cases h3:m.j<la
 case neg =>
  refine za (ze [(7,10),(13,16),(22,25)] (zP h1' h2 h3 zx) ?_)
  exact zg (zk hd rfl (by simp [h3,zp]))
 refine za (ze [(7,10),(13,16),(22,25)] (zE h1' h2 h3) ?_)
 exact zg (zk hd rfl (by simp [h1,h2,h3,zp]))
theorem Zj0 (m:Mv) (la lb:Nat) (hk:m.k=1) (hlb:lb<=1048576):Pure Tryz.prog 227 [.agg (vB m la lb)] (B (xW m la lb)):=by
 unfold xW
 rw [if_neg (by omega),if_pos hk]
 refine zz Tryz.func227 Tryz.ntmps227 Tryz.results227 fun S nx hd=>?_
 refine za (zb ?_)
 intro v0
 refine za (zb ?_)
 refine za (yk (nx:=nx) (fun z:Int=>(m.j:Int)<=z<->(if m.a=m.b then m.j<lb else m.j<=lb)) (fun z=>[(1,.ptr nx v0 0),(3,I z)]) (fun _=>S) (fun _=>[.cells v0 251 (vB m la lb)]) ?_ ?_)
 ·by_cases h1:m.a=m.b
  ·have h1':(m.a:Int)=m.b:=by omega
   have w1:IntKind.i64.wrap ((lb:Int)-1)=(lb:Int)-1:=wr _ (by omega) (by omega)
   refine za (ze [] h1' ?_)
   refine zm rfl (ze [] w1 ?_)
   exact zD ((lb:Int)-1) [] (by rw [if_pos h1];omega) (by simp) rfl (by simp)
  ·have h1':¬(m.a:Int)=m.b:=by omega
   refine za (ze [] h1' ?_)
   exact zo rfl (zh (zD (lb:Int) [] (by rw [if_neg h1];omega) (by simp) rfl (by simp)))
 ·intro z hz
  by_cases h2:m.i<la
  case neg =>
   refine za (ze [(4,19),(12,27),(18,33)] (zn h2 zx) ?_)
   exact zg (zk hd rfl (by simp [h2,zp]))
  by_cases h3:(m.j:Int)<=z
  case neg =>
   have h4:=(not_congr hz).1 h3
   refine za (ze [(4,19),(12,27),(18,33)] (zn h2 h3) ?_)
   exact zg (zk hd rfl (by simp [h2,h4,zp]))
  have h4:=hz.1 h3
  refine za (ze [(4,19),(12,27),(18,33)] (zn h2 h3) ?_)
  exact zg (zk hd rfl (by simp [h2,h4,zp]))
theorem Zj1 (m:Mv) (la lb:Nat) (hk:m.k=2):Pure Tryz.prog 229 [.agg (vB m la lb)] (B (xW m la lb)):=by
 unfold xW
 rw [if_neg (by omega),if_neg (by omega),if_pos hk]
 refine zz Tryz.func229 Tryz.ntmps229 Tryz.results229 fun S nx hd=>?_
 refine za (zb ?_)
 intro v0
 have rest:∀(P:Prop),(m.i<la->m.j<lb->P)->(¬(m.i<la/\m.j<lb)->P)->P:=fun P a b=>by
  by_cases q:m.i<la/\m.j<lb
  ·exact a q.1 q.2
  ·exact b q
 by_cases h1:m.b<m.a
 ·repeat apply za
  refine ze [(7,10),(15,18)] (zn h1 zx) ?_
  refine zm rfl (za (zb ?_))
  exact zg (zk hd rfl (by simp [h1,zp]))
 by_cases h2:m.a=m.b
 ·have h2':(m.a:Int)=m.b:=by omega
  by_cases h3:m.j<=m.i
  ·have h1':¬m.b<m.b:=by omega
   repeat apply za
   refine ze [(7,10),(15,18)] (zE h2' h1' h3) ?_
   refine zm rfl (za (zb ?_))
   exact zg (zk hd rfl (by simp [h2,h3,zp]))
  ·have h1':¬m.b<m.b:=by omega
   have h0:¬(m.b<m.a\/m.a=m.b/\m.j<=m.i):=by omega
   repeat apply za
   refine ze [(7,10),(15,18)] (zE h2' h1' h3) ?_
   refine zo rfl (zh ?_)
   by_cases h4:m.i<la
   case neg =>
    refine za (ze [(4,32),(12,40),(18,46)] (zn h4 zx) ?_)
    exact zg (zk hd rfl (by simp [h4,zp]))
   by_cases h5:m.j<lb
   case neg =>
    refine za (ze [(4,32),(12,40),(18,46)] (zn h4 h5) ?_)
    exact zg (zk hd rfl (by simp [h5,zp]))
   refine za (ze [(4,32),(12,40),(18,46)] (zn h4 h5) ?_)
   exact zg (zk hd rfl (by simp [h0,h4,h5,zp]))
 ·have h2':¬(m.a:Int)=m.b:=by omega
  have h0:¬(m.b<m.a\/m.a=m.b/\m.j<=m.i):=by omega
  repeat apply za
  refine ze [(7,10),(15,18)] (zE h1 h2' zx) ?_
  refine zo rfl (zh ?_)
  by_cases h4:m.i<la
  case neg =>
   refine za (ze [(4,32),(12,40),(18,46)] (zn h4 zx) ?_)
   exact zg (zk hd rfl (by simp [h4,zp]))
  by_cases h5:m.j<lb
  case neg =>
   refine za (ze [(4,32),(12,40),(18,46)] (zn h4 h5) ?_)
   exact zg (zk hd rfl (by simp [h5,zp]))
  refine za (ze [(4,32),(12,40),(18,46)] (zn h4 h5) ?_)
  exact zg (zk hd rfl (by simp [h0,h4,h5,zp]))
theorem Zj2 (m:Mv) (la lb:Nat) (hk:3<=m.k):Pure Tryz.prog 231 [.agg (vB m la lb)] (B (xW m la lb)):=by
 unfold xW
 rw [if_neg (by omega),if_neg (by omega),if_neg (by omega)]
 refine zz Tryz.func231 Tryz.ntmps231 Tryz.results231 fun S nx hd=>?_
 refine za (zb ?_)
 intro v0
 by_cases h1:m.a<m.b
 case neg =>
  refine za (ze [(7,10),(13,16),(21,24),(27,30)] (zn h1 zx) ?_)
  exact zg (zk hd rfl (by simp [h1,zp]))
 by_cases h2:m.i<=la
 case neg =>
  refine za (ze [(7,10),(13,16),(21,24),(27,30)] (zE h1 h2 zx) ?_)
  exact zg (zk hd rfl (by simp [h2,zp]))
 by_cases h3:m.j<=lb
 case neg =>
  refine za (ze [(7,10),(13,16),(21,24),(27,30)] (zE h1 h2 h3) ?_)
  exact zg (zk hd rfl (by simp [h3,zp]))
 refine za (ze [(7,10),(13,16),(21,24),(27,30)] (zE h1 h2 h3) ?_)
 exact zg (zk hd rfl (by simp [h1,h2,h3,zp]))
theorem Zj3 (m:Mv) (la lb:Nat) (hk:m.k=0) (hi:m.i<=1048576) (hj:m.j<=1048576):Pure Tryz.prog 226 [.agg (vB m la lb)] (.tup [.agg (ye (jC m la lb).1),.agg (ye (jC m la lb).2)]):=by
 have wi:=zt m.i (by omega)
 have wj:=zt m.j (by omega)
 unfold jC
 rw [if_pos hk]
 refine zz Tryz.func226 Tryz.ntmps226 Tryz.results226 fun S nx hd=>?_
 refine za (zb ?_)
 intro v0 v1 v2
 refine za (zF (some [nx]) (Row.pures [0,1,2,3,4,5,6,7,8,9,10,11] .done) mixed trivial ?_)
 refine za (ze [] wj ?_)
 exact zg (zk hd (by simp;rfl) (by simp [zp,jB,yl]))
theorem Zj4 (m:Mv) (la lb:Nat) (hk:3<=m.k):Pure Tryz.prog 232 [.agg (vB m la lb)] (.tup [.agg (ye (jC m la lb).1),.agg (ye (jC m la lb).2)]):=by
 unfold jC
 rw [if_neg (by omega),if_neg (by omega),if_neg (by omega)]
 refine zz Tryz.func232 Tryz.ntmps232 Tryz.results232 fun S nx hd=>?_
 refine za (zb ?_)
 intro v0 v1 v2
 refine za (zF (some [nx]) (Row.pures [0,1,2,3,4,5,6,7,8,9,10,11,12,13,14,15] .done) mixed trivial ?_)
 refine za (zF (some [nx]) (Row.pures [0,1,2,3,4,5,6,7,8,9,10,11,12,13,14,15,16,17] (.alt 18 (.alt 19 (.done) .stop) .stop)) mixed trivial ?_)
 exact zg (zk hd (by simp;rfl) (by simp [zp,jB,yl]))
theorem Zj5 (m:Mv) (la lb:Nat) (hk:m.k=1) (hi:m.i<=1048576) (hj:m.j<=1048576):Pure Tryz.prog 228 [.agg (vB m la lb)] (.tup [.agg (ye (jC m la lb).1),.agg (ye (jC m la lb).2)]):=by
 have wi:=zt m.i (by omega)
 have wj:=zt m.j (by omega)
 unfold jC
 rw [if_neg (by omega),if_pos hk]
 refine zz Tryz.func228 Tryz.ntmps228 Tryz.results228 fun S nx hd=>?_
 refine za (zb ?_)
 intro v0 v1 v2
 refine za (zF (some [nx]) (Row.pures [0,1,2,3,4,5,6,7,8,9,10,11,12,13,14,15] .done) mixed trivial ?_)
 refine za (ze [] wi ?_)
 intro v3
 refine za (zi ?_)
 by_cases h1:m.a=m.b
 case neg =>
  have h1':¬(m.a:Int)=m.b:=by omega
  rw [if_pos h1]
  refine za (ze [] h1' ?_)
  refine zm rfl (za (zF (some [nx,nx+3]) (Row.pures [0,1,2,3,4,5,6,7,8,9,10,11,12,13,14,15,16,17,18,19] (.alt 20 (.alt 21 (.done) .stop) .stop)) mixed wi ?_))
  exact zg (zk hd (by simp;rfl) (by simp [zp,jB,yl]))
 have h1':(m.a:Int)=m.b:=by omega
 rw [if_neg (by simpa using h1)]
 refine za (ze [] h1' ?_)
 refine zo rfl ?_
 by_cases h2:m.i<m.j
 ·rw [if_pos h2]
  refine za (ze [] h2 ?_)
  refine zm rfl (za (ze [] (zn wi wj) ?_))
  exact zg (zk hd (by simp;rfl) (by simp [zp,jB,yl,h1]))
 ·rw [if_neg h2]
  refine za (ze [] h2 ?_)
  refine zo rfl (zh (za (ze [] (zn wi wj) ?_)))
  exact zg (zk hd (by simp;rfl) (by simp [zp,jB,yl,h1]))
theorem Zj6 (m:Mv) (la lb:Nat) (hk:m.k=2) (hi:m.i<=1048576) (hj:m.j<=1048576):Pure Tryz.prog 230 [.agg (vB m la lb)] (.tup [.agg (ye (jC m la lb).1),.agg (ye (jC m la lb).2)]):=by
 have wi:=zt m.i (by omega)
 have wj:=zt m.j (by omega)
 unfold jC
 rw [if_neg (by omega),if_neg (by omega),if_pos hk]
 refine zz Tryz.func230 Tryz.ntmps230 Tryz.results230 fun S nx hd=>?_
 refine za (zb ?_)
 intro v0 v1 v2
 refine za (zF (some [nx]) (Row.pures [0,1,2,3,4,5,6,7,8,9,10,11,12,13,14,15] .done) mixed trivial ?_)
 refine za (ze [] (zn wi wj) ?_)
 intro v3 v4
 by_cases h1:m.a=m.b
 ·have h1':(m.a:Int)=m.b:=by omega
  rw [if_pos h1]
  repeat apply za
  refine ze [] h1' ?_
  refine zm rfl (za (ze [] (zn wi wj) ?_))
  exact zg (zk hd (by simp;rfl) (by simp [zp,jB,yl,h1]))
 ·have h1':¬(m.a:Int)=m.b:=by omega
  rw [if_neg h1]
  repeat apply za
  refine ze [] h1' ?_
  refine zo rfl (zh (za (zF (some [nx,nx+3,nx+4]) (Row.pures [0,1,2,3,4,5,6,7,8,9,10,11,12,13,14,15,16,17,18,19,20,21] (.alt 22 (.alt 23 (.done) .stop) .stop)) mixed (zn wi wj) ?_)))
  exact zg (zk hd (by simp;rfl) (by simp [zp,jB,yl]))
open Go Go.Proofs
abbrev Xs:List PV:=[.fn (.func 225) [] [],.fn (.func 226) [] [],.fn (.func 227) [] [],.fn (.func 228) [] [],.fn (.func 229) [] [],.fn (.func 230) [] [],.fn (.func 231) [] [],.fn (.func 232) [] []]
theorem Zdp:Pure Tryz.prog 181 [] (.agg Xs):=by
 refine zz Tryz.func181 Tryz.ntmps181 Tryz.results181 fun S nx hd=>?_
 refine za (zb ?_)
 intro v0
 refine za (zb ?_)
 exact zg (zk hd (by simp;rfl) rfl)
def tlen (d:zj) (t:Nat):Nat:=(d.getD t []).length
def jK (d:zj) (m:Mv):Bool:=decide (m.k<=3/\m.a<d.length/\m.b<d.length) && xW m (tlen d m.a) (tlen d m.b)
def zZ (d:zj) (m:Mv):Rw5 × Rw5:=jC m (tlen d m.a) (tlen d m.b)
def vC (d:zj) (m:Mv):Rw5 × Rw5 × Bool:=if jK d m=true then ((zZ d m).1,(zZ d m).2,true) else (jB,jB,false)
theorem Xt (d:zj) (m:Mv) (hdn:d.length<=1048576) (hdt:∀t∈d,t.length<=1048576) (hk:m.k<=3) (ha:m.a<d.length) (hb:m.b<d.length) (hi:m.i<=1048576) (hj:m.j<=1048576):Pure Tryz.prog 146 [.agg [L d],.agg (xV m)]
  (.tup [.agg (ye (vC d m).1),.agg (ye (vC d m).2.1),B (vC d m).2.2]):=by
 obtain ⟨ta,xa,a1,-,-,a0⟩:=zC rfl d m.a ha
 obtain ⟨tb,xb,b1,-,-,b0⟩:=zC rfl d m.b hb
 have ha1:1<=d.length-m.a:=by omega
 have hb1:1<=d.length-m.b:=by omega
 have la:tlen d m.a=ta.length:=by unfold tlen;rw [List.getD_eq_getElem?_getD,a1];rfl
 have lb:tlen d m.b=tb.length:=by unfold tlen;rw [List.getD_eq_getElem?_getD,b1];rfl
 have hbl:=hdt tb (List.mem_of_getElem? b1)
 have hmay:jK d m=xW m ta.length tb.length:=by unfold jK;rw [la,lb,decide_eq_true ⟨hk,ha,hb⟩];rfl
 have hcut:zZ d m=jC m ta.length tb.length:=by unfold zZ;rw [la,lb]
 unfold vC
 rw [hmay,hcut]
 clear hmay hcut la lb
 have call:∀f g:Nat,m.k=m.k->True:=fun _ _ _=>trivial
 clear call
 have g1:¬(m.k:Int)<0:=by omega
 have g2:¬(3:Int)<m.k:=by omega
 have g3:¬(m.a:Int)<0:=by omega
 have g4:¬d.length<=m.a:=by omega
 have g5:¬(m.b:Int)<0:=by omega
 have g6:¬d.length<=m.b:=by omega
 refine zz Tryz.func146 Tryz.ntmps146 Tryz.results146 fun S nx hd=>?_
 refine za (zb ?_)
 intro v0 v1 v2 v3
 refine za (zb ?_)
 repeat apply za
 refine ze [(3,18),(8,23),(13,28),(19,34),(24,39)] (zL g1 g2 g3 g4 g5 g6) ?_
 refine zo rfl (zh (za (zF (some [nx,nx+1]) (Row.pures [0,1,2,3,4,5,6,7,8,9,10,11,12,13,14,15,16,17] (.alt 18 (.alt 19 (.done) .stop) .stop)) mixed (zL a0 b0 ha hb ha1 hb1) ?_)))
 intro v4
 obtain ⟨mf,cf,hmf,hcf,hidx⟩:∃mf cf:Nat,Pure Tryz.prog mf [.agg (vB m ta.length tb.length)] (B (xW m ta.length tb.length))/\Pure Tryz.prog cf [.agg (vB m ta.length tb.length)] (.tup [.agg (ye (jC m ta.length tb.length).1),.agg (ye (jC m ta.length tb.length).2)]) /\
   ∃k:Nat,(k:Int)=m.k/\k<4/\(Xs.drop (k*2)).take 2=[.fn (.func mf) [] [],.fn (.func cf) [] []]:=by
  have h4:m.k=0\/m.k=1\/m.k=2\/m.k=3:=by omega
  rcases h4 with h | h | h | h
  ·exact ⟨_,_,ZjZ m _ _ h,Zj3 m _ _ h hi hj,0,by omega,by omega,rfl⟩
  ·exact ⟨_,_,Zj0 m _ _ h hbl,Zj5 m _ _ h hi hj,1,by omega,by omega,rfl⟩
  ·exact ⟨_,_,Zj1 m _ _ h,Zj6 m _ _ h hi hj,2,by omega,by omega,rfl⟩
  ·exact ⟨_,_,Zj2 m _ _ (by omega),Zj4 m _ _ (by omega),3,by omega,by omega,rfl⟩
 obtain ⟨k,hkk,hk4,hkt⟩:=hidx
 obtain rfl:k=m.k:=by omega
 have hk4':(m.k:Int)<4:=by omega
 have hk5:2<=8-m.k*2:=by omega
 generalize hmz:xW m ta.length tb.length=mz at *
 generalize hcz:jC m ta.length tb.length=cz at *
 obtain ⟨r1,r2⟩:=cz
 generalize hkl:Xs=kl at hkt
 have hkinds:=Zdp
 rw [hkl] at hkinds
 have hkll:kl.length=8:=by rw [<-hkl];rfl
 clear hkl
 refine za (zF (some [nx+1]) (Row.pures [0,1,2,3] (.alt 4 (.alt 5 (.done) .stop) .stop)) mixed (yD hkt hk4 hk4' hkll hk5) ?_)
 refine zN (hkinds) (yD hkt hk4 hk4' hkll hk5) ?_
 intro v5
 repeat apply za
 refine zb ?_
 refine zA hmf ?_
 cases mz with
 | false =>
  refine zm rfl (za (zb ?_))
  exact zg (zk hd (by simp;rfl) (by simp [zp,jB,yl]))
 | true =>
  refine zo rfl (zh (za (zb ?_)))
  refine zA hcf ?_
  intro v6 v7
  refine za (zF (some [nx+6,nx+7]) (Row.pures [0,1] (.alt 2 (.alt 3 (Row.pures [4] .done) .stop) .stop)) mixed trivial ?_)
  exact zg (zk hd (by simp;rfl) (by simp [zp]))
open Go Go.Proofs
theorem Zdq (l:List Stop) (k:Nat) (s:Stop) (h:k<l.length):yb (l.flatMap Enc.enc) (k*2) [I s.c,I s.q]=(l.set k s).flatMap Enc.enc:=by
 unfold yb
 rw [List.set_eq_take_append_cons_drop,if_pos h,List.flatMap_append,List.flatMap_cons,<-uK Enc.enc 2 (fun _=>rfl) l k,<-ZX Enc.enc 2 (fun _=>rfl) l (k+1)]
 simp [show k*2+2=(k+1)*2 by omega]
def qL (l:List Stop) (k:Nat):List Stop:=(List.range l.length).map fun q=>if q<k\/l.length-1-q<k then l.getD (l.length-1-q) default else l.getD q default
theorem wO (l:List Stop) (k:Nat):(qL l k).length=l.length:=by simp [qL]
theorem YV {l:List Stop} {k q:Nat} (hq:q<l.length):(qL l k)[q]?=some (if q<k\/l.length-1-q<k then l.getD (l.length-1-q) default else l.getD q default):=by
 unfold qL;rw [List.getElem?_map,List.getElem?_range hq];rfl
theorem Zj7 (l:List Stop):qL l 0=l:=by
 apply List.ext_getElem?
 intro q
 by_cases h:q<l.length
 ·rw [YV h,if_neg (by omega),List.getD_eq_getElem?_getD,List.getElem?_eq_getElem h];rfl
 ·rw [List.getElem?_eq_none (by rw [wO];omega),List.getElem?_eq_none (by omega)]
theorem Zj8 {l:List Stop} {k:Nat} (hk:l.length-1<=k+k):qL l k=l.reverse:=by
 apply List.ext_getElem?
 intro q
 by_cases h:q<l.length
 ·rw [YV h,List.getElem?_reverse h]
  by_cases h1:q<k\/l.length-1-q<k
  ·rw [if_pos h1,List.getD_eq_getElem?_getD,List.getElem?_eq_getElem (by omega)];rfl
  ·rw [if_neg h1,List.getD_eq_getElem?_getD]
   have:q=l.length-1-q:=by omega
   rw [<-this,List.getElem?_eq_getElem h];rfl
 ·rw [List.getElem?_eq_none (by rw [wO];omega),List.getElem?_eq_none (by simp;omega)]
theorem Zj9 {l:List Stop} {k:Nat} (h:k<l.length-1-k) {a b:Stop} (ha:(qL l k)[k]?=some a) (hb:(qL l k)[l.length-1-k]?=some b):((qL l k).set k b).set (l.length-1-k) a=qL l (k+1):=by
 rw [YV (by omega),if_neg (by omega)] at ha
 rw [YV (by omega),if_neg (by omega)] at hb
 cases ha;cases hb
 apply List.ext_getElem?
 intro q
 by_cases hq:q<l.length
 ·rw [YV hq,List.getElem?_set,List.getElem?_set]
  by_cases e1:l.length-1-k=q
  ·rw [if_pos e1,if_pos (by rw [List.length_set,wO];omega),if_pos (by omega)]
   congr 2;omega
  ·rw [if_neg e1]
   by_cases e2:k=q
   ·subst e2
    rw [if_pos rfl,if_pos (by rw [wO];exact hq),if_pos (by omega)]
   ·rw [if_neg e2,YV hq]
    by_cases h1:q<k\/l.length-1-q<k
    ·rw [if_pos h1,if_pos (by omega)]
    ·rw [if_neg h1,if_neg (by omega)]
 ·rw [List.getElem?_eq_none (by rw [List.length_set,List.length_set,wO];omega),List.getElem?_eq_none (by rw [wO];omega)]
theorem Xu (S:Store) (i:Nat) (a b:Ob):(S.set i a).set i b=S.set i b:=by
 funext o
 by_cases h:o=i
 ·subst h;rw [Store.set_same,Store.set_same]
 ·rw [Store.set_other _ _ _ _ h,Store.set_other _ _ _ _ h,Store.set_other _ _ _ _ h]
theorem Zdr {S:Store} {id ver:Nat} (pre l:List Stop) (hn:(pre++l).length<=1048576) (hid:S id=.cells ver 35 ((pre++l).flatMap Enc.enc)) :
  Spec Tryz.prog 185 [.sl id ver 2 (pre.length*2) l.length] S (fun _ S'=>S'=S.set id (.cells ver 35 ((pre++l.reverse).flatMap Enc.enc))):=by
 refine qO Tryz.func185 Tryz.ntmps185 Tryz.results185 fun nx hd=>?_
 have hlt:id<nx:=qB hd hid (by simp)
 simp only [List.length_append] at hn
 have w0:IntKind.i64.wrap ((l.length:Int)-1)=(l.length:Int)-1:=wr _ (by omega) (by omega)
 refine za (ze [] w0 ?_)
 refine zi (yP (σ:=Nat) (fun k=>k<=l.length) (fun k=>[(0,.sl id ver 2 (pre.length*2) l.length),(2,I k),(3,I ((l.length:Int)-1-k))]) (fun k=>S.set id (.cells ver 35 ((pre++qL l k).flatMap Enc.enc))) (fun _=>[]) (fun k=>l.length-k) (zD 0 [] (by simp) (by simp) (by rw [Zj7];exact YJ S id _ hid) (by simp)) ?_)
 rintro k hk
 show PW _ _ _ _ _ _ _ (ext (S.set id (.cells ver 35 ((pre++qL l k).flatMap Enc.enc))) nx [])
 obtain ⟨T,hT⟩:∃T,T=S.set id (.cells ver 35 ((pre++qL l k).flatMap Enc.enc)):=⟨_,rfl⟩
 rw [<-hT]
 repeat apply za
 refine zb ?_
 refine zr rfl (fun hc=>?_) (fun hc=>?_)
 ·simp at hc
  have h1:k<l.length-1-k:=by omega
  have x1:=wO l k
  obtain ⟨a,ta,a1,-,-,-,a0⟩:=el 2 rfl (pre++qL l k) (pre.length+k) (by simp [wO];omega)
  obtain ⟨b,tb,b1,-,-,-,b0⟩:=el 2 rfl (pre++qL l k) (pre.length+(l.length-1-k)) (by simp [wO];omega)
  have hst:=Zj9 h1 (a:=a) (b:=b) (by rw [<-a1,List.getElem?_append_right (by omega),Nat.add_sub_cancel_left]) (by rw [<-b1,List.getElem?_append_right (by omega),Nat.add_sub_cancel_left])
  have sp1:=Zdq (pre++qL l k) (pre.length+k) b (by simp [wO];omega)
  have sp2:=Zdq ((pre++qL l k).set (pre.length+k) b) (pre.length+(l.length-1-k)) a (by simp [wO];omega)
  have hs2:((pre++qL l k).set (pre.length+k) b).set (pre.length+(l.length-1-k)) a=pre++qL l (k+1):=by
   rw [List.set_append_right _ _ (by omega),List.set_append_right _ _ (by omega),Nat.add_sub_cancel_left,Nat.add_sub_cancel_left,hst]
  rw [hs2] at sp2
  have hjj:(l.length:Int)-1-k=((l.length-1-k:Nat):Int):=by omega
  generalize l.length-1-k=j at *
  generalize hw0:((pre++qL l k).flatMap Enc.enc:List PV)=c0 at *
  generalize hw1:(((pre++qL l k).set (pre.length+k) b).flatMap Enc.enc:List PV)=c1 at *
  have l0:c0.length=(pre.length+l.length)*2:=by rw [<-hw0,wd];simp [wO]
  have l1:c1.length=(pre.length+l.length)*2:=by rw [<-hw1,wd];simp [wO]
  have hTid:T id=.cells ver 35 c0:=by rw [hT];exact Store.set_same _ _ _
  have xid:=fun obs=>zH (S:=T) (obs:=obs) hlt
  have xid1:=fun obs=>zH (S:=T.set id (.cells ver 35 c1)) (obs:=obs) hlt
  have hs1:(T.set id (.cells ver 35 c1)) id=.cells ver 35 c1:=Store.set_same _ _ _
  have hq1:k+1<=l.length:=by omega
  have q1:pre.length*2+k*2=(pre.length+k)*2:=by omega
  have q2:pre.length*2+j*2=(pre.length+j)*2:=by omega
  have q3:j<l.length:=by omega
  have q4:k<l.length:=by omega
  have q5:¬nx<=id:=by omega
  refine zh (za (zi ?_))
  rw [hjj]
  refine zF (some []) (Row.pures [0,1,2,3,4,5,6,8,9,10] (.alt 7 (.alt 11 (Row.pures [12] (.alt 13 (Row.pures [14] (.alt 15 (.done) .stop)) .stop)) .stop) (.alt 11 (.alt 7 (Row.pures [12] (.alt 13 (Row.pures [14] (.alt 15 (.done) .stop)) .stop)) .stop) .stop))) mixed (zL xid hTid q1 q2 a0 (zn (zL b0 q3 q4 q5 l0 sp1) (zP hs1 xid1 sp2 l1))) ?_
  have wj:IntKind.i64.wrap ((j:Int)-1)=(l.length:Int)-1-((k+1:Nat):Int):=by rw [wr _ (by omega) (by omega)];omega
  have wk:=zt k (by omega)
  have hfin:S.set id (.cells ver 35 ((pre++qL l (k+1)).flatMap Enc.enc))=(T.set id (.cells ver 35 c1)).set id (.cells ver 35 ((pre++qL l (k+1)).flatMap Enc.enc)):=by rw [hT,Xu,Xu]
  have happ:((pre++qL l (k+1)).flatMap Enc.enc:List PV)=pre.flatMap Enc.enc++(qL l (k+1)).flatMap Enc.enc:=by rw [List.flatMap_append]
  rw [happ] at hfin
  refine ⟨?_,?_⟩
  ·refine ⟨by omega,by omega,?_⟩
   refine ze [] (zn wk wj) ?_
   exact zq (k+1) [] hq1 (by omega) (by simp) (by rw [happ,hT];simp only [Xu]) (by simp)
  ·refine ⟨by omega,by omega,?_⟩
   refine ze [] (zn wk wj) ?_
   exact zq (k+1) [] hq1 (by omega) (by simp) (by rw [happ,hT];simp only [Xu]) (by simp)
 ·simp at hc
  refine zu ?_
  refine ⟨[],T,rfl,?_,zU ?_⟩
  ·rw [hT,Zj8 (by omega)]
  ·rw [hT]
   intro i hi
   rw [Store.set_other _ _ _ _ (by omega)];exact hd i hi
open Go Go.Proofs
def yv (d:zj) (p:Pc):List Stop:=if p.f<p.o then (bif p.b then (((d.getD p.t []).drop p.f).take (p.o-p.f)).reverse else ((d.getD p.t []).drop p.f).take (p.o-p.f)) else []
def yu (d:zj) (r:Rw5):List Stop:=r.l.flatMap (yv d)
def YW (d:zj) (p:Pc):Prop:=p.f<p.o->p.t<d.length/\p.o<=tlen d p.t
def wx (d:zj) (r:Rw5):Prop:=∀p∈r.l,YW d p
theorem Zka (d:zj):wx d jB:=by
 intro p hp h
 simp [Rw5.l,jB] at hp
 subst hp
 exact absurd h (by decide)
theorem Q6 (r:Rw5) {k:Nat} (h:k<5):∃p,r.l[k]?=some p/\((ye r).drop (k*4)).take 4=pcL p/\r.l.take (k+1)=r.l.take k++[p]:=by
 have h5:k=0\/k=1\/k=2\/k=3\/k=4:=by omega
 rcases h5 with rfl | rfl | rfl | rfl | rfl<;>exact ⟨_,rfl,rfl,rfl⟩
theorem Vz {d:zj} {p:Pc} {m:Nat} (h:∀t∈d,t.length<=m):(yv d p).length<=m:=by
 have hg:(d.getD p.t []).length<=m:=by
  rw [List.getD_eq_getElem?_getD]
  cases hq:d[p.t]? with
  | none=>simp
  | some l=>exact h l (List.mem_of_getElem? hq)
 unfold yv
 generalize d.getD p.t []=l at *
 split
 ·cases p.b<;>simp<;>omega
 ·simp
theorem Zds (d:zj) (r:Rw5) (hdn:d.length<=1048576) (hdt:∀t∈d,t.length<=1000) (hr:wx d r):Pure Tryz.prog 149 [.agg [L d],.agg (ye r)] (L (yu d r)):=by
 have hat:=fun k (h:k<5)=>Q6 r h
 have hz:yu d r=(r.l.take 5).flatMap (yv d):=by unfold yu;rw [List.take_of_length_le (by simp [Rw5.l])]
 rw [hz]
 clear hz
 have hcl:(ye r).length=20:=rfl
 have hct:(ye r).take 20=ye r:=rfl
 have hpl:=fun p=>Vz (d:=d) (p:=p) hdt
 have hgl:∀k,((r.l.take k).flatMap (yv d)).length<=1000*k:=by
  intro k
  induction k with
  | zero=>simp
  | succ k ih =>
   by_cases hk:k<5
   ·obtain ⟨p,-,-,e⟩:=hat k hk
    rw [e,List.flatMap_append,List.length_append]
    have:=hpl p
    simp only [List.flatMap_cons,List.flatMap_nil,List.append_nil];omega
   ·rw [List.take_of_length_le (by simp [Rw5.l];omega)] at ih ⊢;omega
 have hrl:r.l.length=5:=rfl
 generalize hrc:ye r=rc at *
 refine zz Tryz.func149 Tryz.ntmps149 Tryz.results149 fun S nx hd=>?_
 refine za (zb ?_)
 intro v0 v1
 refine za (zb ?_)
 refine za (yT 5 35 2 rfl fun v2=>?_)
 refine za (ze [] (zn hcl hct) ?_)
 refine zi (zB (fun s':Nat × Nat=>s'.1<=5) (fun (k,v2)=>[(2,.ptr nx v0 0),(3,.ptr (nx+1) v1 0),(5,.sl (nx+2) v2 2 0 ((r.l.take k).flatMap (yv d)).length),(9,.agg rc),(10,I k)]) (fun (k,v2)=>[.cells v0 58 [L d],.cells v1 195 rc,.cells v2 35 (((r.l.take k).flatMap (yv d)).flatMap Enc.enc)]) (fun s'=>5-s'.1) (0,v2) [] (by simp) (by simp) (by simp) ?_)
 rintro ⟨k,v2⟩ hk
 simp only at hk ⊢
 by_cases hk5:k<5
 ·obtain ⟨p,hp1,hp2,hp3⟩:=hat k hk5
  have hk5':(k:Int)<5:=by omega
  have hk6:4<=20-k*4:=by omega
  have hok:=hr p (List.mem_of_getElem? hp1)
  have hol:=hgl k
  have hnx:(r.l.take (k+1)).flatMap (yv d)=(r.l.take k).flatMap (yv d)++yv d p:=by rw [hp3,List.flatMap_append];simp
  have hol2:=hpl p
  generalize (r.l.take k).flatMap (yv d)=out at *
  have wk:=zt k (by omega)
  refine za (ze [] hk5' ?_)
  refine za (zm rfl (zh (za (zi (za (ze [] (yD hp2 hk5 hk5' hcl hk6) ?_))))))
  intro v3
  by_cases hfo:p.f<p.o
  case neg =>
   have hpz:yv d p=[]:=by unfold yv;rw [if_neg hfo]
   have hfo':p.o<=p.f:=by omega
   repeat apply za
   refine ze [] hfo' ?_
   refine zm (by simp [hfo']) ?_
   refine zu (zb ?_)
   exact zq (k+1,v2) [_] (by simp;omega) (by simp;omega) (by simp [wk,hnx,hpz]) rfl (by simp [hnx,hpz];rfl)
  obtain ⟨ht,ho⟩:=hok hfo
  obtain ⟨t,tt,t1,-,-,t0⟩:=zC rfl d p.t ht
  have ht1:1<=d.length-p.t:=by omega
  have htg:d.getD p.t []=t:=by rw [List.getD_eq_getElem?_getD,t1];rfl
  unfold tlen at ho
  rw [htg] at ho
  have hpz:yv d p=bif p.b then ((t.drop p.f).take (p.o-p.f)).reverse else (t.drop p.f).take (p.o-p.f):=by unfold yv;rw [if_pos hfo,htg]
  have hfo':¬p.o<=p.f:=by omega
  have hsl:((t.flatMap Enc.enc:List PV).drop (p.f*2)).take ((p.o-p.f)*2)=((t.drop p.f).take (p.o-p.f)).flatMap Enc.enc:=by rw [ZX Enc.enc 2 (fun _=>rfl) t p.f,uK Enc.enc 2 (fun _=>rfl) (t.drop p.f) (p.o-p.f)]
  have hsl2:((t.drop p.f).take (p.o-p.f)).length=p.o-p.f:=by simp;omega
  have hsl3:(((t.drop p.f).take (p.o-p.f)).flatMap Enc.enc:List PV).length=(p.o-p.f)*2:=by rw [wd,hsl2]
  generalize (t.drop p.f).take (p.o-p.f)=sg at *
  have hof:(out.flatMap Enc.enc:List PV).length=out.length*2:=wd out
  have hot:(out.flatMap Enc.enc:List PV).take (out.length*2)=out.flatMap Enc.enc:=List.take_of_length_le (by omega)
  have q1:p.f<=p.o:=by omega
  have htl:=hdt t (List.mem_of_getElem? t1)
  repeat apply za
  refine ze [] hfo' ?_
  refine zo (by simp [hfo']) ?_
  refine zh (za (zb ?_))
  refine za (zF (some [nx,nx+3]) (Row.pures [0,1,2,3,4,5,6,7,8,9,10,11,12] (.alt 13 (Row.pures [14] .done) .stop)) mixed (zL t0 ht ht1 hof hot (zP hsl hsl2 q1 ho)) ?_)
  refine ⟨by omega,?_⟩
  have hsgl:sg.length<=1000:=by
   have h1:=hdt t (List.mem_of_getElem? t1)
   omega
  cases hpb:p.b with
  | false =>
   rw [hpb] at hpz
   simp only [cond_false] at hpz
   refine za (ze [] hpb ?_)
   refine zo rfl (zh (zb ?_))
   exact zq (k+1,v2+1) [_] (by simp;omega) (by simp;omega) (by simp [wk,hnx,hpz,hsl2]) rfl (by simp [hnx,hpz];rfl)
  | true =>
   rw [hpb] at hpz
   simp only [cond_true] at hpz
   have hrev:=fun (S:Store) (id ver:Nat) h=>Zdr (S:=S) (id:=id) (ver:=ver) out sg (by simp;omega) h
   rw [hsl2] at hrev
   refine za (ze [] hpb ?_)
   refine zm rfl (z8 [] (by rfl) (by rfl) fun K Gc Gh hK hGc hGh X hX0 hX=>?_)
   simp -implicitDefEqProofs [hX0,hX]
   try clear hX0 hX X
   refine hGc _ _ _ _ _ _ _ fun hsuf=>((hrev _ _ _ (by rw [yS,List.flatMap_append];rfl)).mono ?_).v
   rintro _ _ rfl
   refine ⟨_,_,qA _ (by omega) (by simp),?_⟩
   clear hGc hGh
   clear Gc Gh
   refine zW hsuf (D:=[]) (by rfl) fun Gc Gh hGc hGh X hX0 hX=>?_
   simp -implicitDefEqProofs [hX0,hX,(show nx+2-nx=2 by omega)]
   clear hX0 hX X
   refine hK _ _ _ ?_
   clear hK hGc hGh
   clear K Gc Gh
   refine zb ?_
   exact zq (k+1,v2+1) [_] (by simp;omega) (by simp;omega) (by simp [wk,hnx,hpz,hsl2]) rfl (by simp [hnx,hpz];rfl)
 ·obtain rfl:k=5:=by omega
  generalize (r.l.take 5).flatMap (yv d)=out at *
  refine za (zb ?_)
  refine za (zo rfl (zu (zX 2 rfl ?_)))
  refine za (zb ?_)
  exact zg (zk hd (by simp;rfl) (by simp [zp]))
open Go Hp
theorem Zdt {α:Type} {d:List α} (hn:d.Nodup) {i j:Nat} {t:α} (hi:d[i]?=some t) (hj:d[j]?=some t):i=j:=by
 obtain ⟨g1,g2⟩:=List.getElem?_eq_some_iff.1 hi
 obtain ⟨g3,g4⟩:=List.getElem?_eq_some_iff.1 hj
 have hp:=List.pairwise_iff_getElem.1 hn
 rcases Nat.lt_trichotomy i j with h | h | h
 ·exact absurd (g2.trans g4.symm) (hp i j g1 g3 h)
 ·exact h
 ·exact absurd (g4.trans g2.symm) (hp j i g3 g1 h)
def js (f:zG->Bool):zj->Int
 | []=>-1
 | t :: d=>if 0<=js f d then js f d+1 else if f t then 0 else -1
theorem Zdu (f:zG->Bool):∀d:zj,(js f d=-1/\∀t∈d,f t=false)\/∃(k:Nat) (t:zG),d[k]?=some t/\f t=true/\js f d=k
 | []=>.inl ⟨rfl,fun t h=>by cases h⟩
 | u :: d=>by
  unfold js
  rcases Zdu f d with ⟨h1,h2⟩ | ⟨k,t,h1,h2,h3⟩
  ·rw [h1,if_neg (by omega)]
   cases hu:f u with
   | true=>exact .inr ⟨0,u,rfl,hu,by simp⟩
   | false =>
    refine .inl ⟨by simp,fun t ht=>?_⟩
    rcases List.mem_cons.1 ht with rfl | ht
    ·exact hu
    ·exact h2 t ht
  ·rw [h3,if_pos (by omega)]
   exact .inr ⟨k+1,t,by simpa using h1,h2,by simp⟩
def VA (d:zj) (a b:Nat) (t:zG) (k:Nat):zj:=(List.range k).flatMap fun j=>if j=a then [t] else if j=b then [] else [d.getD j []]
def uT (c:Int) (t:zG):Bool:=decide (uR t=some c)
def uU (c:Int) (t:zG):Bool:=decide (Zl t=some c)
def uV (x:Inst) (d:zj) (p:Pr):zj :=
 if js (uT p.a) d<0\/js (uU p.b) d<0\/js (uT p.a) d=js (uU p.b) d\/(p.s<=0/\(d.length:Int)<=x.veh) then d
 else if zK x (d.getD (js (uT p.a) d).toNat []++d.getD (js (uU p.b) d).toNat [])=0 then
  VA d (js (uT p.a) d).toNat (js (uU p.b) d).toNat (d.getD (js (uT p.a) d).toNat []++d.getD (js (uU p.b) d).toNat []) d.length
 else d
theorem VB {α β γ:Type} {f:α->List γ} {g:β->List γ}:∀(A:List α) (B:List β),A.length=B.length->(∀(j:Nat) a b,A[j]?=some a->B[j]?=some b->f a=g b)->A.flatMap f=B.flatMap g
 | [],[],_,_=>rfl
 | a :: A,b :: B,hl,h=>by
  rw [List.flatMap_cons,List.flatMap_cons,h 0 a b rfl rfl,VB A B (by simpa using hl) fun j a b ha hb=>h (j+1) a b (by simpa using ha) (by simpa using hb)]
 | [],_ :: _,hl,_=>by simp at hl
 | _ :: _,[],hl,_=>by simp at hl
theorem VC {α:Type} (p:α->Bool):∀l:List α,l.filter p=l.flatMap fun a=>if p a then [a] else []
 | []=>rfl
 | a :: l=>by
  rw [List.flatMap_cons,<-VC p l,List.filter_cons]
  cases p a<;>simp
structure Apt (T:zj):Prop where
 u:∀(i j:Nat) t s s',T[i]?=some t->s∈t->∀t',T[j]?=some t'->s'∈t'->s.c=s'.c->i=j
theorem JI.apt {ss:List Stop} {T:zj} {g:Int->Option Int} (h:JI ss T g):Apt T:=⟨fun i j t s s' hi hs t' hj hs' e=>by
 have e1:=h.g i t s hi hs
 have e2:=h.g j t' s' hj hs'
 rw [e,e2] at e1
 have:=Option.some.inj e1
 omega⟩
abbrev ne (t:zG):Bool:=!t.isEmpty
theorem Q7 {t:zG} (h:ne t=true):∃s,s∈t:=by
 cases t with
 | nil=>cases h
 | cons s t=>exact ⟨s,by simp⟩
theorem Q8 {t:zG} {s:Stop} (h:s∈t):ne t=true:=by
 cases t with
 | nil=>cases h
 | cons s t=>rfl
def YX (ta tb u:zG):zj:=if u=ta then [ta++tb] else if u=tb then [] else [u]
theorem Zkb {T:zj} (hA:Apt T) {i k:Nat} {ta tb:zG} (hi:T[i]?=some ta) (hk:T[k]?=some tb) (hik:i≠k) (ha:ne ta=true) (hb:ne tb=true) :
  ((T.set i (ta++tb)).set k []).filter ne=(T.filter ne).flatMap (YX ta tb):=by
 rw [VC ne T,List.flatMap_assoc,VC]
 refine VB _ _ (by simp) fun j u v hu hv=>?_
 obtain ⟨sa,hsa⟩:=Q7 ha
 obtain ⟨sb,hsb⟩:=Q7 hb
 have hjl:=(List.getElem?_eq_some_iff.1 hv).1
 by_cases h1:k=j
 ·subst h1
  rw [List.getElem?_set_self (by simpa using hjl)] at hu
  cases hu
  obtain rfl:tb=v:=by rw [hk] at hv;exact Option.some.inj hv
  have hne:tb≠ta:=by
   rintro rfl
   exact hik (hA.u i k tb sb sb hi hsb tb hk hsb rfl)
  rw [if_pos hb]
  simp [YX,hne]
 ·rw [List.getElem?_set_ne h1] at hu
  by_cases h2:i=j
  ·subst h2
   rw [List.getElem?_set_self hjl] at hu
   cases hu
   obtain rfl:ta=v:=by rw [hi] at hv;exact Option.some.inj hv
   rw [if_pos ha,if_pos (Q8 (s:=sa) (by simp [hsa]))]
   simp [YX]
  ·rw [List.getElem?_set_ne h2] at hu
   obtain rfl:u=v:=by rw [hv] at hu;exact (Option.some.inj hu).symm
   cases hn:ne u with
   | false=>simp
   | true =>
    obtain ⟨su,hsu⟩:=Q7 hn
    have n1:u≠ta:=by rintro rfl;exact h2 (hA.u i j u su su hi hsu u hv hsu rfl)
    have n2:u≠tb:=by rintro rfl;exact h1 (hA.u k j u su su hk hsu u hv hsu rfl)
    simp [YX,n1,n2]
theorem Zkc {T:zj} (hA:Apt T):(T.filter ne).Nodup:=by
 rw [List.nodup_iff_pairwise_ne,List.pairwise_filter,List.pairwise_iff_getElem]
 intro i j hi hj hij h1 h2 e
 obtain ⟨s,hs⟩:=Q7 h1
 have:=hA.u i j T[i] s s (List.getElem?_eq_getElem hi) hs T[j] (List.getElem?_eq_getElem hj) (e ▸ hs) rfl
 omega
theorem Zkd {d:zj} (hn:d.Nodup) {a b:Nat} {ta tb:zG} (ha:d[a]?=some ta) (hb:d[b]?=some tb):VA d a b (ta++tb) d.length=d.flatMap (YX ta tb):=by
 unfold VA
 refine VB _ _ (by simp) fun j n u hj hu=>?_
 rw [List.getElem?_range (List.getElem?_eq_some_iff.1 hu).1] at hj
 cases hj
 have same:∀{k:Nat} {t:zG},d[k]?=some t->(j=k<->u=t):=by
  intro k t hk
  constructor
  ·rintro rfl;rw [hu] at hk;exact Option.some.inj hk
  ·rintro rfl;exact Zdt hn hu hk
 have e1:=same ha
 have e2:=same hb
 have hg:d.getD j []=u:=by rw [List.getD_eq_getElem?_getD,hu];rfl
 unfold YX
 by_cases h1:j=a
 ·rw [if_pos h1,if_pos (e1.1 h1)]
 ·rw [if_neg h1,if_neg fun e=>h1 (e1.2 e)]
  by_cases h2:j=b
  ·rw [if_pos h2,if_pos (e2.1 h2)]
  ·rw [if_neg h2,if_neg fun e=>h2 (e2.2 e),hg]
theorem Zdv {T:zj} (hA:Apt T) {i:Nat} {t:zG} {s:Stop} (hi:T[i]?=some t) (hs:s∈t) (f:zG->Bool) (hf:∀u,f u=true->∃s'∈u,s'.c=s.c) :
  (f t=false/\js f (T.filter ne)=-1)\/(f t=true/\∃k:Nat,(T.filter ne)[k]?=some t/\js f (T.filter ne)=k):=by
 have uniq:∀u∈T.filter ne,f u=true->u=t:=by
  intro u hu hfu
  obtain ⟨s',hs',e⟩:=hf u hfu
  obtain ⟨j,hj⟩:=List.mem_iff_getElem?.1 (List.mem_filter.1 hu).1
  have:=hA.u i j t s s' hi hs u hj hs' e.symm
  subst this
  rw [hi] at hj;exact (Option.some.inj hj).symm
 have ht:t∈T.filter ne:=List.mem_filter.2 ⟨List.mem_of_getElem? hi,Q8 hs⟩
 rcases Zdu f (T.filter ne) with ⟨h1,h2⟩ | ⟨k,u,h1,h2,h3⟩
 ·exact .inl ⟨h2 t ht,h1⟩
 ·have:=uniq u (List.mem_of_getElem? h1) h2
  subst this
  exact .inr ⟨h2,k,h1,h3⟩
theorem Zke {c:Int} {t:zG} (h:uT c t=true):∃s∈t,s.c=c:=by
 have h:uR t=some c:=of_decide_eq_true h
 unfold uR at h
 obtain ⟨s,h1,h2⟩:=Option.map_eq_some_iff.1 h
 exact ⟨s,List.mem_of_getElem? h1,h2⟩
theorem Zkf {c:Int} {t:zG} (h:uU c t=true):∃s∈t,s.c=c:=by
 have h:Zl t=some c:=of_decide_eq_true h
 unfold Zl at h
 obtain ⟨s,h1,h2⟩:=Option.map_eq_some_iff.1 h
 exact ⟨s,List.mem_of_getElem? h1,h2⟩
theorem VD (p:zG->Bool):∀T:zj,((T.filter p).length:Int)=(T.map fun t=>if p t then (1:Int) else 0).sum
 | []=>rfl
 | t :: T=>by
  rw [List.filter_cons,List.map_cons,List.sum_cons,<-VD p T]
  cases p t<;>simp<;>omega
theorem Zkg {T:zj} {i k:Nat} {ta tb:zG} (hi:T[i]?=some ta) (hk:T[k]?=some tb) (hik:i≠k) (ha:ne ta=true) (hb:ne tb=true) :
  ((((T.set i (ta++tb)).set k []).filter ne).length:Int)=((T.filter ne).length:Int)-1:=by
 obtain ⟨sa,hsa⟩:=Q7 ha
 rw [VD,VD,Q3 _ _ k tb [] (by rw [List.getElem?_set_ne hik];exact hk),Q3 _ _ i ta (ta++tb) hi]
 have hn:ne (ta++tb)=true:=Q8 (s:=sa) (by simp [hsa])
 simp only [ha,hb,hn,if_true]
 simp
theorem Zkh {x:Inst} {ss:List Stop} {st:zj × Int} {g:Int->Option Int} (h:JI ss st.1 g) (hnum:st.2=((st.1.filter ne).length:Int)) {p:Pr} (hpa:p.a∈ss.map (·.c)) (hpb:p.b∈ss.map (·.c)) :
  uV x (st.1.filter ne) p=(qq x st p).1.filter ne/\(qq x st p).2=(((qq x st p).1.filter ne).length:Int)/\∃g',JI ss (qq x st p).1 g':=by
 obtain ⟨i,a,sa,hia,hsa,hsac,hga,hpi⟩:=h.there hpa
 obtain ⟨k,b,sb,hkb,hsb,hsbc,hgb,hpk⟩:=h.there hpb
 have hgi:st.1.getD i []=a:=by rw [List.getD_eq_getElem?_getD,hia];rfl
 have hgk:st.1.getD k []=b:=by rw [List.getD_eq_getElem?_getD,hkb];rfl
 have hdef:qq x st p=bif yV x st.2 p i k a b then ((st.1.set i (a++b)).set k [],st.2-1) else st:=by
  unfold qq YO
  simp only [hpi,hpk,hgi,hgk]
 have hA:=h.apt
 have hna:=Q8 hsa
 have hnb:=Q8 hsb
 have hnd:=Zkc hA
 rw [hdef]
 have stay:yV x st.2 p i k a b=false->uV x (st.1.filter ne) p=st.1.filter ne->uV x (st.1.filter ne) p=(bif yV x st.2 p i k a b then ((st.1.set i (a++b)).set k [],st.2-1) else st).1.filter ne/\(bif yV x st.2 p i k a b then ((st.1.set i (a++b)).set k [],st.2-1) else st).2=(((bif yV x st.2 p i k a b then ((st.1.set i (a++b)).set k [],st.2-1) else st).1.filter ne).length:Int)/\∃g',JI ss (bif yV x st.2 p i k a b then ((st.1.set i (a++b)).set k [],st.2-1) else st).1 g':=by
  intro e1 e2
  rw [e1]
  exact ⟨e2,hnum,g,h⟩
 rcases Zdv hA hia hsa (uT p.a) (fun u hu=>by rw [hsac];exact Zke hu) with ⟨fa,la⟩ | ⟨fa,ka,ha1,la⟩
 ·have e1:uR a≠some p.a:=of_decide_eq_false fa
  refine stay (by simp [yV,e1]) ?_
  unfold uV;rw [if_pos (.inl (by omega))]
 rcases Zdv hA hkb hsb (uU p.b) (fun u hu=>by rw [hsbc];exact Zkf hu) with ⟨fb,lb⟩ | ⟨fb,kb,hb1,lb⟩
 ·have e1:Zl b≠some p.b:=of_decide_eq_false fb
  refine stay (by simp [yV,e1]) ?_
  unfold uV;rw [if_pos (.inr (.inl (by omega)))]
 have e1:uR a=some p.a:=of_decide_eq_true fa
 have e2:Zl b=some p.b:=of_decide_eq_true fb
 have hab:ka=kb<->i=k:=by
  constructor
  ·rintro rfl
   obtain rfl:a=b:=by rw [ha1] at hb1;exact Option.some.inj hb1
   exact hA.u i k a sa sa hia hsa a hkb hsa rfl
  ·rintro rfl
   obtain rfl:a=b:=by rw [hia] at hkb;exact Option.some.inj hkb
   exact Zdt hnd ha1 hb1
 have ga:(st.1.filter ne).getD (ka:Int).toNat []=a:=by rw [Int.toNat_natCast,List.getD_eq_getElem?_getD,ha1];rfl
 have gb:(st.1.filter ne).getD (kb:Int).toNat []=b:=by rw [Int.toNat_natCast,List.getD_eq_getElem?_getD,hb1];rfl
 by_cases hik:i=k
 ·refine stay (by simp [yV,hik]) ?_
  unfold uV;rw [if_pos (.inr (.inr (.inl (by rw [la,lb,hab.2 hik]))))]
 by_cases hfew:p.s<=0/\st.2<=x.veh
 ·refine stay (by simp [yV,hfew.1,hfew.2]) ?_
  unfold uV;rw [if_pos (.inr (.inr (.inr ⟨hfew.1,by omega⟩)))]
 have hcond:¬(js (uT p.a) (st.1.filter ne)<0\/js (uU p.b) (st.1.filter ne)<0\/js (uT p.a) (st.1.filter ne)=js (uU p.b) (st.1.filter ne)\/(p.s<=0/\((st.1.filter ne).length:Int)<=x.veh)):=by
  rw [la,lb]
  rintro (q | q | q | q)
  ·omega
  ·omega
  ·exact hik (hab.1 (by omega))
  ·exact hfew ⟨q.1,by omega⟩
 by_cases hmay:zK x (a++b)=0
 ·have hc:yV x st.2 p i k a b=true:=by
   unfold yV
   simp only [hik,e1,e2,hmay,Bool.and_eq_true,decide_eq_true_eq,ne_eq,not_false_eq_true,Bool.not_eq_true',Bool.and_eq_false_iff,decide_eq_false_iff_not,and_true,true_and]
   by_cases q:p.s<=0
   ·exact .inr fun e=>hfew ⟨q,e⟩
   ·exact .inl q
  rw [hc]
  simp only [cond_true]
  refine ⟨?_,?_,_,h.join hia hkb hik⟩
  ·unfold uV
   rw [if_neg hcond,la,lb,ga,gb,if_pos hmay,Zkb hA hia hkb hik hna hnb,<-Zkd hnd ha1 hb1]
   rfl
  ·rw [Zkg hia hkb hik hna hnb,hnum]
 ·refine stay (by simp [yV,hmay]) ?_
  unfold uV
  rw [if_neg hcond,la,lb,ga,gb,if_neg hmay]
theorem Zki (ss:List Stop):(ss.map fun s=>[s]).filter ne=qg ss:=by
 unfold qg;rw [List.filter_eq_self];intro t ht;obtain ⟨s,_,rfl⟩:=List.mem_map.1 ht;rfl
open Go Hp
theorem VE (l:List Stop):(qg l).length=l.length:=by simp [qg]
theorem Zkj {x:Inst} {ss:List Stop} {T:zj} {g:Int->Option Int} (h:JI ss T g) (hss:ss.length<=1000):(T.filter ne).length<=1000/\(T.filter ne).flatten.length<=1000/\∀t∈T.filter ne,t≠[]:=by
 have hf:(T.filter ne).flatten=T.flatten:=by
  induction T with
  | nil=>rfl
  | cons t T ih =>
   clear h
   have key:∀T:zj,(T.filter ne).flatten=T.flatten:=by
    intro T
    induction T with
    | nil=>rfl
    | cons t T ih =>
     rw [List.filter_cons]
     cases t with
     | nil=>simpa using ih
     | cons s t=>simp [ih]
   exact key _
 have hne:∀t∈T.filter ne,t≠[]:=fun t ht e=>by
  have:=(List.mem_filter.1 ht).2
  rw [e] at this;cases this
 have hl:=h.perm.length_eq
 have h1:=QY (T.filter ne) hne
 rw [hf] at h1
 exact ⟨by omega,by rw [hf];omega,hne⟩
open Go Go.Proofs Hp
structure SOk (x:Inst) (l:List Stop):Prop where
 cust:x.cust.length<=1048576
 arc:jh x
 veh:0<=x.veh
 len:l.length<=1000
 sm:∀s∈l,small s.c
 nd:(l.map (·.c)).Nodup
def uW (x:Inst) (l:List Stop):List zj:=[xD x l,qg l]++(bif (qC x l).2 then [(qC x l).1] else [])
def vE (x:Inst) (imp:zj->zj) (l:List Stop):List zj:=[qg l,imp (xD x l),imp (qg l)]++(bif (qC x l).2 then [imp (qC x l).1] else [])
theorem Zdw {x:Inst} (hx:x.cust.length<=1048576):∀(n:Nat) (d:zj) (l:List Stop),l.length=n->RgOk x d l->RgOk x (ww x n d l).1 []/\((ww x n d l).2=true->(ww x n d l).1.flatten.Perm (d.flatten++l))
 | 0,d,l,hl,h=>by
  obtain rfl:l=[]:=List.eq_nil_of_length_eq_zero hl
  exact ⟨h,fun _=>by simp [ww]⟩
 | n+1,d,l,hl,h=>by
  have hne:l≠[]:=fun e=>by rw [e] at hl;cases hl
  obtain ⟨k,hu,hk⟩:=Zdm (x:=x) (d:=d) hne
  have hg:l.getD k default=l[k]:=by rw [List.getD_eq_getElem?_getD,List.getElem?_eq_getElem hk];rfl
  unfold ww
  rw [hu,Int.toNat_natCast,hg]
  cases hi:(yE x d l[k]).2 with
  | false =>
   refine ⟨⟨h.ok,h.may,?_⟩,fun e=>by cases e⟩
   have:=h.len
   simp only [cond_false,List.length_nil];omega
  | true =>
   simp only [cond_true]
   obtain ⟨h1,h2⟩:=Zdw hx n (yE x d l[k]).1 (l.eraseIdx k) (by rw [List.length_eraseIdx_of_lt hk];omega) (h.step hx hk hi)
   refine ⟨h1,fun e=>(h2 e).trans ?_⟩
   have hp:=Vn hi
   refine (hp.append_right _).trans ?_
   have he:(l[k] :: l.eraseIdx k).Perm l:=by
    rw [List.eraseIdx_eq_take_drop_succ]
    have:=List.perm_middle (a:=l[k]) (l₁:=l.take k) (l₂:=l.drop (k+1))
    refine this.symm.trans ?_
    rw [<-List.drop_eq_getElem_cons hk,List.take_append_drop]
   rw [List.cons_append]
   refine List.perm_middle.symm.trans ?_
   exact he.append_left _
section
variable {x:Inst} {l:List Stop} (h:SOk x l)
include h
theorem SOk.apart:DayOk (qg l)/\(qg l).flatten=l/\(qg l).length<=1000:=by
 have hf:(qg l).flatten=l:=by
  unfold qg
  clear h
  induction l with
  | nil=>rfl
  | cons s l ih=>simpa using ih
 refine ⟨⟨?_,fun t ht=>?_,fun t ht a ha=>?_⟩,hf,?_⟩
 ·rw [VE];have:=h.len;omega
 ·obtain ⟨s,_,rfl⟩:=List.mem_map.1 ht;simp
 ·obtain ⟨s,hs,rfl⟩:=List.mem_map.1 ht
  simp at ha;subst ha;exact h.sm _ hs
 ·rw [VE];exact h.len
theorem SOk.join:DayOk (xD x l)/\(xD x l).flatten.Perm l/\(xD x l).length<=1000/\∀t∈xD x l,t≠[]:=by
 obtain ⟨g,hg⟩:=JI.begin l [] [] _ JI.nil (by simpa using h.nd)
 have key:∀(ps:List Pr) (st:zj × Int),(∃g,JI l st.1 g)->st.2=((st.1.filter ne).length:Int)->(∀p∈ps,p.a∈l.map (·.c)/\p.b∈l.map (·.c))->∃g,JI l (ps.foldl (qq x) st).1 g:=by
  intro ps
  induction ps with
  | nil=>intro st hg _ _;exact hg
  | cons p ps ih =>
   rintro st ⟨g,hg⟩ hn hp
   obtain ⟨h1,h2⟩:=hp p (by simp)
   obtain ⟨e1,e2,e3⟩:=Zkh (x:=x) hg hn h1 h2
   rw [List.foldl_cons]
   exact ih _ e3 e2 fun q hq=>hp q (by simp [hq])
 obtain ⟨g',hg'⟩:=key (qv x (l.map (·.c))) (l.map fun s=>[s],(l.length:Int)) ⟨g,by simpa using hg⟩ (by rw [Zki];simp [qg]) fun p hp=>by
  have:=QU.1 ((Z5 x _).subset hp)
  exact ⟨this.1,this.2.1⟩
 have hjp:xD x l=((qv x (l.map (·.c))).foldl (qq x) (l.map fun s=>[s],(l.length:Int))).1.filter ne:=rfl
 obtain ⟨w1,w2,w3⟩:=Zkj (x:=x) hg' h.len
 have hfl:∀T:zj,(T.filter ne).flatten=T.flatten:=by
  intro T
  induction T with
  | nil=>rfl
  | cons t T ih =>
   rw [List.filter_cons]
   cases t with
   | nil=>simpa using ih
   | cons s t=>simp [ih]
 have hp:(xD x l).flatten.Perm l:=by rw [hjp,hfl];exact hg'.perm
 rw [<-hjp] at w1 w2 w3
 refine ⟨⟨by omega,fun t ht=>?_,fun t ht a ha=>?_⟩,hp,w1,w3⟩
 ·have:=(vz ht).length_le;omega
 ·exact h.sm a (hp.subset ((vz ht).subset ha))
theorem SOk.regret:RgOk x (qC x l).1 []/\((qC x l).2=true->(qC x l).1.flatten.Perm l):=by
 have:=Zdw h.cust l.length [] l rfl (Zdn h.veh h.len)
 simpa [qC] using this
end
def Zdx (x:Inst) (b:Int) (imp:zj->zj) (ds:List zj):Prop:=∀d∈ds,(∃n,Pure Tryz.prog 62 [.agg (zv x),.agg [L d],I b] (.tup [.agg [L (imp d)],I n]))/\DayOk (imp d)/\(imp d).flatten.length<=1048576
theorem Zkk (x:Inst) (l:List Stop) (b:Int) (imp:zj->zj) (h:SOk x l) (hI:jz x l=0->Zdx x b imp (uW x l)) :
  Pure Tryz.prog 126 [.agg (zv x),L l,I b] (.tup [.agg [L (jT x (jz x l) (vE x imp l)).1],I (jT x (jz x l) (vE x imp l)).2]):=by
 have hF:=Zhb x l h.cust (by have:=h.len;omega)
 by_cases he:jz x l=0
 case neg=>exact ZcE x (L l) b _ _ (Z7 l) h.cust hF (fun e=>absurd e he) fun e=>absurd e he
 have hI:=hI he
 have hA:=Zha l (by have:=h.len;omega)
 have hJ:=ZiS x l h.arc h.cust h.len h.sm h.nd
 have hR:=ZjW x l h.cust h.veh h.len
 obtain ⟨⟨n1,i1⟩,o1,f1⟩:=hI (xD x l) (by simp [uW])
 obtain ⟨⟨n2,i2⟩,o2,f2⟩:=hI (qg l) (by simp [uW])
 obtain ⟨a1,a2,a3⟩:=h.apart
 have h3:(qC x l).2=true->(∃n,Pure Tryz.prog 62 [.agg (zv x),.agg [L (qC x l).1],I b] (.tup [.agg [L (imp (qC x l).1)],I n]))/\DayOk (imp (qC x l).1)/\(imp (qC x l).1).flatten.length<=1048576:=fun e=>hI _ (by simp [uW,e])
 have hlen:=h.len
 have hit:=ZiX (Vh x (L l) b) [some (qg l),some (imp (xD x l)),some (imp (qg l)),bif (qC x l).2 then some (imp (qC x l).1) else none] rfl (by simp) (by
  intro k f hf
  match k with
  | 0=>cases hf;exact ⟨_,_,L (qg l),rfl,ZiU (L l) (qg l) (Z7 l) hA,fun d hd=>by cases hd;rfl⟩
  | 1=>cases hf;exact ⟨_,_,L (imp (xD x l)),rfl,ZiV x (L l) b _ _ _ (Z7 l) hJ i1,fun d hd=>by cases hd;rfl⟩
  | 2=>cases hf;exact ⟨_,_,L (imp (qg l)),rfl,ZiW x (L l) b _ _ _ (Z7 l) hA i2,fun d hd=>by cases hd;rfl⟩
  | 3 =>
   cases hf
   cases hall:(qC x l).2 with
   | true =>
    obtain ⟨⟨n3,i3⟩,-⟩:=h3 hall
    rw [hall] at hR
    exact ⟨_,_,L (imp (qC x l).1),rfl,ZcD x (L l) b _ _ true n3 (Z7 l) hR (fun _=>i3),fun d hd=>by cases hd;rfl⟩
   | false =>
    rw [hall] at hR
    exact ⟨_,_,yy,rfl,ZcD x (L l) b _ [] false 0 (Z7 l) hR (fun e=>by cases e),fun d hd=>by cases hd⟩
  | k+4=>cases hf)
 have hds:([some (qg l),some (imp (xD x l)),some (imp (qg l)),bif (qC x l).2 then some (imp (qC x l).1) else none]:List (Option zj)).filterMap id=vE x imp l:=by
  unfold vE
  cases (qC x l).2<;>rfl
 rw [hds] at hit
 refine ZcE x (L l) b (jz x l) (vE x imp l) (Z7 l) h.cust hF (fun _=>hit) fun _ d hd=>?_
 unfold vE at hd
 simp only [List.cons_append,List.nil_append,List.mem_cons] at hd
 rcases hd with rfl | rfl | rfl | hd
 ·exact ⟨a1,by rw [a2];omega⟩
 ·exact ⟨o1,f1⟩
 ·exact ⟨o2,f2⟩
 ·cases hall:(qC x l).2 with
  | true =>
   rw [hall] at hd
   simp at hd;subst hd
   exact (h3 hall).2
  | false=>rw [hall] at hd;simp at hd
open Go Go.Proofs Hp
theorem Zkl {P:Program} {r:Rd} {n:Nat} {F:Nat->PV} {S:Store} {o:Oper} {t e:TypeId} {len:Nat} {parts:Array (Nat × Operand)} {cs:List PV} {K:PV->Store->Prop} (ho:o.op=.buildSlice t len parts) (ht:P.underlying t=some (.slice e)) (h0:P.cellsOf e≠0) (hlen:len<=1048576)
  (hl:uF P e len (parts.toList.map fun x=>(x.1,ev F x.2))=some cs)
  (hK:∀C:Ctx,S C.next=.dead->∃id v,Fresh C S id v/\K (.sl id v (P.cellsOf e) 0 len) (S.set id (.cells v e cs))):PO P r n o F S K:=by
 intro G hG C w a N st next Q' hnext
 have hmap:parts.toList.map (fun x=>(x.1,ev G x.2))=parts.toList.map (fun x=>(x.1,ev F x.2)):=List.map_congr_left fun x hx=>by
  rw [hG x.2 (by simp only [ho,Op.operands,List.mem_toArray,List.mem_map];first | exact ⟨x,hx,rfl⟩ | (simp;exact ⟨x.1,by simpa using hx⟩))]
 rw [<-hmap] at hl
 obtain ⟨vs,hrun,hr,hsz⟩:=ZaZ (w:=w) ht (ev G) a.eval st.ev hl
 obtain ⟨id,ver,hfr,hK⟩:=hK C st.sim.free
 obtain ⟨k1,k2⟩:=st.sim.object' hfr e vs cs (Nat.le_of_eq hr.1) (fun i v _ hv=>hr.2.1 i v hv) hr.2.2
 refine qG (x:=.value (.slice (some ⟨w.heap.size,0,none⟩) len len)) (w':=w.alloc (.cells vs e)) (by intro c hc;rw [ho] at hc;cases hc) ?_
  (hnext _ _ _ _ _ hK (Qx C S w _ _ _ _ _ _ _ _ rfl (Nat.le_refl _) (by unfold qV;omega) (by unfold maxLen;omega) hsz.symm) k1 k2)
 unfold execOp
 simp only [ho]
 have e1:(parts.map fun x=>(x.1,a.eval x.2))=(parts.toList.map fun x=>(x.1,a.eval x.2)).toArray:=by
  apply Array.toList_inj.1;simp
 simp only [e1,hrun,Sem.run_bind,Sem.run_pure,Result.andThen_ok]
theorem Zkm {P:Program} {r:Rd} {n nx:Nat} {F:Nat->PV} {S:Store} {obs:List Ob} {o:Oper} {t e:TypeId} {len:Nat} {parts:Array (Nat × Operand)} {cs:List PV} {K:PV->Store->Prop} (ho:o.op=.buildSlice t len parts) (ht:P.underlying t=some (.slice e)) (h0:P.cellsOf e≠0) (hlen:len<=1048576)
  (hl:uF P e len (parts.toList.map fun x=>(x.1,ev F x.2))=some cs) (hK:∀v,K (.sl (nx+obs.length) v (P.cellsOf e) 0 len) (ext S nx (obs++[.cells v e cs]))):PO P r n o F (ext S nx obs) K :=
 Zkl ho ht h0 hlen hl (vU (X:=fun id v=>K (.sl id v (P.cellsOf e) 0 len) ((ext S nx obs).set id (.cells v e cs))) _ vX fun v=>by rw [jl];exact hK v)
open Go Go.Proofs
theorem Zkn {P:Program} {r:Rd} {n nx N:Nat} {Q:Exit->(Nat->PV)->Store->Prop} {F:Nat->PV} {S:Store} {obs:List Ob} {A:Prop} {R:Nat->KT->CT->HT->Prop} {id:Nat} {ops:Array Oper} {o:Oper} {os:List Oper} {t e:TypeId} {len:Nat} {parts:Array (Nat × Operand)}
  (D:List (Nat × Nat)) (cs:List PV) (ht:P.underlying t=some (.slice e)) (a:A) (h:∀v,R v (fun F' S' obs'=>Q .normal F' (ext S' nx obs')) (CQ P r n nx ops fun F' S' obs'=>Q .normal F' (ext S' nx obs')) (HQ P r n nx ops fun F' S' obs'=>Q .normal F' (ext S' nx obs')))
  (hops:ops.toList=o :: os:=by rfl) (hg:o.guard=none:=by rfl) (ho:o.op=.buildSlice t len parts:=by rfl) (h0:P.cellsOf e≠0:=by simp) (hlen:len<=1048576:=by decide)
  (hl:uF P e len (parts.toList.map fun x=>(x.1,ev F x.2))=some cs:=by simp [uF,uE]) (hN:xx N ops=true:=by rfl) (hD:wW ops D=true:=by rfl)
  (hR:A->∀v,XQ P nx D os (zT F o.dst (.sl (nx+obs.length) v (P.cellsOf e) 0 len)) S (obs++[.cells v e cs]) (R v):=by intro a v K Gc Gh X hX0 hX h;simp -implicitDefEqProofs [hX0,hX,a];exact h):PW P r n N (.region id ops false) Q F (ext S nx obs):=by
 refine WC hN ?_
 rw [hops]
 unfold XS
 have:gd ops F o=some true:=by unfold gd;rw [hg]
 rw [this]
 exact Zkm ho ht h0 hlen hl fun v=>⟨_,_,rfl,YG (by rw [hops];exact List.suffix_cons _ _) hD (hR a v) (h v)⟩
def yn (x:Inst) (t:zG):Nat->Int
 | 0=>0
 | i+1=>yn x t i+arc x ((t.getD i default).c+1) ((t.getD (i+1) default).c+1)
def yo (x:Inst) (t:zG):Nat->Int
 | 0=>0
 | i+1=>yo x t i+arc x ((t.getD (i+1) default).c+1) ((t.getD i default).c+1)
theorem YY {x:Inst} (h:jh x) (t:zG):∀i:Nat,0<=yn x t i/\yn x t i<=2147483648*(i:Int)
 | 0=>by simp [yn]
 | i+1=>by
  have h1:=YY h t i
  have h2:=h ((t.getD i default).c+1) ((t.getD (i+1) default).c+1)
  unfold yn;omega
theorem YZ {x:Inst} (h:jh x) (t:zG):∀i:Nat,0<=yo x t i/\yo x t i<=2147483648*(i:Int)
 | 0=>by simp [yo]
 | i+1=>by
  have h1:=YZ h t i
  have h2:=h ((t.getD (i+1) default).c+1) ((t.getD i default).c+1)
  unfold yo;omega
structure Sm where
 f:List Int
 b:List Int
 l:List Int
 n:Int
instance:Enc Sm:=⟨fun s=>[L s.f,L s.b,L s.l,I s.n],4,fun _=>rfl,fun _=>rfl⟩
@[simp] theorem ZqP (s:Sm):Enc.enc s=[L s.f,L s.b,L s.l,I s.n]:=rfl
@[simp high] theorem Zdy (l:List Sm):(l.flatMap Enc.enc).length=l.length*4:=j8 l
@[simp high] theorem ZqQ (l:List Sm):(l.flatMap Enc.enc).take (l.length*4)=l.flatMap Enc.enc:=uM l
def jt (x:Inst) (t:zG):Sm:=⟨(List.range t.length).map (yn x t),(List.range t.length).map (yo x t),(List.range (t.length+1)).map fun i=>zO (t.take i),yc x (t.map (·.c))⟩
abbrev wP (x:Inst) (d:zj):List PV:=[I x.days,I x.veh,I x.cap,I x.len,L x.cust,L x.dist,L d,L (d.map (jt x))]
structure MvDay (d:zj):Prop where
 n:d.length<=1000
 t:∀t∈d,t.length<=1000
 s:∀t∈d,∀s∈t,small s.c/\0<=s.q/\s.q<=2147483648
theorem Zko {t:zG} {i:Nat} {s:Stop} (h:t.take (i+1)=t.take i++[s]):zO (t.take (i+1))=zO (t.take i)+s.q:=by rw [h,QK]
theorem VF {α:Type} (f:Nat->α) (k:Nat):(List.range (k+1)).map f=(List.range k).map f++[f k]:=by rw [List.range_succ,List.map_append];rfl
theorem Zkp (id v:Nat) (cs:List PV) (l:List Sm):(l.flatMap Enc.enc).map (yU id v cs)=(l.flatMap Enc.enc:List PV):=by
 induction l with
 | nil=>rfl
 | cons s l ih=>rw [List.flatMap_cons,List.map_append,ih];rfl
theorem Zkq (x:Inst) (d:zj) (hx:jh x) (hd':MvDay d):Pure Tryz.prog 144 [.agg (zv x),.agg [L d]] (.ip (wP x d)):=by
 have hdn:=hd'.n
 refine zz Tryz.func144 Tryz.ntmps144 Tryz.results144 fun S nx hd=>?_
 refine za (zb ?_)
 intro v0 v1
 refine za (zb ?_)
 intro v2
 refine y8 2 7 241 4 rfl rfl fun v3=>?_
 repeat apply za
 refine zb ?_
 refine zi (zB (fun s':Nat × Nat=>s'.1<=d.length) (fun (k,v3)=>[(2,.ptr nx v0 0),(5,.ptr (nx+2) v2 0),(20,L d),(21,I d.length),(22,I k)]) (fun (k,v3)=>[.cells v0 25 (zv x),.cells v1 58 [L d],.cells v2 239 [I x.days,I x.veh,I x.cap,I x.len,L x.cust,L x.dist,L d,.sl (nx+3) v3 4 0 k],.cells v3 241 (((d.map (jt x)).take k).flatMap Enc.enc)]) (fun s'=>d.length-s'.1) (0,v3) [] (by simp) (by simp) (by simp) ?_)
 rintro ⟨k,v3⟩ hk
 simp only at hk ⊢
 refine za (zb ?_)
 refine za (zr rfl (fun hc=>?_) (fun hc=>?_))
 ·simp at hc
  obtain ⟨t,tl,a1,a2,a3,e0⟩:=zC rfl d k hc
  have hk1:1<=d.length-k:=by omega
  have htm:=List.mem_of_getElem? a1
  have htl:=hd'.t t htm
  have hts:=hd'.s t htm
  have hlw:=QN x t (by omega) (fun s hs=>(hts s hs).1)
  have hwz:=Q4 hx (t.map (·.c))
  rw [List.length_map] at hwz
  rw [show W (yc x (t.map (·.c)))=yc x (t.map (·.c)) from wr _ (by omega) (by omega)] at hlw
  refine zh (za (zi (za (ze [] (zE e0 hc hk1) ?_))))
  intro v4
  refine za (Zkn [] [I 0] Tryz.underlying45 trivial ?_)
  intro v5
  refine zA hlw ?_
  intro v6
  refine za (zb ?_)
  refine y8 6 0 3 1 rfl rfl fun v7=>?_
  refine y8 6 1 3 1 rfl rfl fun v8=>?_
  repeat apply za
  refine zb ?_
  generalize hpc:(((d.map (jt x)).take k).flatMap Enc.enc:List PV)=pc at *
  generalize hwl:yc x (t.map (·.c))=wl at *
  refine zi (zB (fun s':Nat × Nat × Nat × Nat=>s'.1<=t.length) (fun (i,v5,v7,v8)=>[(2,.ptr nx v0 0),(5,.ptr (nx+2) v2 0),(7,.ptr (nx+4) v4 0),(8,.ptr (nx+6) v6 0),(9,I (yn x t (i-1))),(10,I (yo x t (i-1))),(20,L d),(21,I d.length),(22,I k),(32,L t),(33,I t.length),(34,I i)])
   (fun (i,v5,v7,v8)=>[.cells v0 25 (zv x),.cells v1 58 [L d],.cells v2 239 [I x.days,I x.veh,I x.cap,I x.len,L x.cust,L x.dist,L d,.sl (nx+3) v3 4 0 k],.cells v3 241 pc,.cells v4 72 [L t],.cells v5 3 (((List.range (i+1)).map fun i=>zO (t.take i)).flatMap Enc.enc),
    .cells v6 241 [.sl (nx+7) v7 1 0 i,.sl (nx+8) v8 1 0 i,.sl (nx+5) v5 1 0 (i+1),I wl],.cells v7 3 (((List.range i).map (yn x t)).flatMap Enc.enc),.cells v8 3 (((List.range i).map (yo x t)).flatMap Enc.enc)]) (fun s'=>t.length-s'.1) (0,v5,v7,v8) [] (by simp) (by simp [yn,yo]) (by simp [zO]) ?_)
  rintro ⟨i,v5,v7,v8⟩ hi
  simp only at hi ⊢
  refine za (zb ?_)
  refine za (zr rfl (fun hci=>?_) (fun hci=>?_))
  ·simp at hci
   obtain ⟨s,ts,s1,s2,s3,-,s0⟩:=el 2 rfl t i hci
   have hi2:2<=t.length*2-i*2:=by omega
   obtain ⟨hsm,hq0,hq1⟩:=hts s (List.mem_of_getElem? s1)
   have hgs:t.getD i default=s:=by rw [List.getD_eq_getElem?_getD,s1];rfl
   have wi:=zt i (by omega)
   have f1:=VF (yn x t) i
   have f2:=VF (yo x t) i
   have f3:=VF (fun i=>zO (t.take i)) (i+1)
   have hlz:=Zko s3
   have hlb:=Vk (t:=t.take i) (fun a ha=>(hts a (List.mem_of_mem_take ha)).2)
   have hlt:(t.take i).length<=1000:=by rw [List.length_take];omega
   have wl1:IntKind.i64.wrap (zO (t.take i)+s.q)=zO (t.take (i+1)):=by rw [hlz];exact wr _ (by omega) (by omega)
   have g1:(((List.range i).map (yn x t)).flatMap Enc.enc:List PV).length=i:=by rw [qY];simp
   have g2:(((List.range i).map (yo x t)).flatMap Enc.enc:List PV).length=i:=by rw [qY];simp
   have g3:(((List.range (i+1)).map fun i=>zO (t.take i)).flatMap Enc.enc:List PV).length=i+1:=by rw [qY];simp
   obtain ⟨lz,tlz,z1,-,-,z0⟩:=zC rfl ((List.range (i+1)).map fun i=>zO (t.take i)) i (by simp)
   have hlzz:lz=zO (t.take i):=by simpa using z1.symm
   have c1:(((List.range (i+1)).map (yn x t)).flatMap Enc.enc:List PV)=((List.range i).map (yn x t)).flatMap Enc.enc++[I (yn x t i)]:=by rw [f1,List.flatMap_append];rfl
   have c2:(((List.range (i+1)).map (yo x t)).flatMap Enc.enc:List PV)=((List.range i).map (yo x t)).flatMap Enc.enc++[I (yo x t i)]:=by rw [f2,List.flatMap_append];rfl
   have c3:(((List.range (i+1+1)).map fun i=>zO (t.take i)).flatMap Enc.enc:List PV)=((List.range (i+1)).map fun i=>zO (t.take i)).flatMap Enc.enc++[I (zO (t.take (i+1)))]:=by rw [f3,List.flatMap_append];rfl
   rw [hlzz] at z0
   clear f1 f2 f3 z1 hlzz hlz
   generalize (((List.range i).map (yn x t)).flatMap Enc.enc:List PV)=fc at *
   generalize (((List.range i).map (yo x t)).flatMap Enc.enc:List PV)=bc at *
   generalize (((List.range (i+1)).map fun i=>zO (t.take i)).flatMap Enc.enc:List PV)=lc at *
   have t1:fc.take i=fc:=List.take_of_length_le (by omega)
   have t2:bc.take i=bc:=List.take_of_length_le (by omega)
   have t3:lc.take (i+1)=lc:=List.take_of_length_le (by omega)
   refine zh (za (zi (za (ze [] (zE s0 hci hi2) ?_))))
   intro v9
   apply za
   refine yk (nx:=nx) (fun _:Unit=>True) (fun _=>[(2,.ptr nx v0 0),(5,.ptr (nx+2) v2 0),(7,.ptr (nx+4) v4 0),(8,.ptr (nx+6) v6 0),(9,I (yn x t i)),(10,I (yo x t i)),(11,I i),(12,.ptr (nx+9) v9 0),(20,L d),(21,I d.length),(22,I k),(32,L t),(33,I t.length),(34,I i)]) (fun _=>S)
    (fun _=>[.cells v0 25 (zv x),.cells v1 58 [L d],.cells v2 239 [I x.days,I x.veh,I x.cap,I x.len,L x.cust,L x.dist,L d,.sl (nx+3) v3 4 0 k],.cells v3 241 pc,.cells v4 72 [L t],.cells v5 3 lc,
    .cells v6 241 [.sl (nx+7) v7 1 0 i,.sl (nx+8) v8 1 0 i,.sl (nx+5) v5 1 0 (i+1),I wl],.cells v7 3 fc,.cells v8 3 bc,.cells v9 35 [I s.c,I s.q]]) ?_ ?_
   ·by_cases h0:0<i
    ·obtain ⟨j,rfl⟩:∃j,i=j+1:=⟨i-1,by omega⟩
     obtain ⟨p,tp,p1,-,-,-,p0⟩:=el 2 rfl t j (by omega)
     obtain ⟨hpm,-,-⟩:=hts p (List.mem_of_getElem? p1)
     have hgp:t.getD j default=p:=by rw [List.getD_eq_getElem?_getD,p1];rfl
     have hj2:2<=t.length*2-j*2:=by omega
     have hjl:j<t.length:=by omega
     have wj:IntKind.i64.wrap (j:Int)=(j:Int):=wr _ (by omega) (by omega)
     have wp:=vu hpm
     have ws:=vu hsm
     have ar1:=wI x (p.c+1) (s.c+1)
     have ar2:=wI x (s.c+1) (p.c+1)
     have hfz:yn x t (j+1)=yn x t j+arc x (p.c+1) (s.c+1):=by conv=>lhs;unfold yn;rw [hgs,hgp]
     have hbz:yo x t (j+1)=yo x t j+arc x (s.c+1) (p.c+1):=by conv=>lhs;unfold yo;rw [hgs,hgp]
     have b1:=YY hx t (j+1)
     have b2:=YZ hx t (j+1)
     have wf:IntKind.i64.wrap (yn x t j+arc x (p.c+1) (s.c+1))=yn x t (j+1):=by rw [hfz] at b1 ⊢;exact wr _ (by omega) (by omega)
     have wb:IntKind.i64.wrap (yo x t j+arc x (s.c+1) (p.c+1))=yo x t (j+1):=by rw [hbz] at b2 ⊢;exact wr _ (by omega) (by omega)
     simp only [Nat.add_sub_cancel]
     have h0':(0:Int)<((j+1:Nat):Int):=by omega
     refine za (ze [] (zn h0 h0') ?_)
     refine zm (by simp) ?_
     refine za (zF (some [nx+4,nx+9]) (Row.pures [0,1,2,3,4,5,6,7,8,9,10,11,12] .done) mixed (zL wj p0 hjl hj2 wp ws) ?_)
     refine za (zb ?_)
     refine qZ [] ar1 wf ?_
     refine zb ?_
     refine qZ [] ar2 wb ?_
     exact zD () [] trivial (by simp) rfl (by simp)
    ·obtain rfl:i=0:=by omega
     refine za (zb ?_)
     exact zo rfl (zh (zD () [] trivial (by simp) rfl (by simp)))
   ·rintro ⟨⟩ -
    apply za
    refine yk (nx:=nx) (fun _:Unit=>True) (fun _=>[(2,.ptr nx v0 0),(5,.ptr (nx+2) v2 0),(7,.ptr (nx+4) v4 0),(8,.ptr (nx+6) v6 0),(9,I (yn x t i)),(10,I (yo x t i)),(11,I i),(12,.ptr (nx+9) v9 0),(20,L d),(21,I d.length),(22,I k),(32,L t),(33,I t.length),(34,I i)]) (fun _=>S)
     (fun _=>[.cells v0 25 (zv x),.cells v1 58 [L d],.cells v2 239 [I x.days,I x.veh,I x.cap,I x.len,L x.cust,L x.dist,L d,.sl (nx+3) v3 4 0 k],.cells v3 241 pc,.cells v4 72 [L t],.cells v5 3 lc,
     .cells v6 241 [.sl (nx+7) (v7+1) 1 0 (i+1),.sl (nx+8) (v8+1) 1 0 (i+1),.sl (nx+5) v5 1 0 (i+1),I wl],.cells (v7+1) 3 (fc++[I (yn x t i)]),.cells (v8+1) 3 (bc++[I (yo x t i)]),.cells v9 35 [I s.c,I s.q]]) ?_ ?_
    ·repeat apply za
     refine zF (some []) (Row.pures [0,2,3,5,7,8] (.alt 1 (.alt 4 (.alt 6 (Row.pures [10] (.alt 9 (.alt 11 (Row.pures [12] (.alt 13 (.done) .stop)) .stop) .stop)) .stop) (.alt 6 (.alt 4 (Row.pures [10] (.alt 9 (.alt 11 (Row.pures [12] (.alt 13 (.done) .stop)) .stop) .stop)) .stop) .stop)) (.alt 6 (.alt 1 (.alt 4 (Row.pures [10] (.alt 9 (.alt 11 (Row.pures [12] (.alt 13 (.done) .stop)) .stop) .stop)) .stop) .stop) .stop))) mixed (zP g1 g2 t1 t2) ?_
     repeat' (first | refine And.intro (by omega) ?_ | apply And.intro)
     all_goals exact zD () [] trivial (by simp) rfl (by simp)
    ·rintro ⟨⟩ -
     have z1:(i:Int)<(i:Int)+1:=by omega
     have z2:i<i+1:=by omega
     have z3:1<=i+1-i:=by omega
     refine zF (some [nx+9]) (Row.pures [0,2,4,7,8] (.alt 1 (.alt 3 (Row.pures [5] (.alt 6 (Row.pures [9,10] (.alt 11 (Row.pures [12] (.alt 13 (.done) .stop)) .stop)) .stop)) .stop) (.alt 3 (Row.pures [5] (.alt 1 (.alt 6 (Row.pures [9,10] (.alt 11 (Row.pures [12] (.alt 13 (.done) .stop)) .stop)) .stop) (.alt 6 (Row.pures [9,10] (.alt 1 (.alt 11 (Row.pures [12] (.alt 13 (.done) .stop)) .stop) .stop)) .stop))) .stop))) mixed (zL z0 z1 z2 z3 wl1 (zn g3 t3)) ?_
     repeat' (first | refine And.intro (by omega) ?_ | apply And.intro)
     all_goals
      refine ze [] wi ?_
      exact zq (i+1,v5+1,v7+1,v8+1) [_] hci (by simp;omega) (by simp [wi]) rfl (by simp [c1,c2,c3];rfl)
  ·simp at hci
   obtain rfl:i=t.length:=by omega
   refine zu ?_
   clear hi hci
   have hsm:jt x t=⟨(List.range t.length).map (yn x t),(List.range t.length).map (yo x t),(List.range (t.length+1)).map fun i=>zO (t.take i),wl⟩:=by unfold jt;rw [hwl]
   have g1:(((List.range t.length).map (yn x t)).flatMap Enc.enc:List PV).length=t.length:=by rw [qY];simp
   have g2:(((List.range t.length).map (yo x t)).flatMap Enc.enc:List PV).length=t.length:=by rw [qY];simp
   have g3:(((List.range (t.length+1)).map fun i=>zO (t.take i)).flatMap Enc.enc:List PV).length=t.length+1:=by rw [qY];simp
   have hfz:∀id v cs,pc.map (yU id v cs)=pc:=fun id v cs=>by rw [<-hpc];exact Zkp id v cs _
   have hpl:pc.length=k*4:=by rw [<-hpc,Zdy];simp;omega
   have hpt:pc.take (k*4)=pc:=List.take_of_length_le (by omega)
   have hnew:(((d.map (jt x)).take (k+1)).flatMap Enc.enc:List PV)=pc++[L ((List.range t.length).map (yn x t)),L ((List.range t.length).map (yo x t)),L ((List.range (t.length+1)).map fun i=>zO (t.take i)),I wl]:=by
    rw [<-hpc,<-List.map_take,a3,List.map_append,List.flatMap_append,<-List.map_take,List.map_cons,hsm];rfl
   have l1:((List.range t.length).map (yn x t)).length=t.length:=by simp
   have l2:((List.range t.length).map (yo x t)).length=t.length:=by simp
   have l3:((List.range (t.length+1)).map fun i=>zO (t.take i)).length=t.length+1:=by simp
   generalize (List.range t.length).map (yn x t)=fl at *
   generalize (List.range t.length).map (yo x t)=bl at *
   generalize ((List.range (t.length+1)).map fun i=>zO (t.take i))=ll at *
   clear g1 g2 g3
   refine zX 8 rfl ?_
   simp only [List.map_cons,List.map_nil,List.set_cons_succ,List.set_cons_zero,jI,hfz]
   refine zX 7 rfl ?_
   simp only [List.map_cons,List.map_nil,List.set_cons_succ,List.set_cons_zero,jI,hfz]
   refine zX 5 rfl ?_
   simp only [List.map_cons,List.map_nil,List.set_cons_succ,List.set_cons_zero,jI,hfz]
   refine zF (some [nx+6]) (Row.pures [0,1,2,3,5,6] (.alt 4 (.alt 7 (Row.pures [8,9] (.alt 10 (.done) .stop)) .stop) .stop)) mixed (yD l1 l2 l3 hpl hpt) ?_
   refine ⟨by omega,?_⟩
   refine zb ?_
   exact zq (k+1,v3+1) [_,_,_,_,_] hc (by simp;omega) (by simp [zt k (by omega)]) rfl (by simp [hnew,l1,l2,l3];exact ⟨rfl,rfl,rfl,rfl,rfl⟩)
 ·simp at hc
  obtain rfl:k=d.length:=by omega
  rw [List.take_of_length_le (by simp)]
  refine zu ?_
  have hml:((d.map (jt x)).flatMap Enc.enc:List PV).length=d.length*4:=by rw [Zdy];simp
  refine zX 3 rfl ?_
  refine za (ze [] hml ?_)
  refine jR 2 rfl ?_
  exact zg (zk hd (by simp;rfl) (by simp [zp,hml]))
open Go Go.Proofs
def ju (x:Inst):Int->List Int->Int
 | _,[]=>0
 | a,c :: l=>arc x a (c+1)+ju x (c+1) l
theorem VG (x:Inst):∀(l:List Int) (a:Int) (m:List Int),ju x a (l++m)=ju x a l+ju x (yN a l) m
 | [],a,m=>by simp [ju,yN]
 | c :: l,a,m=>by
  simp only [List.cons_append,ju,yN]
  rw [VG x l (c+1) m];omega
theorem VH:∀(l:List Int) (a:Int) (m:List Int),yN a (l++m)=yN (yN a l) m
 | [],a,m=>rfl
 | c :: l,a,m=>by simp only [List.cons_append,yN];exact VH l (c+1) m
theorem Zdz (x:Inst):∀(l:List Int) (a:Int),yQ x a l=ju x a l+arc x (yN a l) 0
 | [],a=>by simp [yQ,ju,yN]
 | c :: l,a=>by
  simp only [yQ,ju,yN]
  rw [Zdz x l (c+1)];omega
def xH (t:zG) (f n:Nat):zG:=(t.drop f).take n
theorem Q9 {t:zG} {f n:Nat} {s:Stop} (h:t[f+n]?=some s):xH t f (n+1)=xH t f n++[s]:=by
 have h':(t.drop f)[n]?=some s:=by rw [List.getElem?_drop];exact h
 obtain ⟨h1,h2⟩:=List.getElem?_eq_some_iff.1 h'
 unfold xH
 rw [List.take_succ_eq_append_getElem h1,h2]
theorem getD_some {t:zG} {i:Nat} {s:Stop} (h:t[i]?=some s):t.getD i default=s:=by rw [List.getD_eq_getElem?_getD,h];rfl
theorem ZdA (x:Inst) (t:zG) (f:Nat) (a:Int):∀n,f+n<t.length->ju x a ((xH t f (n+1)).map (·.c))=arc x a ((t.getD f default).c+1)+(yn x t (f+n)-yn x t f)/\yN a ((xH t f (n+1)).map (·.c))=(t.getD (f+n) default).c+1
 | 0,h=>by
  have h0:t[f+0]?=some t[f]:=List.getElem?_eq_getElem (by omega)
  rw [Q9 h0]
  have:xH t f 0=[]:=by simp [xH]
  rw [this,getD_some h0]
  simp only [Nat.add_zero] at *
  rw [getD_some h0]
  simp [ju,yN]
 | n+1,h=>by
  obtain ⟨i1,i2⟩:=ZdA x t f a n (by omega)
  have h0:t[f+(n+1)]?=some t[f+(n+1)]:=List.getElem?_eq_getElem (by omega)
  rw [Q9 h0,List.map_append,VG,VH,i1,i2,getD_some h0]
  simp only [List.map_cons,List.map_nil,ju,yN]
  have e:yn x t (f+(n+1))=yn x t (f+n)+arc x ((t.getD (f+n) default).c+1) ((t.getD (f+(n+1)) default).c+1):=rfl
  rw [e,getD_some h0]
  exact ⟨by omega,trivial⟩
theorem ZdB (x:Inst) (t:zG) (f:Nat):∀(n:Nat) (a:Int),f+n<t.length->ju x a ((xH t f (n+1)).reverse.map (·.c))=arc x a ((t.getD (f+n) default).c+1)+(yo x t (f+n)-yo x t f)/\yN a ((xH t f (n+1)).reverse.map (·.c))=(t.getD f default).c+1
 | 0,a,h=>by
  have h0:t[f+0]?=some t[f]:=List.getElem?_eq_getElem (by omega)
  rw [Q9 h0]
  have:xH t f 0=[]:=by simp [xH]
  rw [this,getD_some h0]
  simp only [Nat.add_zero] at *
  rw [getD_some h0]
  simp [ju,yN]
 | n+1,a,h=>by
  have h0:t[f+(n+1)]?=some t[f+(n+1)]:=List.getElem?_eq_getElem (by omega)
  obtain ⟨i1,i2⟩:=ZdB x t f n ((t.getD (f+(n+1)) default).c+1) (by omega)
  rw [Q9 h0,List.reverse_append]
  simp only [List.reverse_cons,List.reverse_nil,List.nil_append,List.cons_append,List.map_cons,ju,yN]
  rw [getD_some h0] at i1 i2 ⊢
  rw [i1,i2]
  have e:yo x t (f+(n+1))=yo x t (f+n)+arc x ((t.getD (f+(n+1)) default).c+1) ((t.getD (f+n) default).c+1):=rfl
  rw [e,getD_some h0]
  exact ⟨by omega,rfl⟩
theorem ZdC (t:zG) (f:Nat):∀n,f+n<=t.length->zO (xH t f n)=zO (t.take (f+n))-zO (t.take f)
 | 0,_=>by simp [xH,zO]
 | n+1,h=>by
  have h0:t[f+n]?=some t[f+n]:=List.getElem?_eq_getElem (by omega)
  have e:t.take (f+n+1)=t.take (f+n)++[t[f+n]]:=List.take_succ_eq_append_getElem (by omega)
  rw [Q9 h0,QK,ZdC t f n (by omega),<-Nat.add_assoc,e,QK];omega
def qM (x:Inst) (d:zj) (st:Int × Int) (p:Pc):Int × Int :=
 if p.f<p.o then
  (bif p.b then (((d.getD p.t []).getD p.f default).c+1,st.2+(arc x st.1 (((d.getD p.t []).getD (p.o-1) default).c+1)+yo x (d.getD p.t []) (p.o-1)-yo x (d.getD p.t []) p.f))
  else (((d.getD p.t []).getD (p.o-1) default).c+1,st.2+(arc x st.1 (((d.getD p.t []).getD p.f default).c+1)+yn x (d.getD p.t []) (p.o-1)-yn x (d.getD p.t []) p.f)))
 else st
def xk (x:Inst) (d:zj) (r:Rw5):Int:=(r.l.foldl (qM x d) (0,0)).2+arc x (r.l.foldl (qM x d) (0,0)).1 0
def xI (d:zj) (st:Int) (p:Pc):Int:=if p.f<p.o then st+(zO ((d.getD p.t []).take p.o)-zO ((d.getD p.t []).take p.f)) else st
def Zs (d:zj) (r:Rw5):Int:=r.l.foldl (xI d) 0
theorem Zkr {x:Inst} {d:zj} {p:Pc} (h:YW d p) (g:List Stop):qM x d (yN 0 (g.map (·.c)),ju x 0 (g.map (·.c))) p=(yN 0 ((g++yv d p).map (·.c)),ju x 0 ((g++yv d p).map (·.c))):=by
 unfold qM yv
 by_cases hfo:p.f<p.o
 ·obtain ⟨ht,ho⟩:=h hfo
  unfold tlen at ho
  rw [if_pos hfo,if_pos hfo]
  generalize d.getD p.t []=t at *
  obtain ⟨n,hn⟩:∃n,p.o=p.f+n+1:=⟨p.o-p.f-1,by omega⟩
  have e1:p.o-1=p.f+n:=by omega
  have e2:p.o-p.f=n+1:=by omega
  rw [e1,e2,List.map_append,VG,VH]
  cases p.b with
  | true =>
   simp only [cond_true]
   obtain ⟨i1,i2⟩:=ZdB x t p.f n (yN 0 (g.map (·.c))) (by omega)
   unfold xH at i1 i2
   rw [i1,i2]
   congr 1;omega
  | false =>
   simp only [cond_false]
   obtain ⟨i1,i2⟩:=ZdA x t p.f (yN 0 (g.map (·.c))) n (by omega)
   unfold xH at i1 i2
   rw [i1,i2]
   congr 1;omega
 ·rw [if_neg hfo,if_neg hfo,List.append_nil]
theorem ZdD {x:Inst} {d:zj}:∀(l:List Pc) (g:List Stop),(∀p∈l,YW d p)->l.foldl (qM x d) (yN 0 (g.map (·.c)),ju x 0 (g.map (·.c)))=(yN 0 ((g++l.flatMap (yv d)).map (·.c)),ju x 0 ((g++l.flatMap (yv d)).map (·.c)))
 | [],g,_=>by simp
 | p :: l,g,h=>by
  rw [List.foldl_cons,Zkr (h p (by simp)),ZdD l _ fun q hq=>h q (by simp [hq]),List.flatMap_cons,List.append_assoc]
theorem VI {x:Inst} {d:zj} {r:Rw5} (h:wx d r) (h0:arc x 0 0=0):xk x d r=yc x ((yu d r).map (·.c)):=by
 have:=ZdD (x:=x) r.l [] h
 simp only [List.map_nil,yN,ju,List.nil_append] at this
 unfold xk
 rw [this]
 simp only
 unfold yu yc
 split
 ·rename_i e
  rw [e];simp [ju,yN,h0]
 ·rw [Zdz]
theorem Zks {d:zj} {p:Pc} (h:YW d p) (g:List Stop):xI d (zO g) p=zO (g++yv d p):=by
 unfold xI yv
 by_cases hfo:p.f<p.o
 ·obtain ⟨ht,ho⟩:=h hfo
  unfold tlen at ho
  rw [if_pos hfo,if_pos hfo,Zjd]
  generalize d.getD p.t []=t at *
  have:=ZdC t p.f (p.o-p.f) (by omega)
  rw [show p.f+(p.o-p.f)=p.o by omega] at this
  have hr:∀l:zG,zO l.reverse=zO l:=fun l=>by unfold zO;exact Zjc ((List.reverse_perm l).map _)
  unfold xH at this
  cases p.b with
  | true=>simp only [cond_true];rw [hr,this]
  | false=>simp only [cond_false];rw [this]
 ·rw [if_neg hfo,if_neg hfo,List.append_nil]
theorem Zkt {d:zj} {r:Rw5} (h:wx d r):Zs d r=zO (yu d r):=by
 have key:∀(l:List Pc) (g:List Stop),(∀p∈l,YW d p)->l.foldl (xI d) (zO g)=zO (g++l.flatMap (yv d)):=by
  intro l
  induction l with
  | nil=>intro g _;simp
  | cons p l ih =>
   intro g h
   rw [List.foldl_cons,Zks (h p (by simp)),ih _ fun q hq=>h q (by simp [hq]),List.flatMap_cons,List.append_assoc]
 have:=key r.l [] h
 simpa [Zs,yu,zO] using this
open Go Go.Proofs
abbrev Y0 (x:Inst) (d:zj) (sms:List Sm):List PV:=[I x.days,I x.veh,I x.cap,I x.len,L x.cust,L x.dist,L d,L sms]
theorem Y1 {x:Inst} (h:jh x) (a b:Int):0<=arc x a b/\arc x a b<=2147483648:=h a b
theorem Xv {x:Inst} {d:zj} {sms:List Sm} (hs:sms=d.map (jt x)) {k:Nat} (h:k<d.length):∃(t:zG) (td tf:List PV),d[k]?=some t/\d.getD k []=t/\(d.flatMap Enc.enc:List PV).drop k=L t :: td /\
  (sms.flatMap Enc.enc:List PV).drop (k*4)=[L (jt x t).f,L (jt x t).b,L (jt x t).l,I (jt x t).n]++tf:=by
 obtain ⟨t,td,a1,-,-,e0⟩:=zC rfl d k h
 rw [hs]
 obtain ⟨s,ts,b1,-,-,-,f0⟩:=el 4 rfl (d.map (jt x)) k (by simpa using h)
 have:s=jt x t:=by rw [List.getElem?_map,a1] at b1;exact (Option.some.inj b1).symm
 subst this
 exact ⟨t,td,ts,a1,by rw [List.getD_eq_getElem?_getD,a1];rfl,e0,f0⟩
theorem Y2 {α:Type} [Enc α] (n:Nat) (hn:Enc.sz α=1) (f:Nat->α) {i:Nat} (h:i<n):∃tl,(((List.range n).map f).flatMap Enc.enc:List PV).drop i=Enc.enc (f i)++tl:=by
 obtain ⟨s,ts,b1,-,-,f0⟩:=zC hn ((List.range n).map f) i (by simpa using h)
 have:s=f i:=by rw [List.getElem?_map,List.getElem?_range h] at b1;exact (Option.some.inj b1).symm
 subst this
 exact ⟨ts,f0⟩
theorem VJ (x:Inst) (d:zj) (r:Rw5) (hx:jh x) (hd':MvDay d) (hr:wx d r):Pure Tryz.prog 183 [.ip (wP x d),.agg (ye r)] (I (xk x d r)):=by
 obtain ⟨sms,hsms⟩:∃sms,sms=d.map (jt x):=⟨_,rfl⟩
 have hml:sms.length=d.length:=by rw [hsms];simp
 rw [show wP x d=Y0 x d sms from by rw [hsms]]
 have hdn:=hd'.n
 have hat:=fun k (h:k<5)=>Q6 r h
 have hz:xk x d r=((r.l.take 5).foldl (qM x d) (0,0)).2+arc x ((r.l.take 5).foldl (qM x d) (0,0)).1 0:=by unfold xk;rw [List.take_of_length_le (by simp [Rw5.l])]
 rw [hz]
 clear hz
 have hcl:(ye r).length=20:=rfl
 have hct:(ye r).take 20=ye r:=rfl
 generalize hrc:ye r=rc at *
 refine zz Tryz.func183 Tryz.ntmps183 Tryz.results183 fun S nx hd=>?_
 refine za (zb ?_)
 intro v0
 refine za (zb ?_)
 repeat apply za
 refine ze [] (zn hcl hct) ?_
 refine zi (zB (fun k:Nat=>k<=5/\-(8796093022208*(k:Int))<=((r.l.take k).foldl (qM x d) (0,0)).2/\((r.l.take k).foldl (qM x d) (0,0)).2<=8796093022208*k) (fun k=>[(0,.ip (Y0 x d sms)),(3,.ptr nx v0 0),(5,I ((r.l.take k).foldl (qM x d) (0,0)).1),(6,I ((r.l.take k).foldl (qM x d) (0,0)).2),(13,.agg rc),(14,I k)]) (fun _=>[.cells v0 195 rc]) (fun k=>5-k) 0 [] (by simp) (by simp) (by simp) ?_)
 rintro k ⟨hk,hb1,hb2⟩
 by_cases hk5:k<5
 ·obtain ⟨p,hp1,hp2,hp3⟩:=hat k hk5
  have hk5':(k:Int)<5:=by omega
  have hk6:4<=20-k*4:=by omega
  have hok:=hr p (List.mem_of_getElem? hp1)
  have hnx:(r.l.take (k+1)).foldl (qM x d) (0,0)=qM x d ((r.l.take k).foldl (qM x d) (0,0)) p:=by rw [hp3,List.foldl_append];rfl
  generalize (r.l.take k).foldl (qM x d) (0,0)=st at *
  obtain ⟨at_,all⟩:=st
  simp only at hb1 hb2 ⊢
  have wk:=zt k (by omega)
  refine za (ze [] hk5' ?_)
  refine za (zm rfl (zh (za (zi (za (ze [] (yD hp2 hk5 hk5' hcl hk6) ?_))))))
  intro v3
  by_cases hfo:p.f<p.o
  case neg =>
   have hpz:qM x d (at_,all) p=(at_,all):=by unfold qM;rw [if_neg hfo]
   rw [hpz] at hnx
   have hfo':p.o<=p.f:=by omega
   repeat apply za
   refine ze [] hfo' ?_
   refine zm (by simp [hfo']) ?_
   refine zu (zb ?_)
   exact zq (k+1) [_] ⟨by omega,by rw [hnx];simp only;omega,by rw [hnx];simp only;omega⟩ (by omega) (by simp [wk,hnx]) rfl (by simp;rfl)
  obtain ⟨ht,ho⟩:=hok hfo
  obtain ⟨t,td,tf,a1,hgt,e0,f0⟩:=Xv hsms ht
  unfold tlen at ho
  rw [hgt] at ho
  have htm:=List.mem_of_getElem? a1
  have htl:=hd'.t t htm
  have hts:=hd'.s t htm
  have ht1:1<=d.length-p.t:=by omega
  have ht4:4<=d.length*4-p.t*4:=by omega
  obtain ⟨n,hn⟩:∃n,p.o=n+1:=⟨p.o-1,by omega⟩
  have hfo':¬p.o<=p.f:=by omega
  have hst:qM x d (at_,all) p=bif p.b then ((t.getD p.f default).c+1,all+(arc x at_ ((t.getD n default).c+1)+yo x t n-yo x t p.f)) else ((t.getD n default).c+1,all+(arc x at_ ((t.getD p.f default).c+1)+yn x t n-yn x t p.f)):=by
   unfold qM;rw [if_pos hfo,hgt,show p.o-1=n by omega]
  rw [hst] at hnx
  clear hst
  obtain ⟨sf,tsf,s1,-,-,-,s0⟩:=el 2 rfl t p.f (by omega)
  obtain ⟨sl,tsl,l1,-,-,-,l0⟩:=el 2 rfl t n (by omega)
  have hgf:t.getD p.f default=sf:=getD_some s1
  have hgl:t.getD n default=sl:=getD_some l1
  rw [hgf,hgl] at hnx
  have q1:p.f<t.length:=by omega
  have q2:n<t.length:=by omega
  have q3:2<=t.length*2-p.f*2:=by omega
  have q4:2<=t.length*2-n*2:=by omega
  have wo:IntKind.i64.wrap ((p.o:Int)-1)=(n:Int):=by rw [wr _ (by omega) (by omega)];omega
  have wsf:=vu (hts sf (List.mem_of_getElem? s1)).1
  have wsl:=vu (hts sl (List.mem_of_getElem? l1)).1
  have bf1:=YY hx t p.f
  have bf2:=YY hx t n
  have bb1:=YZ hx t p.f
  have bb2:=YZ hx t n
  have hlen:((List.range t.length).map (yn x t)).length=t.length/\((List.range t.length).map (yo x t)).length=t.length:=by simp
  obtain ⟨z1,hz1⟩:=Y2 t.length rfl (yn x t) q1
  obtain ⟨z2,hz2⟩:=Y2 t.length rfl (yn x t) q2
  obtain ⟨z3,hz3⟩:=Y2 t.length rfl (yo x t) q1
  obtain ⟨z4,hz4⟩:=Y2 t.length rfl (yo x t) q2
  have q5:1<=t.length-p.f:=by omega
  have q6:1<=t.length-n:=by omega
  simp only [jt] at f0
  generalize hfl:(List.range t.length).map (yn x t)=fl at *
  generalize hbl:(List.range t.length).map (yo x t)=bl at *
  generalize ((List.range (t.length+1)).map fun i=>zO (t.take i))=ll at *
  generalize yc x (t.map (·.c))=wl at *
  obtain ⟨hl1,hl2⟩:=hlen
  have hfll:(fl.flatMap Enc.enc:List PV).length=t.length:=by rw [qY,hl1]
  have hbll:(bl.flatMap Enc.enc:List PV).length=t.length:=by rw [qY,hl2]
  repeat apply za
  refine ze [] hfo' ?_
  refine zo (by simp [hfo']) ?_
  refine zh (za (zF (some [nx+1]) (Row.pures [0,1,2,3,4,5,6,7,8,9,10,11,12,13,14,15,16,17,18,19,20] .done) mixed (zL e0 f0 ht ht1 ht4 hml) ?_))
  refine za (zF (some [nx+1]) (Row.pures [0,1,2,3,4,5,6] .done) mixed wo ?_)
  apply za
  cases hpb:p.b with
  | false =>
   rw [hpb] at hnx
   simp only [cond_false] at hnx
   have har:=Y1 hx at_ (sf.c+1)
   have ar:=wI x at_ (sf.c+1)
   have w1:IntKind.i64.wrap (arc x at_ (sf.c+1)+yn x t n)=arc x at_ (sf.c+1)+yn x t n:=wr _ (by omega) (by omega)
   have w2:IntKind.i64.wrap (arc x at_ (sf.c+1)+yn x t n-yn x t p.f)=arc x at_ (sf.c+1)+yn x t n-yn x t p.f:=wr _ (by omega) (by omega)
   have w3:IntKind.i64.wrap (all+(arc x at_ (sf.c+1)+yn x t n-yn x t p.f))=all+(arc x at_ (sf.c+1)+yn x t n-yn x t p.f):=wr _ (by omega) (by omega)
   refine za (ze [] hpb ?_)
   refine zo rfl (zh (za (zF (some [nx+1]) (Row.pures [0,1,2,3,4,5,6,7,8,9,10,11,12,13,14,15,16,17,18,19,20,21,22,23,24,25,26,27] .done) mixed (zL s0 q1 q3 wsf wo (zn (zL hz1 hz2 hfll hl1 q2 q5) (zP q6 w1 w2 w3))) ?_)))
   refine zN (ar) (zL s0 q1 q3 wsf wo (zn (zL hz1 hz2 hfll hl1 q2 q5) (zP q6 w1 w2 w3))) ?_
   refine ze [] (zP l0 q2 q4 wsl) ?_
   refine zb ?_
   exact zq (k+1) [_] ⟨by omega,by rw [hnx];simp only;omega,by rw [hnx];simp only;omega⟩ (by omega) (by simp [wk,hnx]) rfl (by simp;rfl)
  | true =>
   rw [hpb] at hnx
   simp only [cond_true] at hnx
   have har:=Y1 hx at_ (sl.c+1)
   have ar:=wI x at_ (sl.c+1)
   have w1:IntKind.i64.wrap (arc x at_ (sl.c+1)+yo x t n)=arc x at_ (sl.c+1)+yo x t n:=wr _ (by omega) (by omega)
   have w2:IntKind.i64.wrap (arc x at_ (sl.c+1)+yo x t n-yo x t p.f)=arc x at_ (sl.c+1)+yo x t n-yo x t p.f:=wr _ (by omega) (by omega)
   have w3:IntKind.i64.wrap (all+(arc x at_ (sl.c+1)+yo x t n-yo x t p.f))=all+(arc x at_ (sl.c+1)+yo x t n-yo x t p.f):=wr _ (by omega) (by omega)
   refine za (ze [] hpb ?_)
   refine zm rfl (zF (some [nx+1]) (Row.pures [0,1,2,3,4,5,6,7,8,9,10,11,12,13] .done) mixed (zP f0 ht ht4 hml) ?_)
   refine za (zF (some [nx+1]) (Row.pures [0,1,2,3,4,5,6,7,8,9,10,11,12,13,14,15,16,17,18,19,20,21,22,23,24,25,26,27] .done) mixed (zL l0 q2 q4 wsl wo (zn (zL hz3 hz4 hbll hl2 q1 q5) (zP q6 w1 w2 w3))) ?_)
   refine zN (ar) (zL l0 q2 q4 wsl wo (zn (zL hz3 hz4 hbll hl2 q1 q5) (zP q6 w1 w2 w3))) ?_
   refine ze [] (zP s0 q1 q3 wsf) ?_
   refine zb ?_
   exact zq (k+1) [_] ⟨by omega,by rw [hnx];simp only;omega,by rw [hnx];simp only;omega⟩ (by omega) (by simp [wk,hnx]) rfl (by simp;rfl)
 ·obtain rfl:k=5:=by omega
  generalize (r.l.take 5).foldl (qM x d) (0,0)=st at *
  obtain ⟨at_,all⟩:=st
  simp only at hb1 hb2 ⊢
  have har:=Y1 hx at_ 0
  have ar:=wI x at_ 0
  have w1:IntKind.i64.wrap (all+arc x at_ 0)=all+arc x at_ 0:=wr _ (by omega) (by omega)
  refine za (zb ?_)
  refine za (zo rfl (zu (za (zb ?_))))
  refine qZ [] ar w1 ?_
  exact zg (zk hd rfl rfl)
open Go Go.Proofs
theorem Zku (x:Inst) (d:zj) (r:Rw5) (hd':MvDay d) (hr:wx d r):Pure Tryz.prog 184 [.ip (wP x d),.agg (ye r)] (I (Zs d r)):=by
 obtain ⟨sms,hsms⟩:∃sms,sms=d.map (jt x):=⟨_,rfl⟩
 have hml:sms.length=d.length:=by rw [hsms];simp
 rw [show wP x d=Y0 x d sms from by rw [hsms]]
 have hdn:=hd'.n
 have hat:=fun k (h:k<5)=>Q6 r h
 have hz:Zs d r=(r.l.take 5).foldl (xI d) 0:=by unfold Zs;rw [List.take_of_length_le (by simp [Rw5.l])]
 rw [hz]
 clear hz
 have hcl:(ye r).length=20:=rfl
 have hct:(ye r).take 20=ye r:=rfl
 generalize hrc:ye r=rc at *
 refine zz Tryz.func184 Tryz.ntmps184 Tryz.results184 fun S nx hd=>?_
 refine za (zb ?_)
 intro v0
 refine za (zb ?_)
 repeat apply za
 refine ze [] (zn hcl hct) ?_
 refine zi (zB (fun k:Nat=>k<=5/\-(8796093022208*(k:Int))<=(r.l.take k).foldl (xI d) 0/\(r.l.take k).foldl (xI d) 0<=8796093022208*k) (fun k=>[(0,.ip (Y0 x d sms)),(3,.ptr nx v0 0),(5,I ((r.l.take k).foldl (xI d) 0)),(8,.agg rc),(9,I k)]) (fun _=>[.cells v0 195 rc]) (fun k=>5-k) 0 [] (by simp) (by simp) (by simp) ?_)
 rintro k ⟨hk,hb1,hb2⟩
 by_cases hk5:k<5
 ·obtain ⟨p,hp1,hp2,hp3⟩:=hat k hk5
  have hk5':(k:Int)<5:=by omega
  have hk6:4<=20-k*4:=by omega
  have hok:=hr p (List.mem_of_getElem? hp1)
  have hnx:(r.l.take (k+1)).foldl (xI d) 0=xI d ((r.l.take k).foldl (xI d) 0) p:=by rw [hp3,List.foldl_append];rfl
  generalize (r.l.take k).foldl (xI d) 0=all at *
  have wk:=zt k (by omega)
  refine za (ze [] hk5' ?_)
  refine za (zm rfl (zh (za (zi (za (ze [] (yD hp2 hk5 hk5' hcl hk6) ?_))))))
  intro v3
  by_cases hfo:p.f<p.o
  case neg =>
   have hpz:xI d all p=all:=by unfold xI;rw [if_neg hfo]
   rw [hpz] at hnx
   refine za (ze [] hfo ?_)
   refine zo (by simp [hfo]) ?_
   refine zh (zb ?_)
   exact zq (k+1) [_] ⟨by omega,by rw [hnx];omega,by rw [hnx];omega⟩ (by omega) (by simp [wk,hnx]) rfl (by simp;rfl)
  obtain ⟨ht,ho⟩:=hok hfo
  obtain ⟨t,td,tf,a1,hgt,e0,f0⟩:=Xv hsms ht
  unfold tlen at ho
  rw [hgt] at ho
  have htm:=List.mem_of_getElem? a1
  have htl:=hd'.t t htm
  have hts:=hd'.s t htm
  have ht4:4<=d.length*4-p.t*4:=by omega
  have hst:xI d all p=all+(zO (t.take p.o)-zO (t.take p.f)):=by unfold xI;rw [if_pos hfo,hgt]
  rw [hst] at hnx
  have b1:=Vk (t:=t.take p.o) (fun a ha=>(hts a (List.mem_of_mem_take ha)).2)
  have b2:=Vk (t:=t.take p.f) (fun a ha=>(hts a (List.mem_of_mem_take ha)).2)
  have b3:(t.take p.o).length<=1000:=by rw [List.length_take];omega
  have b4:(t.take p.f).length<=1000:=by rw [List.length_take];omega
  have w1:IntKind.i64.wrap (zO (t.take p.o)-zO (t.take p.f))=zO (t.take p.o)-zO (t.take p.f):=wr _ (by omega) (by omega)
  have w2:IntKind.i64.wrap (all+(zO (t.take p.o)-zO (t.take p.f)))=all+(zO (t.take p.o)-zO (t.take p.f)):=wr _ (by omega) (by omega)
  obtain ⟨z1,hz1⟩:=Y2 (t.length+1) rfl (fun i=>zO (t.take i)) (show p.o<t.length+1 by omega)
  obtain ⟨z2,hz2⟩:=Y2 (t.length+1) rfl (fun i=>zO (t.take i)) (show p.f<t.length+1 by omega)
  have hll:((List.range (t.length+1)).map fun i=>zO (t.take i)).length=t.length+1:=by simp
  simp only [jt] at f0
  generalize (List.range t.length).map (yn x t)=fl at *
  generalize (List.range t.length).map (yo x t)=bl at *
  generalize ((List.range (t.length+1)).map fun i=>zO (t.take i))=ll at *
  generalize yc x (t.map (·.c))=wl at *
  generalize zO (t.take p.o)=lo at *
  generalize zO (t.take p.f)=lf at *
  have hlf:(ll.flatMap Enc.enc:List PV).length=t.length+1:=by rw [qY,hll]
  have q1:p.o<t.length+1:=by omega
  have q2:p.f<t.length+1:=by omega
  have q3:1<=t.length+1-p.o:=by omega
  have q4:1<=t.length+1-p.f:=by omega
  have q5:(p.o:Int)<(t.length:Int)+1:=by omega
  have q6:(p.f:Int)<(t.length:Int)+1:=by omega
  refine za (ze [] hfo ?_)
  refine zm (by simp [hfo]) ?_
  refine zF (some [nx+1]) (Row.pures [0,1,2,3,4,5,6,7,8,9,10,11,12,13,14,15,16,17,18,19,20,21,22,23,24,25,26,27,28,29] .done) mixed (zL f0 ht ht4 hml hz1 (zn (zL hz2 hll hlf q1 q2 q3) (yD q4 q5 q6 w1 w2))) ?_
  refine zb ?_
  exact zq (k+1) [_] ⟨by omega,by rw [hnx];omega,by rw [hnx];omega⟩ (by omega) (by simp [wk,hnx]) rfl (by simp;rfl)
 ·obtain rfl:k=5:=by omega
  refine za (zb ?_)
  refine za (zo rfl (zu (za (zb ?_))))
  exact zg (zk hd rfl rfl)
def Ja (x:Inst) (d:zj) (m:Mv) (r1 r2:Rw5):Int:=xk x d r1-yc x ((d.getD m.a []).map (·.c))+(if m.a=m.b then 0 else xk x d r2-yc x ((d.getD m.b []).map (·.c)))
theorem ZdE {x:Inst} (hx:jh x) {d:zj} (hd':MvDay d) {r:Rw5} (hr:wx d r):-52776558133248<=xk x d r/\xk x d r<=52776558133248:=by
 have key:∀k:Nat,k<=5->-(8796093022208*(k:Int))<=((r.l.take k).foldl (qM x d) (0,0)).2/\((r.l.take k).foldl (qM x d) (0,0)).2<=8796093022208*k:=by
  intro k
  induction k with
  | zero=>intro _;simp
  | succ k ih =>
   intro hk
   obtain ⟨h1,h2⟩:=ih (by omega)
   obtain ⟨p,hp1,-,hp3⟩:=Q6 r (show k<5 by omega)
   have hok:=hr p (List.mem_of_getElem? hp1)
   rw [hp3,List.foldl_append,List.foldl_cons,List.foldl_nil]
   generalize (r.l.take k).foldl (qM x d) (0,0)=st at *
   unfold qM
   by_cases hfo:p.f<p.o
   ·obtain ⟨ht,ho⟩:=hok hfo
    have htm:d.getD p.t []∈d:=List.mem_of_getElem? (i:=p.t) (by rw [List.getD_eq_getElem?_getD,List.getElem?_eq_getElem ht];rfl)
    have htl:=hd'.t _ htm
    unfold tlen at ho
    generalize d.getD p.t []=t at *
    have b1:=YY hx t p.f
    have b2:=YY hx t (p.o-1)
    have b3:=YZ hx t p.f
    have b4:=YZ hx t (p.o-1)
    rw [if_pos hfo]
    cases p.b with
    | true =>
     have:=Y1 hx st.1 ((t.getD (p.o-1) default).c+1)
     simp only [cond_true];omega
    | false =>
     have:=Y1 hx st.1 ((t.getD p.f default).c+1)
     simp only [cond_false];omega
   ·rw [if_neg hfo];omega
 have h5:=key 5 (by omega)
 rw [List.take_of_length_le (by simp [Rw5.l])] at h5
 have:=Y1 hx (r.l.foldl (qM x d) (0,0)).1 0
 unfold xk
 omega
theorem Zkv (x:Inst) (d:zj) (m:Mv) (r1 r2:Rw5) (hx:jh x) (hd':MvDay d) (hr1:wx d r1) (hr2:wx d r2) (ha:m.a<d.length) (hb:m.b<d.length):Pure Tryz.prog 147 [.ip (wP x d),.agg (xV m),.agg (ye r1),.agg (ye r2)] (I (Ja x d m r1 r2)):=by
 have l1:=VJ x d r1 hx hd' hr1
 have l2:=VJ x d r2 hx hd' hr2
 have b1:=ZdE hx hd' hr1
 have b2:=ZdE hx hd' hr2
 obtain ⟨sms,hsms⟩:∃sms,sms=d.map (jt x):=⟨_,rfl⟩
 have hml:sms.length=d.length:=by rw [hsms];simp
 rw [show wP x d=Y0 x d sms from by rw [hsms]] at l1 l2 ⊢
 have hdn:=hd'.n
 obtain ⟨ta,tda,tfa,a1,hga,-,fa⟩:=Xv hsms ha
 obtain ⟨tb,tdb,tfb,c1,hgb,-,fb⟩:=Xv hsms hb
 have wa:=Q4 hx (ta.map (·.c))
 have wb:=Q4 hx (tb.map (·.c))
 rw [List.length_map] at wa wb
 have hta:=hd'.t ta (List.mem_of_getElem? a1)
 have htb:=hd'.t tb (List.mem_of_getElem? c1)
 have hdef:Ja x d m r1 r2=xk x d r1-yc x (ta.map (·.c))+(if m.a=m.b then 0 else xk x d r2-yc x (tb.map (·.c))):=by unfold Ja;rw [hga,hgb]
 rw [hdef]
 clear hdef
 simp only [jt] at fa fb
 generalize xk x d r1=k1 at *
 generalize xk x d r2=k2 at *
 generalize yc x (ta.map (·.c))=wl at *
 generalize yc x (tb.map (·.c))=wm at *
 have ha4:4<=d.length*4-m.a*4:=by omega
 have hb4:4<=d.length*4-m.b*4:=by omega
 have w1:IntKind.i64.wrap (k1-wl)=k1-wl:=wr _ (by omega) (by omega)
 have w2:IntKind.i64.wrap (k2-wm)=k2-wm:=wr _ (by omega) (by omega)
 have w3:IntKind.i64.wrap (k1-wl+(k2-wm))=k1-wl+(k2-wm):=wr _ (by omega) (by omega)
 have hc1:(ye r1).length=20:=rfl
 have ht1:(ye r1).take 20=ye r1:=rfl
 have hc2:(ye r2).length=20:=rfl
 have ht2:(ye r2).take 20=ye r2:=rfl
 generalize hrc1:ye r1=rc1 at *
 generalize hrc2:ye r2=rc2 at *
 refine zz Tryz.func147 Tryz.ntmps147 Tryz.results147 fun S nx hd=>?_
 refine za (zb ?_)
 intro v0 v1 v2
 refine za (zF (some [nx,nx+1]) (Row.pures [0,1,2,3,4,5,6,7,8,9,10,11,12,13] .done) mixed (zL hc1 ht1 fa ha ha4 (zn hml w1)) ?_)
 refine zN (l1) (zL hc1 ht1 fa ha ha4 (zn hml w1)) ?_
 by_cases hab:m.a=m.b
 ·have hab':(m.a:Int)=m.b:=by omega
  rw [if_pos hab]
  repeat apply za
  refine ze [] hab' ?_
  refine zo (by simp [hab']) ?_
  refine zh (za (zb ?_))
  exact zg (zk hd rfl (by simp [zp]))
 ·have hab':¬(m.a:Int)=m.b:=by omega
  rw [if_neg hab]
  repeat apply za
  refine ze [] hab' ?_
  refine zm (by simp [hab']) ?_
  refine zF (some [nx,nx+2]) (Row.pures [0,1,2,3,4,5,6,7,8,9,10,11,12,13,14,15] .done) mixed (zL hc2 ht2 fb hb hb4 (zE hml w2 w3)) ?_
  refine zN (l2) (zL hc2 ht2 fb hb hb4 (zE hml w2 w3)) ?_
  refine za (zb ?_)
  exact zg (zk hd rfl (by simp [zp]))
theorem ZdF (x:Inst) (d:zj) (r:Rw5) (hx:jh x) (hd':MvDay d) (hr:wx d r):Pure Tryz.prog 148 [.ip (wP x d),.agg (ye r)] (B (decide (Zs d r<=x.cap/\xk x d r<=x.len))):=by
 have l1:=VJ x d r hx hd' hr
 have l2:=Zku x d r hd' hr
 obtain ⟨sms,hsms⟩:∃sms,sms=d.map (jt x):=⟨_,rfl⟩
 rw [show wP x d=Y0 x d sms from by rw [hsms]] at l1 l2 ⊢
 generalize xk x d r=k1 at *
 generalize Zs d r=k2 at *
 have hc1:(ye r).length=20:=rfl
 have ht1:(ye r).take 20=ye r:=rfl
 generalize hrc1:ye r=rc at *
 refine zz Tryz.func148 Tryz.ntmps148 Tryz.results148 fun S nx hd=>?_
 refine za (zb ?_)
 intro v0
 by_cases h1:k2<=x.cap
 ·refine za (zF (some [nx]) (Row.pures [0,1,2,3,4,5,6,7,8,9,10,11,12,13,14,15,16,17,18,19,20] .done) mixed (zE hc1 ht1 h1) ?_)
  refine zN (l2) (zE hc1 ht1 h1) ?_
  refine zN (l1) (zE hc1 ht1 h1) ?_
  exact zg (zk hd rfl (by simp [zp,h1]))
 ·refine za (zF (some [nx]) (Row.pures [0,1,2,3,4,5,6,7,8,9,10,11,12,13,14,15,16,17,18,19,20] .done) mixed (zP hc1 ht1 h1 zx) ?_)
  refine zN (l2) (zP hc1 ht1 h1 zx) ?_
  exact zg (zk hd rfl (by simp [zp,h1]))
end Go.Proofs.YtcnbiofjmioaiaaGreat.Pv
