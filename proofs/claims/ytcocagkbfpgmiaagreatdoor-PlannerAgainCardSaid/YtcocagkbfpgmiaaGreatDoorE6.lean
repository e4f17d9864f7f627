/- Part of a proof, packed. -/
import Derived.Test.YtcocagkbfpgmiaaGreatDoorE5
open Go.Proofs.Tryz
set_option maxRecDepth 100000
set_option maxHeartbeats 3200000
namespace Go.Proofs.YtcocagkbfpgmiaaGreatDoor.Pv
open Go Go.Proofs
abbrev vn:PV:=.sc (.slice none 0 0)
def vp(o:Option (List Int)):PV:=match o with
 | none=>.tup [vn,B false]
 | some l=>.tup [L l,B true]
theorem ZsL(l:List (List UInt8))(hl:l.length<=1048576)(hw:∀w∈l,w.length<=1099511627776):Pure prog 192 [L (l.map bs),.fn (.func 109) [] []] (vp (jB l)):=by
 obtain⟨zs,hzs⟩:∃zs:List Int,zs=l.map yO:=⟨_,rfl⟩;have hzl:zs.length=l.length:=by rw[hzs,List.length_map]
 have hwl:(l.map bs).length=l.length:=DI
 have hat:∀(k:Nat) (w:List UInt8),l[k]?=some w->zs[k]?=some (yO w)/\(l.map bs)[k]?=some (bs w):=λk n e=>⟨by rw[hzs,Ai,e];rfl,by rw[Ai,e];rfl⟩
 have hres:(∀w∈l,(jV w).isSome=true)->jB l=some zs:=λh=>by rw[WQ h,hzs]
 generalize l.map bs=ws at *;refine zt func192 ntmps192 results192 λS nx hd=>?_
 refine DQ ?_;refine DQ ?_;refine⟨by omega,λv0=>?_⟩
 repeat apply za
 refine zb ?_;refine zj (zD (λs:Nat × Nat × List PV=>(s.1<=zs.length/\∀w∈l.take s.1,(jV w).isSome=true)/\s.2.2.take s.1=(zs.take s.1).flatMap Enc.enc/\s.1<=s.2.2.length/\(0<s.1->s.2.2.length=s.1)/\(zs.length=0->s.2.2=[])) (λ(k,w,cs)=>[(1,.fn (.func 109) [] []),(6,.sl nx w 1 0 k),(14,L ws),(15,I ws.length),(16,I k)]) (λ(k,w,cs)=>[.cells w 3 cs]) (λs=>zs.length-s.1) (0,v0,_) [] ⟨⟨by simp,by simp⟩,by simp,by simp,λh=>absurd h (CA _),?_⟩ DI rfl ?_)
 ·intro h;have:ws.length=0:=DH
  simp[this,yS]
 rintro⟨k,w,cs⟩ ⟨⟨hk,hso⟩,hcs,hkl,hk1,hk0⟩;simp only at hk hso hcs hkl hk1 hk0 ⊢;refine DQ ?_;refine za (zv rfl (λhc=>?_) (λhc=>?_))
 ·simp at hc;obtain⟨u,hu1⟩:∃u,l[k]?=some u:=⟨_,Ae DH⟩;obtain⟨g1,g2⟩:=hat k u hu1;obtain⟨t,tl,b1,b2,b3,f0⟩:=zJ rfl ws k hc;obtain rfl:t=bs u:=by rw[b1]at g2;exact Option.some.inj g2
  have hnum:=Ziz u (hw u (Ab hu1));refine zh (za (zj (za (ze [] (zo f0 hc) ?_))));cases hz:jV u with
  | none =>
   rw[hz]at hnum;simp only[XN]at hnum;refine DQ ?_;refine zr hnum ?_
   repeat apply za
   refine zb ?_;refine zn DI ?_;refine DQ ?_;exact zg (zi hd DJ (by rw[Zr8 hu1 hz];rfl))
  | some n =>
   rw[hz]at hnum;simp only[XN]at hnum;have hnv:yO u=n:=by unfold yO;rw[hz];rfl
   rw[hnv]at g1;have hnx:(zs.take (k+1)).flatMap Enc.enc=cs.take k++[I n]:=by rw[hcs,AI,g1,Ar];rfl
   have hso':∀w∈l.take (k+1),(jV w).isSome=true:=by
    rw[AI,hu1];intro w hw;rw[AB]at hw;rcases hw with hw | hw
    ·exact hso w hw
    ·obtain rfl:w=u:=by simpa using hw
     rw[hz];rfl
   refine DQ ?_;refine zr hnum ?_
   repeat apply za
   refine zb ?_;refine zm rfl (zh (ze [] hkl ?_));refine⟨by omega,?_⟩;refine zb ?_;exact zq (k+1,w+1,cs.take k++[I n]) [] ⟨⟨by simp;omega,hso'⟩,by rw[hnx];exact Af DL,by simp;omega,λ_=>by simp;omega,λh=>by omega⟩ DL (by simp[zu k (by omega)]) rfl DI
 ·simp at hc;obtain rfl:k=zs.length:=DH
  rw[Af DH]at hso;have hcl:cs.length=zs.length:=by
   rcases BY zs.length with h | h
   ·rw[hk0 h,h];rfl
   ·exact hk1 h
  have hcz:cs=zs.flatMap Enc.enc:=by
   rw[Ak,Af DH]at hcs;exact hcs
  refine zx (yb 0 rfl ?_);refine za (ze [] hcl ?_);exact zg (zi hd DJ (by simp[zp,hcz,hres hso,vp]))
theorem Zdu(l:List (List UInt8))(hl:l.length<=1048576)(hw:∀w∈l,w.length<=1099511627776):Pure prog 144 [L (l.map bs)] (vp (jB l)):=by
 have h:=ZsL l hl hw;cases hz:jB l with
 | none =>
  rw[hz]at h;simp only[vp]at h ⊢;refine zt func144 ntmps144 results144 λS nx hd=>?_
  refine DQ ?_;refine DQ ?_;refine zr h ?_;exact DR hd
 | some z =>
  rw[hz]at h;simp only[vp]at h ⊢;refine zt func144 ntmps144 results144 λS nx hd=>?_
  refine DQ ?_;refine DQ ?_;refine zr h ?_;exact DR hd
open Go Go.Proofs
theorem ZsM{P:Program}{f:FuncId}{v:Value}(vs:List Value)(hE:qj P f)(h:∀w,Calls P f vs.toArray w λe w'=>e=.returned v/\w'=w):Pure P f (vs.map .sc) (.sc v):=by
 intro S;refine⟨hE,λC w us hS hl hr=>?_⟩;have hus:us=vs.toArray:=by
  apply Array.ext
  ·simp_all
  ·intro i h1 h2;have hi:i<vs.length:=by simpa using h2
   have:=hr i (.sc vs[i]) us[i] DI (AK h1);generalize us[i]=u at this;cases this;simp
 subst hus;refine(h w).mono ?_;rintro e w' ⟨rfl,rfl⟩;exact⟨_,_,S,C,rfl,⟨rfl,rfl⟩,.sc _,hS,.refl _ _ _⟩
theorem ZiA(s:List UInt8)(c:UInt8):Pure prog 222 [T (bs s),T (bs [c])] (I (Lib.indexByte s c)) :=
 ZsM [.string (bs s),.string (bs [c])] Zln λw=>stringslite_Index_one (bs s) c w
theorem ZiB(a b:List UInt8)(c:UInt8)(h:c ∉ a):Lib.indexByte (a++c :: b) c=a.length:=by induction a<;>grind[Lib.indexByte]
theorem ZaQ(l:List UInt8)(i j:Nat):(bs l).extract i j=bs ((l.take j).drop i):=by
 apply ByteArray.ext;simp[List.drop_take]
theorem ZsN(a b:List UInt8)(c:UInt8)(h:c ∉ a)(hl:(a++c :: b).length<=4611686018427387904):Pure prog 189 [T (bs (a++c :: b)),T (bs [c])] (.tup [T (bs a),T (bs b),B true]):=by
 have hI:=ZiA (a++c :: b) c;rw[ZiB a b c h]at hI;have hx1:(bs (a++c :: b)).extract 0 a.length=bs a:=by rw[ZaQ];simp
 have hx2:(bs (a++c :: b)).extract (a.length+1) (bs (a++c :: b)).size=bs b:=by
  rw[ZaQ,wZ,Ak,show a++c :: b=(a++[c])++b by simp,List.drop_left' DI]
 have hsz:(bs (a++c :: b)).size=a.length+1+b.length:=by rw[wZ];simp;omega
 have hs1:(bs [c]).size=1:=rfl;rw[hsz]at hx2;have hw:W ((a.length:Int)+1)=((a.length+1:Nat):Int):=zu _ (by simp at hl;omega);generalize bs (a++c :: b)=X at *;generalize bs [c]=Y at *;generalize a.length=n at *;refine zt func189 ntmps189 results189 λS nx hd=>?_
 refine DQ ?_
 repeat apply za
 refine zb ?_;refine zr hI ?_;refine DQ ?_;refine zn DI ?_;have hb1:n<=n+1+b.length:=DH
 have hb2:n+1<=n+1+b.length:=DH
 have hb3:(0:Int)<=(n:Int)+1:=DH
 refine za (zz none (Row.pures [0,1,2,3,4,5,6,7,8,9,10,11] .done) mixed (yl hx1 hx2 hsz hs1 hw (zF hb1 hb2 hb3)) ?_);exact DR hd
theorem ZiC(a:List UInt8)(c:UInt8)(h:c ∉ a):Lib.indexByte a c=-1:=by induction a<;>grind[Lib.indexByte]
theorem ZsO(a:List UInt8)(c:UInt8)(h:c ∉ a):Pure prog 189 [T (bs a),T (bs [c])] (.tup [T (bs a),T (bs []),B false]):=by
 have hI:=ZiA a c;rw[ZiC a c h]at hI;generalize bs a=X at *;generalize bs [c]=Y at *;refine zt func189 ntmps189 results189 λS nx hd=>?_
 refine DQ ?_
 repeat apply za
 refine zb ?_;refine zr hI ?_;refine DQ ?_;refine zm DI ?_;refine zh (DQ ?_);exact zg (zi hd rfl rfl)
def Zdv(c:UInt8)(s:List UInt8):PV:=match xz c s with
 | some (a,b)=>.tup [T (bs a),T (bs b),B true]
 | none=>.tup [T (bs s),T (bs []),B false]
theorem ZsP(s:List UInt8)(c:UInt8)(hl:s.length<=4611686018427387904):Pure prog 136 [T (bs s),T (bs [c])] (Zdv c s):=by
 unfold Zdv;cases hcw:xz c s with
 | none =>
  have hc:=ZsO s c (ZcV hcw);simp only[];refine zt func136 ntmps136 results136 λS nx hd=>?_
  refine DQ ?_;refine DQ ?_;refine zr hc ?_;exact DR hd
 | some p =>
  obtain⟨a,b⟩:=p;obtain⟨rfl,hna⟩:=XC hcw;have hc:=ZsN a b c hna hl;simp only[];clear hcw;refine zt func136 ntmps136 results136 λS nx hd=>?_
  refine DQ ?_;refine DQ ?_;refine zr hc ?_;exact DR hd
theorem ZiD(c:UInt8):∀(k:Nat) (s:List UInt8),s.count c<=k->Lib.splitB (bs [c]) 0 k (bs s)=(yX c s).map bs
 | k,s,hk=>by
  rw[ZqL];cases h:xz c s with
  | none =>
   grind[Lib.index_one,ZiC,ZcV,Lib.splitB_miss]
  | some p =>
   obtain⟨a,b⟩:=p;obtain⟨rfl,hna⟩:=XC h;have hn:Lib.indexB (bs (a++c :: b)) (bs [c])=a.length:=(Lib.index_one _ c).trans (ZiB a b c hna);rw[List.count_append,List.count_cons_self]at hk
   match k,hk with
   | k+1,hk =>
   have ih:=ZiD c k b DH;have hs1:(bs [c]).size=1:=rfl;rw[Lib.splitB_hit _ _ _ _ _ hn,hs1,ZaQ,ZaQ,wZ,Ak,show a++c :: b=(a++[c])++b by simp,List.drop_left' DI,ih];simp
theorem ZsQ(c:UInt8)(s:List UInt8):(yX c s).length=s.count c+1:=by induction s<;>grind[yX]
theorem ZsR(s:List UInt8)(c:UInt8)(hl:s.length<=1048576):Pure prog 190 [T (bs s),T (bs [c]),I 0,I (-1)] (L ((yX c s).map bs)):=by
 intro S;refine⟨Zlk,λC w us hS hl' hr=>?_⟩;obtain⟨u0,u1,u2,u3,rfl⟩:∃a b c d,us=#[a,b,c,d]:=by
  match us,hl' with
  | ⟨[a,b,c,d]⟩,_=>simp
 have hsz1:(bs [c]).size=1:=rfl;have r0:=hr 0 _ u0 rfl rfl;have r1:=hr 1 _ u1 rfl rfl;have r2:=hr 2 _ u2 rfl rfl;have r3:=hr 3 _ u3 rfl rfl;cases r0;cases r1;cases r2;cases r3;have hcb:Lib.countB (bs s) (bs [c])=s.count c:=Lib.count_one c s;have hcl:s.count c<=s.length:=List.count_le_length;have main:=Any.strings_genSplit_core lays221 DK (bs s) (bs [c]) 0 (-1) (s.count c+1) w (by rw[wZ];omega) DH (Cj _)
  (λx ce _=>(strings_Index_one x c _).mono λe w' h=>⟨by grind[Lib.index_one],h.2⟩)
  ((strings_Count_one (bs s) c w).mono λe w' h=>⟨by rw[h.1,hcb];rfl,h.2⟩)
  DN DN (by grind[wZ])
 rw[B1,ZiD c _ s (Ag _)]at main;refine main.mono ?_;rintro e w' ⟨rfl,rfl⟩;obtain⟨t1,t2,t3⟩:=hS.alloc (.cells (Lib.cellsOf ((yX c s).map bs) (s.count c+1)) (lays221_ren.t 9));have hlen:((yX c s).map bs).length=s.count c+1:=by rw[List.length_map];exact ZsQ c s
 refine⟨_,_,S,C,rfl,⟨rfl,rfl⟩,?_,t1,t2⟩;clear main hcb;generalize (yX c s).map bs=l at *;generalize hN:s.count c+1=N at *;have hcells:Lib.cellsOf l N=(l.map Value.string).toArray:=by unfold Lib.cellsOf;rw[hlen,Bp];simp
 have hfl:l.flatMap Enc.enc=l.map T:=by
  clear hcells hlen t1 t2
  induction l with
  | nil=>rfl
  | cons x l ih=>simp_all
 rw[hcells]at t1 t2 ⊢;unfold L;rw[hfl];refine .lst1 DH (by unfold jE;omega) (Yt w _) t3 (λ_=>by simp) (λi v hi hv=>?_) (λi p v hp hv=>?_)
 ·rw[AE,AS,Ai]at hv;obtain⟨x,_,rfl⟩:=Ao.1 hv;rfl
 ·rw[AE,AS,Ai]at hv;rw[Ai]at hp;obtain⟨x,hx,rfl⟩:=Ao.1 hv;rw[hx]at hp;cases hp;exact .sc _
theorem ZsS(s:List UInt8)(c:UInt8)(hl:s.length<=1048576):Pure prog 137 [T (bs s),T (bs [c])] (L ((yX c s).map bs)):=by
 have h:=ZsR s c hl;refine zt func137 ntmps137 results137 λS nx hd=>?_
 refine DQ ?_;refine DQ ?_;refine zr h ?_;exact DR hd
open Go Go.Proofs
abbrev wl(ls:List (List (List UInt8))):List (List ByteArray):=ls.map (·.map bs)
def ZaR(o:Option (List (List (List UInt8)))):PV:=match o with
 | none=>.tup [vn,I 2]
 | some ls=>.tup [L (wl ls),I 0]
theorem Zdw(a:ByteArray):qV .neq a a=some (.bool false):=by simp[qV]
theorem Zdx{a b:ByteArray}(h:a≠b):qV .neq a b=some (.bool true):=by
 have h2:¬a.toList=b.toList:=λe=>h (Zds e)
 simp[qV,h2]
theorem ZsT(t:List UInt8)(hl:t.length<=1048576):Pure prog 101 [T (bs t)] (ZaR (xW t)):=by
 refine zt func101 ntmps101 results101 λS nx hd=>?_
 refine DQ ?_;refine DQ ?_;refine za (jg 4 81 1 rfl λv1=>?_);refine zj (zD (λs:List UInt8 × List (List (List UInt8)) × Nat=>s.1.length<=t.length/\s.2.1.length+s.1.length<=t.length/\xW t=(xW s.1).map (s.2.1++·)) (λ(r,ls,v)=>[(0,T (bs r)),(4,.sl nx v 1 0 ls.length)]) (λ(r,ls,v)=>[.cells v 81 ((wl ls).flatMap Enc.enc)]) (λs=>s.1.length) (t,[],v1) [] ⟨Ag _,by simp,by simp⟩ DI DI ?_);rintro⟨r,ls,v1⟩ ⟨hr,hlr,hz⟩;simp only at hr hlr hz ⊢;have hrl:r.length<=1048576:=DH
 by_cases h0:r=[]
 ·subst h0
  repeat apply za
  refine ze [] Zdw ?_;refine zm DI ?_;refine zx (yb 0 rfl ?_);refine DQ ?_;rw[Zaz]at hz;exact zg (zi hd DJ (by simp[zp,hz,ZaR]))
 ·have hne:bs r≠bs []:=λh=>h0 (Ziy.1 h)
  have hcut:=ZsP r 10 DH;unfold Zdv at hcut
  repeat apply za
  refine ze [] (Zdx hne) ?_;refine zn DI ?_;refine zh (zj ?_);cases hcw:xz 10 r with
  | none =>
   rw[hcw]at hcut;simp only[]at hcut;refine DQ ?_;refine zr hcut ?_
   repeat apply za
   refine zb ?_;refine zn DI ?_;refine DQ ?_;exact zg (zi hd DJ (by rw[hz,Zhz h0 hcw];rfl))
  | some p =>
   obtain⟨a,b⟩:=p;rw[hcw]at hcut;simp only[]at hcut;have hlz:=ZaA hcw;obtain⟨hrab,hna⟩:=XC hcw;have hab:a.length+b.length+1=r.length:=by rw[hrab];simp;omega
   have hspl:=ZsS a 32 DH;have hsl:=ZqM 32 a;have hsw:∀w∈yX 32 a,w.length<=1048576:=λw hw=>by have:=ZqN 32 a w hw;omega
   obtain⟨ws,hws⟩:∃ws,ws=yX 32 a:=⟨_,rfl⟩;rw[<-hws]at hlz hspl hsl hsw;refine DQ ?_;refine zr hcut ?_
   repeat apply za
   refine zb ?_;refine zm DI ?_;refine zh (DQ ?_);refine zr hspl ?_
   repeat apply za
   refine zb ?_;refine zj (zD (λk:Nat=>k<=ws.length/\∀w∈ws.take k,Zz w=true) (λk=>[(4,.sl nx v1 1 0 ls.length),(6,T (bs b)),(8,L (ws.map bs)),(23,L (ws.map bs)),(24,I ws.length),(25,I k)]) (λ_=>[.cells v1 81 ((wl ls).flatMap Enc.enc)]) (λk=>ws.length-k) 0 [] DI DI DI ?_);rintro k ⟨hk,hwk⟩;refine DQ ?_;refine za (zv rfl (λhc=>?_) (λhc=>?_))
   ·simp at hc;obtain⟨t',tl,b1,b2,b3,f0⟩:=zJ rfl (ws.map bs) k (by simpa using hc);obtain⟨u,hu,rfl⟩:∃u,ws[k]?=some u/\bs u=t':=by rw[Ai]at b1;simpa using b1
    have hkl:k<ws.length:=by simpa using hc
    have hword:=ZsK u (by have:=hsw u (Ab hu);omega);refine zh (za (zj (za (ze [] (zo f0 hkl) ?_))));refine DQ ?_;refine zr hword ?_;cases hwb:Zz u with
    | false =>
     refine zn DI ?_;refine DQ ?_;have hbad:xW r=none:=ZqP hcw (k:=k) (w:=u) (by rw[<-hws];exact hu) hwb;exact zg (zi hd DJ (by rw[hz,hbad];rfl))
    | true =>
     refine zm DI ?_;refine zh (zb ?_);exact zq (k+1) [] ⟨hkl,by
      rw[AI,hu];intro w hw;rw[AB]at hw;rcases hw with hw | hw
      ·exact hwk w hw
      ·obtain rfl:w=u:=by simpa using hw
       exact hwb⟩ DH (by simp[zu k (by omega)]) rfl DI
   ·simp at hc;obtain rfl:k=ws.length:=DH
    rw[Ak]at hwk;rw[if_pos (Ay.2 hwk)]at hlz;refine zx ?_;have hwl:(wl ls).length=ls.length:=DI
    have htk:((wl ls).flatMap Enc.enc).take ls.length=(wl ls).flatMap Enc.enc:=by rw[<-hwl];exact Zk0 _
    refine za (ze [] hwl ?_);refine⟨by omega,?_⟩;refine zb ?_;rw[htk];have hb1:b.length<r.length:=DH
    exact zq (b,ls++[ws],v1+1) [] ⟨AD (Dw hb1) hr,by simp;omega,by rw[hz,hlz,Option.map_map];congr 1;funext x;simp⟩ hb1 DI rfl DI
open Go Go.Proofs Go.RowKit Go.Shelf
theorem ZsU{w:Wd}{i:Nat}{c:UInt8}(h:w[i]?=some c)(h1:¬(c.toNat=48\/c.toNat=49)):wG w=false:=by
 unfold wG;have:w.all (λc=>decide (c.toNat=48\/c.toNat=49))=false:=by
  rw[BT];exact⟨c,Ab h,by simpa using h1⟩
 rw[this,Dc]
theorem ZsV{w:Wd}{i:Nat}{c:UInt8}(h:w[i]?=some c):xL w (i+1)=if c=49 then qK (xL w i) i else xL w i:=by
 have:w.getD i 0=c:=by rw[Aa,h];rfl
 show (if w.getD i 0=49 then qK (xL w i) i else xL w i)=_
 rw[this]
def vQ(w:Wd):Nat × Int:=if wG w=true then if 64<w.length then (0,3) else (xL w w.length,0) else (0,2)
theorem ZsW(n d:Nat)(hn:n<2 ^ 64)(w:World):Calls prog 226 #[.int .u64 n,.int .i64 d] w λe w'=>e=.returned (.int .u64 (qK n d))/\w'=w:=by
 go_enter func226,ntmps226
 by_cases h:(d:Int)<64
 ·have h3:=Zg3 d DH;have h4:bits BinOp.or IntKind.u64 (n:Int) (2 ^ d)=((n ||| 2 ^ d:Nat):Int):=by
   have:=bits_or_u64_nat n (2 ^ d) DH (by have:(2:Nat) ^ d<2 ^ 64:=Cr (by decide) (by omega);omega);simpa using this
  have h5:qK n d=n ||| 2 ^ d:=by unfold qK;rw[if_pos ⟨by omega,h⟩];rfl
  go_wp2
  go_ret
  exact⟨by show Ending.returned (.int .u64 ((n ||| 2 ^ d:Nat):Int))=_;rw[h5],rfl⟩
 ·have h5:qK n d=n:=by unfold qK;rw[if_neg DH]
  go_wp2
  go_ret
  exact⟨rfl,rfl⟩
theorem ZsX(s:Wd)(hl:s.length<=1048576)(w:World):Calls prog 191 #[.string (bs s)] w λe w'=>e=.returned (.tuple #[.int .u64 (vQ s).1,.int .i64 (vQ s).2])/\∃i,w'=w.iter (bs s) i:=by
 have hsz:=wZ s
 go_enter func191,ntmps191
 go_wp2
 go_loopg [4,5] s.length (λg s4 s5 wx=>∃i:Nat,i+g=s.length/\s4=.int .u64 (xL s i)/\s5=.int .i64 i/\wx=w.iter (bs s) i/\∀c∈s.take i,c.toNat=48\/c.toNat=49)
 case atStart=>exact⟨0,by omega,rfl,rfl,rfl,by simp⟩
 case round =>
  obtain⟨i,hig,rfl,rfl,rfl,hno'⟩:=hrel;have hno:Aside (∀c∈s.take i,c.toNat=48\/c.toNat=49):=hno';clear hno';cases gk with
  | zero =>
   obtain rfl:i=s.length:=DH
   have hnx:=λty=>run_next_end (P:=prog) w (bs s) s.length ty (by rw[hsz];omega)
   have hsg:s≠[]->wG s=true:=λh0=>by
    unfold wG;rw[decide_eq_true h0,Dl,Ay];have h9:=hno.out;rw[Ak]at h9;exact λc hc=>decide_eq_true (h9 c hc)
   by_cases h0:s=[]
   ·subst h0;clear hsg;simp only[Ah]at hnx
    go_wp2
    go_ret2
    exact⟨rfl,_,rfl⟩
   ·have hs1:=hsg h0;clear hsg;have hne:¬(s.length:Int)=0:=by intro h;exact h0 (Au DH)
    rcases Bh 64 s.length with h64 | h64
    ·have h64':(64:Int)<s.length:=DH
     have hsp:vQ s=(0,3):=by unfold vQ;rw[if_pos hs1,if_pos h64]
     go_wp2
     go_ret2
     exact⟨by rw[hsp];rfl,_,rfl⟩
    ·have h64':¬(64:Int)<s.length:=DH
     have hsp:vQ s=(xL s s.length,0):=by unfold vQ;rw[if_pos hs1,if_neg DH]
     go_wp2
     go_ret2
     exact⟨rfl,_,rfl⟩
  | succ g =>
   have hi:i<s.length:=DH
   obtain⟨x,hx⟩:∃x:UInt8,s[i]?=some x:=⟨_,Ae hi⟩;have hb:i<(bs s).size:=DH
   have hxb:(bs s)[i]'hb=x:=by
    have:=Ac.1 hx;exact this.2
   have Hx:Aside (s[i]?=some x):=hx;have hset:=ZsV hx;clear hx;have hlts:=ZaM s i
   by_cases q0:x.toNat=48
   ·have hnx:=λty=>run_next_ascii (P:=prog) w (bs s) i ty hb (by rw[hxb,q0];decide)
    rw[hxb,q0]at hnx;have hne:¬x=49:=by rintro rfl;exact absurd q0 DN
    rw[if_neg hne]at hset
    go_wp2
    go_roundg g
    case measure=>omega
    case rel =>
     refine⟨i+1,by omega,by rw[hset],by simp,rfl,?_⟩;rw[AI,Hx.out];intro c hc;rw[AB]at hc;rcases hc with hc | hc
     ·exact hno.out c hc
     ·obtain rfl:c=x:=by simpa using hc
      exact .inl q0
   ·by_cases q1:x.toNat=49
    ·have hx1:x=49:=UInt8.toNat_inj.1 q1;have hnx:=λty=>run_next_ascii (P:=prog) w (bs s) i ty hb (by rw[hxb,q1];decide)
     rw[hxb,q1]at hnx;rw[if_pos hx1]at hset;have hww:=ZsW (xL s i) i hlts
     go_wp2_with fail
     refine(hww _).mono ?_;rintro _ _ ⟨rfl,rfl⟩;rw[<-hset];clear hww
     go_wp2
     go_roundg g
     case measure=>omega
     case rel =>
      refine⟨i+1,by omega,by rw[hset],by simp,rfl,?_⟩;rw[AI,Hx.out];intro c hc;rw[AB]at hc;rcases hc with hc | hc
      ·exact hno.out c hc
      ·obtain rfl:c=x:=by simpa using hc
       exact .inr q1
    ·have hsp:vQ s=(0,2):=by unfold vQ;rw[if_neg (by rw[ZsU Hx.out (λh=>h.elim q0 q1)];simp)]
     have hnx:=λty=>run_next_any (P:=prog) w (bs s) i ty hb
     have hdec:(Utf8.decode (bs s) i).1≠48/\(Utf8.decode (bs s) i).1≠49:=by
      by_cases h128:x.toNat<128
      ·rw[decode_ascii (bs s) i hb (by rw[hxb];exact h128),hxb];exact⟨q0,q1⟩
      ·have:=(decode_high (bs s) i hb (by rw[hxb];omega)).1;omega
     obtain⟨r,hr⟩:∃r,r=Utf8.decode (bs s) i:=⟨_,rfl⟩;rw[<-hr]at hnx hdec;have q2:¬(r.1:Int)=48:=by have:=hdec.1;omega
     have q3:¬(r.1:Int)=49:=by have:=hdec.2;omega
     clear hr hdec hset
     go_wp2
     go_ret2
     exact⟨by rw[hsp];rfl,_,rfl⟩
theorem ZsY(s:Wd)(hl:s.length<=1048576):Pure prog 191 [T (bs s)] (.tup [U (vQ s).1,I (vQ s).2]):=by
 intro S;refine⟨Zll,λC w us hS hl' hr=>?_⟩;obtain⟨u0,rfl⟩:=Zdi hl';have r0:=hr 0 _ u0 rfl rfl;cases r0;refine(ZsX s hl w).mono ?_;rintro _ _ ⟨rfl,i,rfl⟩;obtain⟨t1,t2,_⟩:=hS.alloc (.stringIter (bs s) i);refine⟨_,_,S,C,rfl,⟨rfl,rfl⟩,.tup rfl λj c v h1 h2=>?_,t1,t2⟩
 match j,h1,h2 with
 | 0,h1,h2=>cases h1;cases h2;exact .sc _
 | 1,h1,h2=>cases h1;cases h2;exact .sc _
open Go Go.Proofs
theorem XO{a b:List UInt8}:bs a=bs b<->a=b:=by
 constructor
 ·intro h;have:=congrArg (λx:ByteArray=>x.data.toList) h;exact this
 ·rintro rfl;rfl
theorem XP(ws:Ln)(k:Nat)(h:k<ws.length):∃u tl,ws[k]?=some u/\List.drop k ((ws.map bs).flatMap Enc.enc)=Enc.enc (bs u)++tl:=by
 obtain⟨t,tl,b1,b2,b3,f0⟩:=zJ rfl (ws.map bs) k (by simpa using h);obtain⟨u,hu,rfl⟩:∃u,ws[k]?=some u/\bs u=t:=by rw[Ai]at b1;simpa using b1
 exact⟨u,tl,hu,f0⟩
theorem ZiE(a b:Ln)(ha:a.length<=1048576)(hb:b.length<=1048576):Pure prog 139 [L (a.map bs),L (b.map bs)] (B (decide (a=b))):=by
 refine zt func139 ntmps139 results139 λS nx hd=>?_
 refine DQ ?_
 by_cases hl:a.length=b.length
 ·repeat apply za
  refine ze [] hl ?_;refine zm (by simp[hl]) ?_;refine zh ?_
  repeat apply za
  refine zb ?_;refine zj (zD (λk:Nat=>k<=a.length/\a.take k=b.take k) (λk=>[(0,L (a.map bs)),(1,L (b.map bs)),(12,I a.length),(13,I k)]) (λ_=>[]) (λk=>a.length-k) 0 [] DI (by simp[hl]) DI ?_);rintro k ⟨hk,he⟩;refine DQ ?_;refine za (zv rfl (λhc=>?_) (λhc=>?_))
  ·simp at hc;obtain⟨u,tl,hu,f0⟩:=XP a k hc;obtain⟨v,tl2,hv,f1⟩:=XP b k DH;have hkb:k<b.length:=DH
   refine zh (za (zj (DQ ?_)))
   by_cases huv:u=v
   ·subst huv;refine za (zz none (Row.pures [0,1,2,3,4,5,6,7,8] .done) mixed (yE f0 f1 hc hkb Zdw) ?_);refine zm DI ?_;refine zh (zb ?_);exact zq (k+1) [] ⟨hc,by rw[AI,AI,hu,hv,he]⟩ DH (by simp[zu k (by omega)]) rfl DI
   ·have hne:=Zdx (λh=>huv (XO.1 h):bs u≠bs v);refine za (zz none (Row.pures [0,1,2,3,4,5,6,7,8] .done) mixed (yE f0 f1 hc hkb hne) ?_);refine zn DI ?_;refine DQ ?_;have hab:¬a=b:=by rintro rfl;rw[hu]at hv;exact huv (Option.some.inj hv)
    exact zg (zi hd DJ (by simp[hab,zp]))
  ·simp at hc;obtain rfl:k=a.length:=DH
   rw[Ak,hl,Ak]at he;subst he;refine zx (DQ ?_);exact zg (zi hd DJ DI)
 ·repeat apply za
  refine zb ?_;refine zn DL ?_;refine DQ ?_;have hab:¬a=b:=by rintro rfl;exact hl rfl
  exact zg (zi hd DJ (by simp[hab,zp]))
structure Rdr where
 pos:Nat
 d:Int
 v:Int
 c:Int
 l:Int
 m:Int
 bad:Bool
abbrev Y0(ls:List Ln)(r:Rdr)(cs ds:PV):List PV:=[L (wl ls),I r.pos,I r.d,I r.v,I r.c,I r.l,cs,ds,I r.m,B r.bad]
def yR(ls:List Ln)(r:Rdr):Rdr:=if r.pos<ls.length then { r with pos:=r.pos+1 } else r
theorem WU{S:Store}{id ver:Nat}(ls:List Ln)(r:Rdr)(cs ds:PV)(hS:S id=.cells ver 164 (Y0 ls r cs ds))(hl:ls.length<=1048576):
  Spec prog 140 [.ptr id ver 0] S (λq S'=>q=L ((zS ls r.pos).map bs)/\S'=S.set id (.cells ver 164 (Y0 ls (yR ls r) cs ds))):=by
 obtain⟨pos,d,v,c,l,m,bad⟩:=r;have hwl:(wl ls).length=ls.length:=DI
 refine yi func140 ntmps140 results140 λnx hd=>?_
 have hlt:id<nx:=qE hd hS DI;have g1:¬nx<=id:=DH
 have x1:∀obs,ext S nx obs id=.cells ver 164 (Y0 ls ⟨pos,d,v,c,l,m,bad⟩ cs ds):=λobs=>(zB hlt).trans hS
 by_cases hp:pos<ls.length
 ·have hp2:¬(ls.length:Int)<=pos:=DH
  refine DQ ?_
  repeat apply za
  refine zz (some [id]) (Row.pures [0,1,2,3,4,5,6,7,8,9] .done) mixed (zV x1 g1 hwl hp2) ?_;refine zm DI ?_;refine zh ?_;have w1:IntKind.i64.wrap ((pos:Int)+1)=(pos:Int)+1:=by rw[AC];omega
  refine za (ze [] (zF x1 g1 w1) ?_);obtain⟨A,hA⟩:∃A,A=Ob.cells ver 164 (Y0 ls ⟨pos+1,d,v,c,l,m,bad⟩ cs ds):=⟨_,rfl⟩;have hnx:yR ls ⟨pos,d,v,c,l,m,bad⟩=⟨pos+1,d,v,c,l,m,bad⟩:=if_pos hp;have hset:ext (S.set id (.cells ver 164 [L (wl ls),I ((pos:Int)+1),I d,I v,I c,I l,cs,ds,I m,B bad])) nx []=ext (S.set id A) nx []:=by rw[hA];rfl
  have x2:∀obs,ext (S.set id A) nx obs id=.cells ver 164 (Y0 ls ⟨pos+1,d,v,c,l,m,bad⟩ cs ds):=λobs=>by rw[zB hlt,q11,hA]
  rw[hset];obtain⟨t,tl,b1,b2,b3,f0⟩:=zJ rfl (wl ls) pos (by rw[hwl];exact hp);have hline:t=(zS ls pos).map bs:=by
   have:ls[pos]?=some (zS ls pos):=by unfold zS;rw[Aa,Ae hp];rfl
   rw[Ai,this]at b1;exact(Option.some.inj b1).symm
  have w2:IntKind.i64.wrap (pos:Int)=(pos:Int):=by rw[AC];omega
  refine za (zz (some [id]) (Row.pures [0,1,2,3,4,5,6,7,8,9,10,11] .done) mixed (yl x2 g1 w2 f0 hwl hp) ?_);refine zg ⟨_,_,by simp;rfl,⟨by simp[zp,hline],by rw[hnx,hA]⟩,zR ?_⟩;exact qz hd hlt _
 ·have hp2:(ls.length:Int)<=pos:=DH
  have hnx:yR ls ⟨pos,d,v,c,l,m,bad⟩=⟨pos,d,v,c,l,m,bad⟩:=if_neg hp;have hline:zS ls pos=[]:=by unfold zS;rw[Aa,An DH];rfl
  refine DQ ?_
  repeat apply za
  refine zz (some [id]) (Row.pures [0,1,2,3,4,5,6,7,8,9] .done) mixed (zV x1 g1 hwl hp2) ?_;refine zn DI ?_;refine DQ ?_;refine ZS 2 rfl ?_;rw[hnx];simp only[hline];rw[Yi S id _ hS];exact DR hd
def LnsOk(ls:List Ln):Prop:=ls.length<=1048576/\∀l∈ls,l.length<=1048576/\∀w∈l,w.length<=1048576
theorem LnsOk.at{ls:List Ln}(h:LnsOk ls)(k:Nat):(zS ls k).length<=1048576/\∀w∈zS ls k,w.length<=1048576:=by
 unfold zS;rw[Aa];cases hk:ls[k]? with
 | none=>simp
 | some l=>exact h.2 l (Ab hk)
theorem ZsZ(l:Ln)(k:Nat):xB l (k+1)=xB l k++[l.getD (2*k+1) []]:=by simp[xB,AL]
theorem ZaS(l:Ln)(k:Nat):(xB l k).length=k:=by simp[xB]
theorem Zs0{l:Ln}{k:Nat}(hw:∀w∈l,w.length<=1048576):∀w∈xB l k,w.length<=1048576:=by
 intro w hm;obtain⟨i,_,rfl⟩:=Al.1 hm;rw[Aa];cases hk:l[2*i+1]? with
 | none=>simp
 | some u=>exact hw u (Ab hk)
theorem WV{ws:Ln}{k:Nat}{u:Wd}(h:ws[k]?=some u):ws.getD k []=u:=by rw[Aa,h];rfl
theorem ZiF{S:Store}{id ver:Nat}(ls:List Ln)(r:Rdr)(cs ds:PV)(names:Ln)(hS:S id=.cells ver 164 (Y0 ls r cs ds))(hl:LnsOk ls)(hn:names.length<=1000):
  Spec prog 141 [.ptr id ver 0,L (names.map bs)] S (λq S'=>q=vp (qa (zS ls r.pos) names)/\S'=S.set id (.cells ver 164 (Y0 ls (yR ls r) cs ds))):=by
 have hnext:=λS (h:S id=_)=>WU (S:=S) (id:=id) (ver:=ver) ls r cs ds h hl.1
 obtain⟨hll,hlw⟩:=hl.at r.pos;obtain⟨S1,hS1⟩:∃S1,S1=S.set id (.cells ver 164 (Y0 ls (yR ls r) cs ds)):=⟨_,rfl⟩;rw[<-hS1];generalize zS ls r.pos=ln at *;refine yi func141 ntmps141 results141 λnx hd=>?_
 have hlt:id<nx:=qE hd hS DI;have g1:¬nx<=id:=DH
 have hd1:zW nx S1:=by rw[hS1];exact qz hd hlt _
 refine DQ ?_;refine za (jP [] DM DM λK Gc Gh hK hGc hGh X hX0 hX=>?_);simp -implicitDefEqProofs [hX0,hX]
 try clear hX0 hX X
 refine hGc _ _ _ _ _ _ _ λhsuf=>((hnext _ ((zB hlt).trans hS)).mono ?_).v
 rintro _ _ ⟨rfl,rfl⟩;refine⟨S1,[],by rw[yZ _ hlt,<-hS1],?_⟩;clear hGc hGh;clear Gc Gh;refine jZ hsuf (D:=[]) DM λGc Gh hGc hGh X hX0 hX=>?_
 simp -implicitDefEqProofs [hX0,hX];clear hX0 hX X;refine hK _ _ _ ?_;clear hK hGc hGh;clear K Gc Gh;clear hnext hsuf hd hS1 hS;have hd:=hd1;have w0:IntKind.i64.wrap (2*(names.length:Int))=2*names.length:=by rw[AC];omega
 by_cases hlen:ln.length=2*names.length
 ·have c0:(ln.length:Int)=2*names.length:=DH
  repeat apply za
  refine ze [] (zo w0 c0) ?_;refine zm DI ?_;refine zh (DQ ?_);refine za (jg 7 9 1 rfl λv1=>?_);refine DQ ?_;refine zj (zD (λs:Nat × Nat=>s.1<=names.length/\∀i,i<s.1->ln.getD (2*i) []=names.getD i []) (λ(k,v)=>[(6,L (ln.map bs)),(7,.sl nx v 1 0 k),(18,L (names.map bs)),(19,I names.length),(20,I k)]) (λ(k,v)=>[.cells v 9 (((xB ln k).map bs).flatMap Enc.enc)]) (λs=>names.length-s.1) (0,v1) [] ⟨by simp,λi hi=>absurd hi (Nat.not_lt_zero _)⟩ DI (by simp[xB]) ?_);rintro⟨k,v⟩ ⟨hk,hq⟩;simp only at hk hq ⊢;refine DQ ?_;refine za (zv rfl (λhc=>?_) (λhc=>?_))
  ·simp at hc;obtain⟨a,tl,ha,f0⟩:=XP names k hc;obtain⟨u,tl2,hu,f1⟩:=XP ln (2*k) DH;obtain⟨x,tl3,hx,f2⟩:=XP ln (2*k+1) DH;have k1:2*k<ln.length:=DH
   have k2:2*k+1<ln.length:=DH
   have w1:IntKind.i64.wrap (2*(k:Int))=((2*k:Nat):Int):=by rw[AC];omega
   have w2:IntKind.i64.wrap (((2*k:Nat):Int)+1)=((2*k+1:Nat):Int):=zu _ DH;obtain⟨k2k,hk2⟩:∃n,n=2*k:=⟨_,rfl⟩;obtain⟨k2l,hk3⟩:∃n,n=2*k+1:=⟨_,rfl⟩;rw[<-hk2]at f1 k1 w1 w2 hu;rw[<-hk3]at f2 k2 hx;have w2':IntKind.i64.wrap ((k2k:Int)+1)=(k2l:Int):=by rw[w2,hk2,hk3]
   refine zh (za (zj (za (ze [] (zo f0 hc) ?_))))
   by_cases hua:u=a
   ·subst hua
    repeat apply za
    refine ze [] (zV f1 k1 w1 Zdw) ?_;refine zm DI ?_;refine zh ?_;have hol:(xB ln k).length=k:=ZaS ln k;refine ze [] (zV f2 k2 w1 w2') ?_;refine⟨by omega,?_⟩;refine zb ?_;have hod:((xB ln (k+1)).map bs).flatMap Enc.enc=List.take k (((xB ln k).map bs).flatMap Enc.enc)++[T (bs x)]:=by
     rw[Af (by rw[Zav,List.length_map,hol];exact Ag _),ZsZ,<-hk3,WV hx,List.map_append,Ar];rfl
    exact zq (k+1,v+1) [] ⟨hc,λi hi=>by
     rcases Bh i k with q | q
     ·exact hq i q
     ·obtain rfl:i=k:=DH
      rw[<-hk2,WV hu,WV ha]⟩ DH (by simp[zu k (by omega)]) rfl (by simp only[hod,AH])
   ·have hne:=Zdx (λh=>hua (XO.1 h):bs u≠bs a)
    repeat apply za
    refine ze [] (zV f1 k1 w1 hne) ?_;refine zn DI ?_;refine DQ ?_;have hnb:qa ln names=none:=by
     unfold qa JC;rw[if_neg];rw[Aw,Ay];rintro⟨_,h2⟩;have:=of_decide_eq_true (h2 k (AP.2 hc));rw[<-hk2,WV hu,WV ha]at this;exact hua this
    exact zg (zi hd DJ (by rw[hnb];rfl))
  ·simp at hc;obtain rfl:k=names.length:=DH
   have hnb:qa ln names=jB (xB ln names.length):=by
    unfold qa JC;rw[if_pos];rw[Aw,Ay];exact⟨decide_eq_true hlen,λi hi=>decide_eq_true (hq i (AP.1 hi))⟩
   have hnum:=Zdu (xB ln names.length) (by rw[ZaS];omega) (λw hw=>by have:=Zs0 hlw w hw;omega);have hol:(xB ln names.length).length=names.length:=ZaS ln _;rw[hnb];generalize xB ln names.length=od at *;refine zx (yb 0 rfl ?_);have hol2:=hol.symm;rw[show L (od.map bs)=.lst od.length ((od.map bs).flatMap Enc.enc) by unfold L;rw[List.length_map]]at hnum;cases hz:jB od with
   | none =>
    rw[hz]at hnum;simp only[vp]at hnum ⊢;refine za (ze [] hol2 ?_);refine zr hnum ?_;exact DR hd
   | some z =>
    rw[hz]at hnum;simp only[vp]at hnum ⊢;refine za (ze [] hol2 ?_);refine zr hnum ?_;exact DR hd
 ·have c0:¬(ln.length:Int)=2*names.length:=DH
  repeat apply za
  refine ze [] (zo w0 c0) ?_;refine zn DI ?_;refine DQ ?_;have hnb:qa ln names=none:=by unfold qa JC;rw[decide_eq_false hlen];rfl
  exact zg (zi hd DJ (by rw[hnb];rfl))
open Go Go.Proofs
theorem XT{l names:Ln}{z:List Int}(h:qa l names=some z):z.length=names.length:=by
 unfold qa at h;split at h
 ·rw[Zii h,ZaS]
 ·cases h
abbrev yg(ver:Nat)(ls:List Ln)(r:Rdr)(cs ds:PV):Ob:=.cells ver 164 (Y0 ls r cs ds)
theorem Zs1{S:Store}{id ver:Nat}(ls:List Ln)(r:Rdr)(cs ds:PV)(hS:S id=yg ver ls r cs ds)(hl:LnsOk ls):
  Spec prog 102 [.ptr id ver 0] S (λq S'=>q=B (decide (zS ls r.pos=[xX,[49]]))/\S'=S.set id (yg ver ls (yR ls r) cs ds)):=by
 have hnext:=λS (h:S id=_)=>WU (S:=S) (id:=id) (ver:=ver) ls r cs ds h hl.1
 have heq:=ZiE (zS ls r.pos) [xX,[49]] (hl.at r.pos).1 DI;obtain⟨S1,hS1⟩:∃S1,S1=S.set id (yg ver ls (yR ls r) cs ds):=⟨_,rfl⟩;rw[<-hS1];generalize zS ls r.pos=ln at *;refine yi func102 ntmps102 results102 λnx hd=>?_
 have hlt:id<nx:=qE hd hS DI;have hd1:zW nx S1:=by rw[hS1];exact qz hd hlt _
 refine DQ ?_;refine DQ ?_;refine λhsuf=>((hnext _ ((zB hlt).trans hS)).mono ?_).v
 rintro _ _ ⟨rfl,rfl⟩;refine⟨S1,[],by rw[yZ _ hlt,<-hS1],zG hsuf ?_⟩;refine λhsuf=>((heq _).mono ?_).v
 rintro _ _ ⟨rfl,rfl⟩;refine⟨_,_,rfl,zG hsuf ?_⟩;clear hnext hd hS1 hS;have hd:=hd1;exact DR hd
theorem Zs2{S:Store}{id ver:Nat}(ls:List Ln)(r:Rdr)(cs ds:PV)(hS:S id=yg ver ls r cs ds)(hl:LnsOk ls):
  Spec prog 103 [.ptr id ver 0] S (λq S'=>match qa (zS ls r.pos) [xY,xZ,x7,x8] with
   | some [d,v,c,l]=>q=B true/\S'=S.set id (yg ver ls { yR ls r with d:=d,v:=v,c:=c,l:=l } cs ds)
   | _=>q=B false/\S'=S.set id (yg ver ls (yR ls r) cs ds)):=by
 have hnamed:=λS (h:S id=_)=>ZiF (S:=S) (id:=id) (ver:=ver) ls r cs ds [xY,xZ,x7,x8] h hl DI
 cases hz:qa (zS ls r.pos) [xY,xZ,x7,x8] with
 | none =>
  rw[hz]at hnamed;simp only[vp]at hnamed ⊢;obtain⟨S1,hS1⟩:∃S1,S1=S.set id (yg ver ls (yR ls r) cs ds):=⟨_,rfl⟩;rw[<-hS1];refine yi func103 ntmps103 results103 λnx hd=>?_
  have hlt:id<nx:=qE hd hS DI;have hd1:zW nx S1:=by rw[hS1];exact qz hd hlt _
  refine DQ ?_;refine za (jP [] DM DM λK Gc Gh hK hGc hGh X hX0 hX=>?_);simp -implicitDefEqProofs [hX0,hX]
  try clear hX0 hX X
  refine hGc _ _ _ _ _ _ _ λhsuf=>((hnamed _ ((zB hlt).trans hS)).mono ?_).v
  rintro _ _ ⟨rfl,rfl⟩;refine⟨S1,[],by rw[yZ _ hlt,<-hS1],?_⟩;clear hGc hGh;clear Gc Gh;refine jZ hsuf (D:=[]) DM λGc Gh hGc hGh X hX0 hX=>?_
  simp -implicitDefEqProofs [hX0,hX];clear hX0 hX X;refine hK _ _ _ ?_;clear hK hGc hGh;clear K Gc Gh;clear hnamed hsuf hd hS1 hS;have hd:=hd1
  repeat apply za
  refine zb ?_;refine zm DI ?_;refine zh (DQ ?_);exact DR hd
 | some z =>
  obtain⟨d,v,c,l,rfl⟩:∃d v c l,z=[d,v,c,l]:=by
   have:=XT hz
   match z,this with
   | [d,v,c,l],_=>exact⟨d,v,c,l,rfl⟩
  rw[hz]at hnamed;simp only[vp]at hnamed ⊢;generalize yR ls r=r1 at *;obtain⟨pos,d0,v0,c0,l0,m,bad⟩:=r1;refine yi func103 ntmps103 results103 λnx hd=>?_
  have hlt:id<nx:=qE hd hS DI;refine DQ ?_;refine DQ ?_;refine λhsuf=>((hnamed _ ((zB hlt).trans hS)).mono ?_).v
  rintro _ _ ⟨rfl,rfl⟩;refine⟨_,[],yZ _ hlt,zG hsuf ?_⟩;obtain⟨S1,hS1⟩:∃S1,S1=S.set id (yg ver ls ⟨pos,d0,v0,c0,l0,m,bad⟩ cs ds):=⟨_,rfl⟩;rw[<-hS1];have g1:¬nx<=id:=DH
  have x1:∀obs,ext S1 nx obs id=yg ver ls ⟨pos,d0,v0,c0,l0,m,bad⟩ cs ds:=λobs=>by rw[zB hlt,hS1,q11]
  repeat apply za
  refine zb ?_;refine zn DI ?_;have x2:∀A obs,ext (S1.set id A) nx obs id=A:=λA obs=>by rw[zB hlt,q11]
  refine zz (some []) (Row.pures [0,1,2,3,4,5,6,7,8,9,10,11,12,13,14,15,16,17,18] (.alt 19 (Row.pures [20,21,22] (.alt 23 (Row.pures [24,25,26] (.alt 27 (Row.pures [28,29,30] (.alt 31 (.done) .stop)) .stop)) .stop)) .stop)) mixed (zV x1 g1 x2 Store.set_set) ?_;have hfin:S1.set id (.cells ver 164 [L (wl ls),I pos,I d,I v,I c,I l,cs,ds,I m,B bad])=S.set id (yg ver ls ⟨pos,d,v,c,l,m,bad⟩ cs ds):=by rw[hS1,Store.set_set]
  rw[hfin];refine DQ ?_;refine zg ⟨_,_,by simp;rfl,⟨by simp[zp],rfl⟩,zR ?_⟩;exact qz hd hlt _
theorem Zs3{S:Store}{id ver:Nat}(ls:List Ln)(r:Rdr)(cs ds:PV)(hS:S id=yg ver ls r cs ds)(hl:LnsOk ls):
  Spec prog 104 [.ptr id ver 0] S (λq S'=>match qa (zS ls r.pos) [x9] with
   | some [m]=>q=B true/\S'=S.set id (yg ver ls { yR ls r with m:=m } cs ds)
   | _=>q=B false/\S'=S.set id (yg ver ls (yR ls r) cs ds)):=by
 have hnamed:=λS (h:S id=_)=>ZiF (S:=S) (id:=id) (ver:=ver) ls r cs ds [x9] h hl DI
 cases hz:qa (zS ls r.pos) [x9] with
 | none =>
  rw[hz]at hnamed;simp only[vp]at hnamed ⊢;obtain⟨S1,hS1⟩:∃S1,S1=S.set id (yg ver ls (yR ls r) cs ds):=⟨_,rfl⟩;rw[<-hS1];refine yi func104 ntmps104 results104 λnx hd=>?_
  have hlt:id<nx:=qE hd hS DI;have hd1:zW nx S1:=by rw[hS1];exact qz hd hlt _
  refine DQ ?_;refine za (jP [] DM DM λK Gc Gh hK hGc hGh X hX0 hX=>?_);simp -implicitDefEqProofs [hX0,hX]
  try clear hX0 hX X
  refine hGc _ _ _ _ _ _ _ λhsuf=>((hnamed _ ((zB hlt).trans hS)).mono ?_).v
  rintro _ _ ⟨rfl,rfl⟩;refine⟨S1,[],by rw[yZ _ hlt,<-hS1],?_⟩;clear hGc hGh;clear Gc Gh;refine jZ hsuf (D:=[]) DM λGc Gh hGc hGh X hX0 hX=>?_
  simp -implicitDefEqProofs [hX0,hX];clear hX0 hX X;refine hK _ _ _ ?_;clear hK hGc hGh;clear K Gc Gh;clear hnamed hsuf hd hS1 hS;have hd:=hd1
  repeat apply za
  refine zb ?_;refine zm DI ?_;refine zh (DQ ?_);exact DR hd
 | some z =>
  obtain⟨m,rfl⟩:∃m,z=[m]:=by
   have:=XT hz
   match z,this with
   | [m],_=>exact⟨m,rfl⟩
  rw[hz]at hnamed;simp only[vp]at hnamed ⊢;generalize yR ls r=r1 at *;obtain⟨pos,d,v,c,l,m0,bad⟩:=r1;refine yi func104 ntmps104 results104 λnx hd=>?_
  have hlt:id<nx:=qE hd hS DI;refine DQ ?_;refine DQ ?_;refine λhsuf=>((hnamed _ ((zB hlt).trans hS)).mono ?_).v
  rintro _ _ ⟨rfl,rfl⟩;refine⟨_,[],yZ _ hlt,zG hsuf ?_⟩;obtain⟨S1,hS1⟩:∃S1,S1=S.set id (yg ver ls ⟨pos,d,v,c,l,m0,bad⟩ cs ds):=⟨_,rfl⟩;rw[<-hS1];have g1:¬nx<=id:=DH
  have x1:∀obs,ext S1 nx obs id=yg ver ls ⟨pos,d,v,c,l,m0,bad⟩ cs ds:=λobs=>by rw[zB hlt,hS1,q11]
  repeat apply za
  refine zb ?_;refine zn DI ?_;refine ze [] (zo x1 g1) ?_;have hfin:S1.set id (.cells ver 164 [L (wl ls),I pos,I d,I v,I c,I l,cs,ds,I m,B bad])=S.set id (yg ver ls ⟨pos,d,v,c,l,m,bad⟩ cs ds):=by rw[hS1,Store.set_set]
  rw[hfin];refine DQ ?_;refine zg ⟨_,_,by simp;rfl,⟨by simp[zp],rfl⟩,zR ?_⟩;exact qz hd hlt _
theorem Zs4{S:Store}{id ver:Nat}(ls:List Ln)(r:Rdr)(cs ds:PV)(hS:S id=yg ver ls r cs ds):
  Spec prog 107 [.ptr id ver 0] S (λq S'=>q=B (decide (r.pos=ls.length))/\S'=S):=by
 obtain⟨pos,d,v,c,l,m,bad⟩:=r;have hwl:(wl ls).length=ls.length:=DI
 refine yi func107 ntmps107 results107 λnx hd=>?_
 have hlt:id<nx:=qE hd hS DI;have g1:¬nx<=id:=DH
 have x1:∀obs,ext S nx obs id=yg ver ls ⟨pos,d,v,c,l,m,bad⟩ cs ds:=λobs=>(zB hlt).trans hS
 refine DQ ?_;refine za (zz (some [id]) (Row.pures [0,1,2,3,4,5,6,7,8,9,10] .done) mixed (zF x1 g1 hwl) ?_);exact zg (zi hd DJ (by simp[zp,Int.natCast_inj]))
open Go Go.Proofs
def ZI(n:Int)(ps:Ln)(k:Nat):Bool:=!((ps.take k).all λw=>decide ((w.length:Int)=n))
theorem Zs5(n:Int)(ps:Ln):ZI n ps 0=false:=by simp[ZI]
theorem Zs6{n:Int}{ps:Ln}{k:Nat}{w:Wd}(h:ps[k]?=some w):ZI n ps (k+1)=(ZI n ps k || !decide ((w.length:Int)=n)):=by
 unfold ZI;rw[AI,h];simp
theorem Zs7{w:Wd}(h:wG w=true):(vQ w).1=jX w/\(vQ w).2≠2:=by
 unfold vQ jX;rw[if_pos h];split<;>simp
theorem Zs8{w:Wd}(h:wG w=false):(vQ w).2=2:=by
 unfold vQ;rw[if_neg (by rw[h];simp)]
theorem Zs9{S:Store}{id ver idC vC:Nat}(ls:List Ln)(r:Rdr)(cu:List Cust)(ds:PV)(l:Ln)(hS:S id=yg ver ls r (.sl idC vC 8 0 cu.length) ds)(hC:S idC=.cells vC 87 (cu.flatMap Enc.enc))(hcu:cu.length<=1048576)(hl:l.length<=1048576/\∀w∈l,w.length<=1048576):
  Spec prog 142 [.ptr id ver 0,L (l.map bs)] S (λq S'=>match QP r.d l with
   | none=>q=B false/\∃b,S'=S.set id (yg ver ls { r with bad:=b } (.sl idC vC 8 0 cu.length) ds)
   | some (c,ok)=>q=B true/\S'=(S.set id (yg ver ls { r with bad:=r.bad || !ok } (.sl idC (vC+1) 8 0 (cu.length+1)) ds)).set idC (.cells (vC+1) 87 ((cu++[c]).flatMap Enc.enc))):=by
 have hne:id≠idC:=by rintro rfl;rw[hS]at hC;simp at hC
 obtain⟨pos,d,v,c,ln,m,bad⟩:=r;rcases l with _ | ⟨dw,ps⟩
 ·simp only[QP];refine yi func142 ntmps142 results142 λnx hd=>?_
  refine DQ ?_
  repeat apply za
  refine zb ?_;refine zn DI ?_;refine DQ ?_;refine zg ⟨_,_,by simp;rfl,⟨by simp[zp],bad,(Yi S id _ hS).symm⟩,zR ?_⟩;exact hd
 ·rw[Zdg];have hnum:=Ziz dw (by have:=hl.2 dw (by simp);omega);cases hz:jV dw with
  | none =>
   rw[hz]at hnum;simp only[XN,C7,AU,false_and,if_false]at hnum ⊢;refine yi func142 ntmps142 results142 λnx hd=>?_
   refine DQ ?_
   repeat apply za
   refine zb ?_;refine zm DL ?_;refine zh (DQ ?_);refine zr hnum ?_
   repeat apply za
   refine zb ?_;refine zn DI ?_;refine DQ ?_;refine zg ⟨_,_,by simp;rfl,⟨by simp[zp],bad,(Yi S id _ hS).symm⟩,zR ?_⟩;exact hd
  | some dn =>
   have hdv:yO dw=dn:=by unfold yO;rw[hz];rfl
   rw[hz]at hnum;simp only[XN]at hnum;refine yi func142 ntmps142 results142 λnx hd=>?_
   have hlt:id<nx:=qE hd hS DI;have hltC:idC<nx:=qE hd hC DI;have g1:¬nx<=id:=DH
   refine DQ ?_
   repeat apply za
   refine zb ?_;refine zm DL ?_;refine zh (DQ ?_);refine zr hnum ?_
   repeat apply za
   refine zb ?_;refine zm DI ?_;refine zh (DQ ?_);intro v0;refine qQ 0 2 98 1 rfl rfl λv1=>?_
   obtain⟨o,ho⟩:∃o,o=(if (some dn).isSome=true/\(ps.all wG)=true then some (Yh dw ps,ps.all λw=>decide ((w.length:Int)=d)) else none):=⟨_,rfl⟩;rw[<-ho];have htk:List.take ps.length ((ps.map bs).flatMap Enc.enc)=(ps.map bs).flatMap Enc.enc:=Af (by rw[Zav,List.length_map];exact Ag _);obtain⟨rdB,hrd⟩:∃rdB:Nat->Store,∀k,rdB k=S.set id (yg ver ls ⟨pos,d,v,c,ln,m,bad || ZI d ps k⟩ (.sl idC vC 8 0 cu.length) ds):=⟨_,λ_=>rfl⟩;have hr0:rdB 0=S:=by rw[hrd,Zs5,Bool.or_false];exact Yi S id _ hS
   have x1:∀k obs,ext (rdB k) nx obs id=yg ver ls ⟨pos,d,v,c,ln,m,bad || ZI d ps k⟩ (.sl idC vC 8 0 cu.length) ds:=λk obs=>by rw[zB hlt,hrd,q11]
   have hdB:∀k,zW nx (rdB k):=λk=>by rw[hrd];exact qz hd hlt _
   have hpl:ps.length<=1048576:=by have:=hl.1;simp at this;omega
   repeat apply za
   refine ze [] htk ?_;refine zj (jt (λs:Nat × Nat × Nat=>s.1<=ps.length/\∀w∈ps.take s.1,wG w=true) (λ(k,w0,w1)=>[(0,.ptr id ver 0),(7,.ptr nx w0 0),(27,L (ps.map bs)),(28,I ps.length),(29,I k)]) (λs=>rdB s.1) (λ(k,w0,w1)=>[.cells w0 87 [I 1,I dn,.sl (nx+1) w1 1 0 k,I 0,I 0,I 0,I 0,I 0],.cells w1 98 (((ps.map jX).take k).flatMap Enc.enc)]) (λs=>ps.length-s.1) (z8 (0,v0,v1) [] DI DI hr0 DI) ?_);rintro⟨k,w0,w1⟩ ⟨hk,hso⟩;simp only at hk hso ⊢;refine DQ ?_;refine za (zv rfl (λhc=>?_) (λhc=>?_))
   ·simp at hc;obtain⟨w,tl,hw,f0⟩:=XP ps k hc;have hwl:w.length<=1048576:=hl.2 w (by simp[Ab hw]);have hdp:=ZsY w hwl;have hsz:=wZ w;refine zh (za (zj (za (ze [] (zo f0 hc) ?_))));refine DQ ?_;refine zr hdp ?_;cases hsg:wG w with
    | false =>
     have hf:=Zs8 hsg;have hon:o=none:=by
      rw[ho,if_neg];rintro⟨_,h2⟩;have:=Ay.1 h2 w (Ab hw);rw[hsg]at this;cases this
     repeat apply za
     refine ze [] hf ?_;refine zn DI ?_;refine DQ ?_;refine zg ⟨_,_,by simp;rfl,by rw[hon];exact⟨by simp[zp],_,hrd k⟩,zR (hdB k)⟩
    | true =>
     obtain⟨hf1,hf2⟩:=Zs7 hsg;have hso':∀u∈ps.take (k+1),wG u=true:=by
      rw[AI,hw];intro u hu;rw[AB]at hu;rcases hu with hu | hu
      ·exact hso u hu
      ·obtain rfl:u=w:=by simpa using hu
       exact hsg
     have hnx:((ps.map jX).take (k+1)).flatMap Enc.enc=((ps.map jX).take k).flatMap Enc.enc++[U (jX w)]:=by rw[AI,Ai,hw,Ar];rfl
     have hol:(((ps.map jX).take k).flatMap Enc.enc).length=k:=by rw[ZeG,Ax,List.length_map];omega
     have htk2:List.take k (((ps.map jX).take k).flatMap Enc.enc)=((ps.map jX).take k).flatMap Enc.enc:=Af (by rw[hol];exact Ag _);have hbk:=Zs6 (n:=d) hw
     repeat apply za
     refine ze [] hf2 ?_;refine zm DI ?_;refine zh ?_
     by_cases hq:(w.length:Int)=d
     ·have hrk:rdB (k+1)=rdB k:=by rw[hrd,hrd,hbk,decide_eq_true hq,Bool.not_true,Bool.or_false]
      repeat apply za
      refine ze [] (zF x1 hsz hq) ?_;refine zm DI ?_;refine zh (ze [] (zo hf1 htk2) ?_);refine⟨by omega,?_⟩;refine zb ?_;exact zq (k+1,w0,w1+1) [] ⟨hc,hso'⟩ DH (by simp[zu k (by omega)]) hrk (by simp only[hnx,AH])
     ·have hrk:(rdB k).set id (yg ver ls ⟨pos,d,v,c,ln,m,true⟩ (.sl idC vC 8 0 cu.length) ds)=rdB (k+1):=by rw[hrd,hrd,hbk,decide_eq_false hq,C9,Bool.or_true,Bool.or_true,Store.set_set]
      repeat apply za
      refine ze [] (zF x1 hsz hq) ?_;refine zn DI ?_;refine ze [] (zo x1 g1) ?_;have hrk2:(rdB k).set id (.cells ver 164 [L (wl ls),I pos,I d,I v,I c,I ln,.sl idC vC 8 0 cu.length,ds,I m,B true])=rdB (k+1):=hrk;rw[hrk2];refine ze [] (zo hf1 htk2) ?_;refine⟨by omega,?_⟩;refine zb ?_;exact zq (k+1,w0,w1+1) [] ⟨hc,hso'⟩ DH (by simp[zu k (by omega)]) rfl (by simp only[hnx,AH])
   ·simp at hc;obtain rfl:k=ps.length:=DH
    rw[Ak]at hso;refine zx ?_;have hon:o=some (Yh dw ps,ps.all λw=>decide ((w.length:Int)=d)):=by
     rw[ho,if_pos ⟨rfl,Ay.2 hso⟩]
    have hbl:ZI d ps ps.length=!(ps.all λw=>decide ((w.length:Int)=d)):=by unfold ZI;rw[Ak]
    have hpl2:(ps.map jX).length=ps.length:=DI
    rw[show (ps.map jX).take ps.length=ps.map jX from Af DI];refine yb 1 rfl ?_;have hx1:=x1 ps.length;have g2:¬nx<=idC:=DH
    have hxC:∀obs,ext (rdB ps.length) nx obs idC=.cells vC 87 (cu.flatMap Enc.enc):=λobs=>by rw[zB hltC,hrd,q10 _ _ _ _ (Ne.symm hne),hC]
    have hx2:∀A obs,ext ((rdB ps.length).set idC A) nx obs id=yg ver ls ⟨pos,d,v,c,ln,m,bad || ZI d ps ps.length⟩ (.sl idC vC 8 0 cu.length) ds:=λA obs=>by rw[zB hlt,q10 _ _ _ _ hne,hrd,q11]
    refine za (zz (some [nx]) (Row.pures [0,1,2,3,4,6,7] (.alt 5 (.alt 8 (Row.pures [9,10,11] (.alt 12 (.done) .stop)) .stop) .stop)) mixed (yl hx1 hxC hx2 g1 g2 hpl2) ?_);refine⟨by omega,?_⟩;have hcl:(cu++[Yh dw ps]).flatMap Enc.enc=cu.flatMap Enc.enc++[I 1,I dn,.lst ps.length ((ps.map jX).flatMap Enc.enc),I 0,I 0,I 0,I 0,I 0]:=by
     rw[Ar];congr 1
     show yh (Yh dw ps)=_
     unfold Yh yh;rw[hdv]
     show [I 1,I dn,.lst (ps.map jX).length ((ps.map jX).flatMap Enc.enc),I 0,I 0,I 0,I 0,I 0]=_
     rw[hpl2]
    rw[<-hcl];have hfin:((rdB ps.length).set idC (.cells (vC+1) 87 ((cu++[Yh dw ps]).flatMap Enc.enc))).set id (.cells ver 164 [L (wl ls),I pos,I d,I v,I c,I ln,.sl idC (vC+1) 8 0 (cu.length+1),ds,I m,B (bad || ZI d ps ps.length)])=(S.set id (yg ver ls ⟨pos,d,v,c,ln,m,bad || !(ps.all λw=>decide ((w.length:Int)=d))⟩ (.sl idC (vC+1) 8 0 (cu.length+1)) ds)).set idC (.cells (vC+1) 87 ((cu++[Yh dw ps]).flatMap Enc.enc)):=by
     rw[<-hbl,hrd,Store.set_comm _ idC id _ _ hne,Store.set_set]
    rw[hfin];refine DQ ?_;refine zg ⟨_,_,by simp;rfl,by rw[hon];exact⟨by simp[zp],by rw[Ar];rfl⟩,zR ?_⟩;exact qz (qz hd hlt _) hltC _
theorem ZiG(a:ByteArray):qV .eql a a=some (.bool true):=by simp[qV]
theorem ZiH{l:Ln}(h:l.length≠5):YW l=none:=by
 match l,h with
 | [],_=>rfl
 | [_],_=>rfl
 | [_,_],_=>rfl
 | [_,_,_],_=>rfl
 | [_,_,_,_],_=>rfl
 | [_,_,_,_,_],h=>exact absurd rfl h
 | _ :: _ :: _ :: _ :: _ :: _ :: _,_=>rfl
theorem Zta{S:Store}{id ver idC vC:Nat}(ls:List Ln)(r:Rdr)(cu:List Cust)(ds:PV)(l:Ln)(hS:S id=yg ver ls r (.sl idC vC 8 0 cu.length) ds)(hC:S idC=.cells vC 87 (cu.flatMap Enc.enc))(hcu:cu.length<=1048576)(hl:l.length<=1048576/\∀w∈l,w.length<=1048576):
  Spec prog 143 [.ptr id ver 0,L (l.map bs)] S (λq S'=>match YW l with
   | none=>q=B false/\S'=S
   | some c=>q=B true/\S'=(S.set id (yg ver ls r (.sl idC (vC+1) 8 0 (cu.length+1)) ds)).set idC (.cells (vC+1) 87 ((cu++[c]).flatMap Enc.enc))):=by
 have hneq:id≠idC:=by rintro rfl;rw[hS]at hC;simp at hC
 obtain⟨pos,d,v,c,ln,m,bad⟩:=r
 by_cases h5:l.length=5
 ·obtain⟨a,b,e,ru,h,rfl⟩:∃a b c d e,l=[a,b,c,d,e]:=by
   match l,h5 with
   | [a,b,c,d,e],_=>exact⟨a,b,c,d,e,rfl⟩
  obtain⟨o,ho⟩:∃o,o=YW [a,b,e,ru,h]:=⟨_,rfl⟩;rw[<-ho];rw[Zdh]at ho;have hnum:=Zdu [a,b,e,h] DI (λw hw=>by
   have:=hl.2 w (by simp at hw ⊢;rcases hw with rfl | rfl | rfl | rfl<;>simp);omega)
  cases hz:jB [a,b,e,h] with
  | none =>
   rw[hz]at hnum;simp only[vp]at hnum;have hon:o=none:=by rw[ho,hz];simp
   refine yi func143 ntmps143 results143 λnx hd=>?_
   refine DQ ?_
   repeat apply za
   refine zb ?_;refine zm DI ?_;refine zh (za (zz none (Row.pures [0,1,2,3,4,5,6,7,8,9,10,11,12,13,14,15,16,17,18] .done) mixed trivial ?_));refine zK (hnum) trivial ?_
   repeat apply za
   refine zb ?_;refine zn DI ?_;refine DQ ?_;refine zg ⟨_,_,by simp;rfl,by rw[hon];exact⟨by simp[zp],rfl⟩,zR hd⟩
  | some z =>
   have hzv:z=[yO a,yO b,yO e,yO h]:=by
    unfold jB at hz;split at hz<;>cases hz;rfl
   subst hzv;rw[hz]at hnum ho;simp only[vp]at hnum;obtain⟨na,hna⟩:∃x,x=yO a:=⟨_,rfl⟩;obtain⟨nb,hnb⟩:∃x,x=yO b:=⟨_,rfl⟩;obtain⟨ne,hne'⟩:∃x,x=yO e:=⟨_,rfl⟩;obtain⟨nh,hnh⟩:∃x,x=yO h:=⟨_,rfl⟩;rw[<-hna,<-hnb,<-hne',<-hnh]at hnum ho;have hfill:ru=ui->qV .eql (bs ru) ⟨#[102,105,108,108]⟩=some (.bool true):=λq=>by rw[q];exact ZiG _
   have hnfill:ru≠ui->qV .eql (bs ru) ⟨#[102,105,108,108]⟩=some (.bool false):=λq=>Zdt λhh=>q (XO.1 hh)
   have hany:ru=uJ->qV .eql (bs ru) ⟨#[97,110,121]⟩=some (.bool true):=λq=>by rw[q];exact ZiG _
   have hnany:ru≠uJ->qV .eql (bs ru) ⟨#[97,110,121]⟩=some (.bool false):=λq=>Zdt λhh=>q (XO.1 hh)
   refine yi func143 ntmps143 results143 λnx hd=>?_
   have hlt:id<nx:=qE hd hS DI;have hltC:idC<nx:=qE hd hC DI;have g1:¬nx<=id:=DH
   have g2:¬nx<=idC:=DH
   refine DQ ?_
   repeat apply za
   refine zb ?_;refine zm DI ?_;refine zh (za (zz none (Row.pures [0,1,2,3,4,5,6,7,8,9,10,11,12,13,14,15,16,17,18] .done) mixed trivial ?_));refine zK (hnum) trivial ?_
   repeat apply za
   refine zb ?_;refine zm DI ?_;refine zh (za (zz (some []) (Row.pures [0,1,2,3,4,5,6,7,8,9,10,11,12] (.alt 13 (.alt 14 (.done) .stop) .stop)) mixed trivial ?_));intro v0;refine qk 0 2 rfl rfl ?_
   repeat apply za
   refine zb ?_;refine zj ?_
   by_cases hf:ru=ui
   ·have e1:=hfill hf;refine za (ze [] e1 ?_);refine zn DI ?_;refine zb ?_;have hon:o=some ⟨2,0,[],na,nb,ne,1,nh⟩:=by rw[ho,if_pos ⟨rfl,.inl hf⟩];unfold XJ;rw[if_pos hf]
    have hx1:∀obs,ext S nx obs id=yg ver ls ⟨pos,d,v,c,ln,m,bad⟩ (.sl idC vC 8 0 cu.length) ds:=λobs=>(zB hlt).trans hS
    have hxC:∀obs,ext S nx obs idC=.cells vC 87 (cu.flatMap Enc.enc):=λobs=>(zB hltC).trans hC
    have hx2:∀A obs,ext (S.set idC A) nx obs id=yg ver ls ⟨pos,d,v,c,ln,m,bad⟩ (.sl idC vC 8 0 cu.length) ds:=λA obs=>by rw[zB hlt,q10 _ _ _ _ hneq,hS]
    refine za (zz (some [nx]) (Row.pures [0,1,2,3,4,6,7] (.alt 5 (.alt 8 (Row.pures [9,10,11] (.alt 12 (.done) .stop)) .stop) .stop)) mixed (yE hx1 hxC hx2 g1 g2) ?_);refine⟨by omega,?_⟩;have hcl:(cu++[(⟨2,0,[],na,nb,ne,1,nh⟩:Cust)]).flatMap Enc.enc=cu.flatMap Enc.enc++[I 2,I 0,.lst 0 [],I na,I nb,I ne,I 1,I nh]:=by rw[Ar];rfl
    have hfin:(S.set idC (.cells (vC+1) 87 (cu.flatMap Enc.enc++[I 2,I 0,.lst 0 [],I na,I nb,I ne,I 1,I nh]))).set id (.cells ver 164 [L (wl ls),I pos,I d,I v,I c,I ln,.sl idC (vC+1) 8 0 (cu.length+1),ds,I m,B bad])=(S.set id (yg ver ls ⟨pos,d,v,c,ln,m,bad⟩ (.sl idC (vC+1) 8 0 (cu.length+1)) ds)).set idC (.cells (vC+1) 87 ((cu++[(⟨2,0,[],na,nb,ne,1,nh⟩:Cust)]).flatMap Enc.enc)):=by
     rw[hcl,Store.set_comm _ idC id _ _ hneq]
    rw[hfin];refine DQ ?_;refine zg ⟨_,_,by simp;rfl,by rw[hon];exact⟨by simp[zp],by rw[Ar];rfl⟩,zR ?_⟩;exact qz (qz hd hlt _) hltC _
   ·have e1:=hnfill hf;refine za (ze [] e1 ?_);refine zm DI ?_
    by_cases hy:ru=uJ
    ·have e2:=hany hy;refine za (ze [] e2 ?_);refine zn DI ?_;refine zb ?_;have hon:o=some ⟨2,0,[],na,nb,ne,2,nh⟩:=by rw[ho,if_pos ⟨rfl,.inr hy⟩];unfold XJ;rw[if_neg hf]
     have hx1:∀obs,ext S nx obs id=yg ver ls ⟨pos,d,v,c,ln,m,bad⟩ (.sl idC vC 8 0 cu.length) ds:=λobs=>(zB hlt).trans hS
     have hxC:∀obs,ext S nx obs idC=.cells vC 87 (cu.flatMap Enc.enc):=λobs=>(zB hltC).trans hC
     have hx2:∀A obs,ext (S.set idC A) nx obs id=yg ver ls ⟨pos,d,v,c,ln,m,bad⟩ (.sl idC vC 8 0 cu.length) ds:=λA obs=>by rw[zB hlt,q10 _ _ _ _ hneq,hS]
     refine za (zz (some [nx]) (Row.pures [0,1,2,3,4,6,7] (.alt 5 (.alt 8 (Row.pures [9,10,11] (.alt 12 (.done) .stop)) .stop) .stop)) mixed (yE hx1 hxC hx2 g1 g2) ?_);refine⟨by omega,?_⟩;have hcl:(cu++[(⟨2,0,[],na,nb,ne,2,nh⟩:Cust)]).flatMap Enc.enc=cu.flatMap Enc.enc++[I 2,I 0,.lst 0 [],I na,I nb,I ne,I 2,I nh]:=by rw[Ar];rfl
     have hfin:(S.set idC (.cells (vC+1) 87 (cu.flatMap Enc.enc++[I 2,I 0,.lst 0 [],I na,I nb,I ne,I 2,I nh]))).set id (.cells ver 164 [L (wl ls),I pos,I d,I v,I c,I ln,.sl idC (vC+1) 8 0 (cu.length+1),ds,I m,B bad])=(S.set id (yg ver ls ⟨pos,d,v,c,ln,m,bad⟩ (.sl idC (vC+1) 8 0 (cu.length+1)) ds)).set idC (.cells (vC+1) 87 ((cu++[(⟨2,0,[],na,nb,ne,2,nh⟩:Cust)]).flatMap Enc.enc)):=by
      rw[hcl,Store.set_comm _ idC id _ _ hneq]
     rw[hfin];refine DQ ?_;refine zg ⟨_,_,by simp;rfl,by rw[hon];exact⟨by simp[zp],by rw[Ar];rfl⟩,zR ?_⟩;exact qz (qz hd hlt _) hltC _
    ·have e2:=hnany hy;have hon:o=none:=by rw[ho,if_neg];rintro⟨_,q | q⟩;exact hf q;exact hy q
     refine za (ze [] e2 ?_);refine zm DI ?_;refine DQ ?_;refine zg ⟨_,_,by simp;rfl,by rw[hon];exact⟨by simp[zp],rfl⟩,zR hd⟩
 ·rw[ZiH h5];refine yi func143 ntmps143 results143 λnx hd=>?_
  refine DQ ?_;have h5':¬(l.length:Int)=5:=DH
  repeat apply za
  refine ze [] h5' ?_;refine zn DI ?_;refine DQ ?_;refine zg ⟨_,_,by simp;rfl,⟨by simp[zp],rfl⟩,zR hd⟩
open Go Go.Proofs
theorem XU(ls:List Ln)(p k:Nat):yQ ls p (k+1)=yQ ls p k++[zS ls (p+k)]:=by simp[yQ,AL]
theorem ZaT(ls:List Ln)(p k:Nat):(yQ ls p k).length=k:=by simp[yQ]
theorem ZiI{ls:List Ln}{p k n:Nat}{f:Ln->Bool}(hk:k<n)(h:f (zS ls (p+k))=false):(yQ ls p n).all f=false:=by
 rw[BT];exact⟨zS ls (p+k),Al.2 ⟨k,AP.2 hk,rfl⟩,by simp[h]⟩
theorem ZiJ{a b:ByteArray}(h:a≠b):(a == b)=false:=by
 have e:(a == b)=(a.data == b.data):=by cases a;cases b;rfl
 rw[e,beq_eq_false_iff_ne];exact λhh=>h (by cases a;cases b;cases hh;rfl)
abbrev XV(id ver:Nat):List (Value × PV):=[(.string ⟨#[118,105,115,105,116]⟩,.fn (.func 142) [.ptr id ver 0] []),(.string ⟨#[116,97,110,107]⟩,.fn (.func 143) [.ptr id ver 0] [])]
def jr(ls:List Ln)(d:Int)(p k:Nat):List Cust:=(yQ ls p k).map λl=>(w9 d l).1
def jN(ls:List Ln)(d:Int)(p k:Nat):Bool:=(yQ ls p k).all λl=>(w9 d l).2
theorem ZiK(ls:List Ln)(d:Int)(p k:Nat):jr ls d p (k+1)=jr ls d p k++[(w9 d (zS ls (p+k))).1]:=by simp[jr,XU]
theorem ZiL(ls:List Ln)(d:Int)(p k:Nat):jN ls d p (k+1)=(jN ls d p k && (w9 d (zS ls (p+k))).2):=by simp[jN,XU]
theorem ZiM(ls:List Ln)(d:Int)(p k:Nat):(jr ls d p k).length=k:=by simp[jr,ZaT]
theorem Ztb{S:Store}{id ver idC vC:Nat}(ls:List Ln)(r:Rdr)(n:Nat)(ds:PV)(hS:S id=yg ver ls r (.sl idC vC 8 0 0) ds)(hC:S idC=.cells vC 87 [])(hl:LnsOk ls)(hm:r.m=n)(hp:r.pos<=ls.length)(hb:r.bad=false):
  Spec prog 105 [.ptr id ver 0] S (λq S'=>if (yQ ls r.pos n).all (λl=>(wd r.d l).isSome)=true then
    q=B true/\r.pos+n<=ls.length/\S'=(S.set id (yg ver ls { r with pos:=r.pos+n,bad:=!(jN ls r.d r.pos n) } (.sl idC (vC+n) 8 0 n) ds)).set idC (.cells (vC+n) 87 ((jr ls r.d r.pos n).flatMap Enc.enc))
   else q=B false/\∃r' cs' oC,S'=(S.set id (yg ver ls r' cs' ds)).set idC oC):=by
 have hne:id≠idC:=by rintro rfl;rw[hS]at hC;simp at hC
 obtain⟨pos,d,v,c,ln,m,bad⟩:=r;simp only at hm hp hb ⊢;subst hm hb;obtain⟨o,ho⟩:∃o,o=(yQ ls pos n).all (λl=>(wd d l).isSome):=⟨_,rfl⟩;rw[<-ho];obtain⟨St,hSt⟩:∃St:Nat->Store,∀k,St k=(S.set id (yg ver ls ⟨pos+k,d,v,c,ln,n,!(jN ls d pos k)⟩ (.sl idC (vC+k) 8 0 k) ds)).set idC (.cells (vC+k) 87 ((jr ls d pos k).flatMap Enc.enc)):=⟨_,λ_=>rfl⟩;have hS0:St 0=S:=by
  rw[hSt];have e1:S.set id (yg ver ls ⟨pos+0,d,v,c,ln,n,!(jN ls d pos 0)⟩ (.sl idC (vC+0) 8 0 0) ds)=S:=Yi S id _ hS;rw[e1];exact Yi S idC _ hC
 refine yi func105 ntmps105 results105 λnx hd=>?_
 have hlt:id<nx:=qE hd hS DI;have hltC:idC<nx:=qE hd hC DI;have g1:¬nx<=id:=DH
 have g2:¬nx<=idC:=DH
 have xi:∀k,St k id=yg ver ls ⟨pos+k,d,v,c,ln,n,!(jN ls d pos k)⟩ (.sl idC (vC+k) 8 0 k) ds:=λk=>by rw[hSt,q10 _ _ _ _ hne,q11]
 have xc:∀k,St k idC=.cells (vC+k) 87 ((jr ls d pos k).flatMap Enc.enc):=λk=>by rw[hSt,q11]
 have hdS:∀k,zW nx (St k):=λk=>by rw[hSt];exact qz (qz hd hlt _) hltC _
 have x1:∀obs,ext S nx obs id=yg ver ls ⟨pos,d,v,c,ln,n,false⟩ (.sl idC vC 8 0 0) ds:=λobs=>(zB hlt).trans hS
 refine DQ ?_;refine DQ ?_;intro v0;refine λhsuf=>Yy (.inr rfl) underlying202 underlying9 rfl rfl rfl (by rw[xQ];rfl) rfl ?_
 refine⟨_,_,yc _ (Ag _) DI,zG hsuf ?_⟩;refine λhsuf=>Yy (.inr rfl) underlying202 underlying9 rfl rfl rfl (by rw[xQ];simp;rfl) (by simp[qX,qM];rfl) ?_
 refine⟨_,_,yc _ (Ag _) DI,zG hsuf ?_⟩
 repeat apply za
 refine ze [] x1 ?_;have hform:∀k r' cs',(St k).set id (yg ver ls r' cs' ds)=(S.set id (yg ver ls r' cs' ds)).set idC (.cells (vC+k) 87 ((jr ls d pos k).flatMap Enc.enc)):=λk r' cs'=>by
  rw[hSt,Store.set_comm _ idC id _ _ hne,Store.set_set]
 refine zj (jt (λk:Nat=>k<=n/\pos+k<=ls.length/\∀l∈yQ ls pos k,(wd d l).isSome=true) (λk=>[(0,.ptr id ver 0),(3,.mp nx v0),(16,I n),(17,I k)]) St (λ_=>[.map v0 (XV id ver)]) (λk=>n-k) (z8 0 [] ⟨by simp,by simpa using hp,by simp[yQ]⟩ DI hS0 rfl) ?_);rintro k ⟨hk,hpk,hall⟩;refine DQ ?_;refine za (zv rfl (λhc=>?_) (λhc=>?_))
 ·simp at hc;have hkn:k<n:=DH
  have hnext:=λS (h:S id=_)=>WU (S:=S) (id:=id) (ver:=ver) ls ⟨pos+k,d,v,c,ln,n,!(jN ls d pos k)⟩ (.sl idC (vC+k) 8 0 k) ds h hl.1
  have hla:=hl.at (pos+k);refine zh (za (zj ?_));obtain⟨S1,hS1⟩:∃S1,S1=(St k).set id (yg ver ls (yR ls ⟨pos+k,d,v,c,ln,n,!(jN ls d pos k)⟩) (.sl idC (vC+k) 8 0 k) ds):=⟨_,rfl⟩;have hd1:zW nx S1:=by rw[hS1];exact qz (hdS k) hlt _
  have hbad:wd d (zS ls (pos+k))=none->o=false:=λq=>by rw[ho];exact ZiI hkn (by rw[q];rfl)
  simp only at hnext;refine za (jP [] DM DM λK Gc Gh hK hGc hGh X hX0 hX=>?_);simp -implicitDefEqProofs [hX0,hX]
  try clear hX0 hX X
  refine hGc _ _ _ _ _ _ _ λhsuf=>((hnext _ ((zB hlt).trans (xi k))).mono ?_).v
  rintro _ _ ⟨rfl,rfl⟩;refine⟨S1,_,by rw[yZ _ hlt,<-hS1],?_⟩;clear hGc hGh;clear Gc Gh;refine jZ hsuf (D:=[]) DM λGc Gh hGc hGh X hX0 hX=>?_
  simp -implicitDefEqProofs [hX0,hX];clear hX0 hX X;refine hK _ _ _ ?_;clear hK hGc hGh;clear K Gc Gh;clear hnext hsuf;rcases hline:zS ls (pos+k) with _ | ⟨w,l'⟩
  ·have hof:=hbad (by rw[hline];rfl)
   repeat apply za
   refine zb ?_;refine zn DI ?_;refine DQ ?_;refine zg ⟨_,_,by simp;rfl,by rw[hof];simp only[AU,if_false];exact⟨by simp[zp],_,_,_,by rw[hS1];exact hform k _ _⟩,zR hd1⟩
  ·repeat apply za
   refine zb ?_;refine zm DL ?_;refine zh ?_;have hm0:ext S1 nx [.map v0 (XV id ver)] nx=.map v0 (XV id ver):=by rw[xQ];rfl
   have hp1:pos+k<ls.length:=by
    apply Dp;intro hh;unfold zS at hline;rw[Aa,An hh]at hline;cases hline
   have hnk:yR ls ⟨pos+k,d,v,c,ln,n,!(jN ls d pos k)⟩=⟨pos+k+1,d,v,c,ln,n,!(jN ls d pos k)⟩:=if_pos hp1;rw[hnk]at hS1;have hcl:=ZiM ls d pos k;have hls:=hl.1;have hS1i:S1 id=yg ver ls ⟨pos+k+1,d,v,c,ln,n,!(jN ls d pos k)⟩ (.sl idC (vC+k) 8 0 (jr ls d pos k).length) ds:=by rw[hS1,q11,hcl]
   have hS1c:S1 idC=.cells (vC+k) 87 ((jr ls d pos k).flatMap Enc.enc):=by rw[hS1,q10 _ _ _ _ (Ne.symm hne),xc]
   have hl':l'.length<=1048576/\∀u∈l',u.length<=1048576:=by
    rw[hline]at hla;exact⟨by have:=hla.1;simp at this;omega,λu hu=>hla.2 u (by simp[hu])⟩
   have htl:List.take l'.length ((l'.map bs).flatMap Enc.enc)=(l'.map bs).flatMap Enc.enc:=Af (by rw[Zav,List.length_map];exact Ag _);have hLL:L (l'.map bs)=.lst l'.length ((l'.map bs).flatMap Enc.enc):=by unfold L;rw[List.length_map]
   have hset1:∀r' cs',S1.set id (yg ver ls r' cs' ds)=(S.set id (yg ver ls r' cs' ds)).set idC (.cells (vC+k) 87 ((jr ls d pos k).flatMap Enc.enc)):=λr' cs'=>by rw[hS1,Store.set_set,hform]
   have hset2:∀r' cs' oC,(S1.set id (yg ver ls r' cs' ds)).set idC oC=(S.set id (yg ver ls r' cs' ds)).set idC oC:=λr' cs' oC=>by rw[hset1,Store.set_set]
   obtain⟨zf,hzf⟩:∃z,Program.zeroOf prog 201=some z:=B0.1 DK;have q1:w≠vN->(bs w == ⟨#[118,105,115,105,116]⟩)=false:=λh=>ZiJ λhh=>h (XO.1 hh)
   have q2:w≠QO->(bs w == ⟨#[116,97,110,107]⟩)=false:=λh=>ZiJ λhh=>h (XO.1 hh)
   by_cases hv:w=vN
   ·have hf:qX .string (.string (bs w)) (XV id ver) 0=some (some (0,.fn (.func 142) [.ptr id ver 0] [])):=by rw[hv];rfl
    refine DQ ?_;refine λhsuf=>Zj rfl underlying202 underlying9 rfl rfl rfl hm0 hf hzf ?_
    refine⟨_,_,rfl,?_⟩;have hlk:ZQ true zf (some (0,.fn (.func 142) [.ptr id ver 0] []))=.tup [.fn (.func 142) [.ptr id ver 0] [],B true]:=rfl;refine jH [] hlk hsuf ?_;have hvis:=λS (h1:S id=_) (h2:S idC=_)=>Zs9 (S:=S) (id:=id) (ver:=ver) (idC:=idC) (vC:=vC+k) ls ⟨pos+k+1,d,v,c,ln,n,!(jN ls d pos k)⟩ (jr ls d pos k) ds l' h1 h2 (by rw[hcl];omega) hl'
    have hcz:wd d (zS ls (pos+k))=QP d l':=by rw[hline];exact if_pos hv
    simp only[hLL]at hvis;cases hvz:QP d l' with
    | none =>
     have hof:=hbad (by rw[hcz,hvz]);rw[hvz]at hvis;simp only at hvis;refine za (ze [(2,34)] htl ?_);refine λhsuf=>((hvis _ ((zB hlt).trans hS1i) ((zB hltC).trans hS1c)).mono ?_).v
     rintro _ _ ⟨rfl,b,rfl⟩;refine⟨_,_,yZ _ hlt,jH [(2,34)] trivial hsuf ?_⟩;refine zn DI ?_;refine DQ ?_;refine zg ⟨_,_,by simp;rfl,by rw[hof];simp only[AU,if_false];exact⟨by simp[zp],_,_,_,hset1 _ _⟩,zR (qz hd1 hlt _)⟩
    | some cc =>
     obtain⟨cu1,ok1⟩:=cc;rw[hvz]at hvis;simp only at hvis;refine za (ze [(2,34)] htl ?_);refine λhsuf=>((hvis _ ((zB hlt).trans hS1i) ((zB hltC).trans hS1c)).mono ?_).v
     rintro _ _ ⟨rfl,rfl⟩;refine⟨_,_,by rw[yZ _ hlt,yZ _ hltC],jH [(2,34)] trivial hsuf ?_⟩;refine zm DI ?_;refine zh (zb ?_);have hcv:w9 d (zS ls (pos+k))=(cu1,ok1):=by unfold w9;rw[hcz,hvz];rfl
     have hst:St (k+1)=(S1.set id (yg ver ls ⟨pos+k+1,d,v,c,ln,n,!(jN ls d pos k) || !ok1⟩ (.sl idC (vC+k+1) 8 0 ((jr ls d pos k).length+1)) ds)).set idC (.cells (vC+k+1) 87 ((jr ls d pos k++[cu1]).flatMap Enc.enc)):=by
      rw[hset2,hSt,ZiL,ZiK,hcv,hcl,Bool.not_and];rfl
     exact zq (k+1) [] ⟨hkn,hp1,λl hlm=>by
      rw[XU,AB]at hlm;rcases hlm with q | q
      ·exact hall l q
      ·obtain rfl:l=zS ls (pos+k):=by simpa using q
       rw[hcz,hvz];rfl⟩ DH (by simp[zu k (by omega)]) (hst.trans (by rw[Ar];rfl)) rfl
   ·by_cases hk:w=QO
    ·have hf:qX .string (.string (bs w)) (XV id ver) 0=some (some (1,.fn (.func 143) [.ptr id ver 0] [])):=by rw[hk];rfl
     refine DQ ?_;refine λhsuf=>Zj rfl underlying202 underlying9 rfl rfl rfl hm0 hf hzf ?_
     refine⟨_,_,rfl,?_⟩;have hlk:ZQ true zf (some (1,.fn (.func 143) [.ptr id ver 0] []))=.tup [.fn (.func 143) [.ptr id ver 0] [],B true]:=rfl;refine jH [] hlk hsuf ?_;have htan:=λS (h1:S id=_) (h2:S idC=_)=>Zta (S:=S) (id:=id) (ver:=ver) (idC:=idC) (vC:=vC+k) ls ⟨pos+k+1,d,v,c,ln,n,!(jN ls d pos k)⟩ (jr ls d pos k) ds l' h1 h2 (by rw[hcl];omega) hl'
     have hcz:wd d (zS ls (pos+k))=(YW l').map (·,true):=by rw[hline];exact(if_neg hv).trans (if_pos hk)
     simp only[hLL]at htan;cases hvz:YW l' with
     | none =>
      have hof:=hbad (by rw[hcz,hvz];rfl);rw[hvz]at htan;simp only at htan;refine za (ze [(2,34)] htl ?_);refine λhsuf=>((htan _ ((zB hlt).trans hS1i) ((zB hltC).trans hS1c)).mono ?_).v
      rintro _ _ ⟨rfl,rfl⟩;refine⟨_,_,rfl,jH [(2,34)] trivial hsuf ?_⟩;refine zn DI ?_;refine DQ ?_;refine zg ⟨_,_,by simp;rfl,by rw[hof];simp only[AU,if_false];exact⟨by simp[zp],_,_,_,by rw[hS1];exact hform k _ _⟩,zR hd1⟩
     | some cu1 =>
      rw[hvz]at htan;simp only at htan;refine za (ze [(2,34)] htl ?_);refine λhsuf=>((htan _ ((zB hlt).trans hS1i) ((zB hltC).trans hS1c)).mono ?_).v
      rintro _ _ ⟨rfl,rfl⟩;refine⟨_,_,by rw[yZ _ hlt,yZ _ hltC],jH [(2,34)] trivial hsuf ?_⟩;refine zm DI ?_;refine zh (zb ?_);have hcv:w9 d (zS ls (pos+k))=(cu1,true):=by unfold w9;rw[hcz,hvz];rfl
      have hst:St (k+1)=(S1.set id (yg ver ls ⟨pos+k+1,d,v,c,ln,n,!(jN ls d pos k)⟩ (.sl idC (vC+k+1) 8 0 ((jr ls d pos k).length+1)) ds)).set idC (.cells (vC+k+1) 87 ((jr ls d pos k++[cu1]).flatMap Enc.enc)):=by
       rw[hset2,hSt,ZiL,ZiK,hcv,hcl,DE];rfl
      exact zq (k+1) [] ⟨hkn,hp1,λl hlm=>by
       rw[XU,AB]at hlm;rcases hlm with q | q
       ·exact hall l q
       ·obtain rfl:l=zS ls (pos+k):=by simpa using q
        rw[hcz,hvz];rfl⟩ DH (by simp[zu k (by omega)]) (hst.trans (by rw[Ar];rfl)) rfl
    ·have hf:qX .string (.string (bs w)) (XV id ver) 0=some none:=by
      simp[qX,Instr.sameNow,q1 hv,q2 hk]
     have hcz:wd d (zS ls (pos+k))=none:=by rw[hline];exact(if_neg hv).trans (if_neg hk)
     have hof:=hbad hcz;refine DQ ?_;refine λhsuf=>Zj rfl underlying202 underlying9 rfl rfl rfl hm0 hf hzf ?_
     refine⟨_,_,rfl,?_⟩;have hlk:ZQ true zf none=.tup [Qd zf,B false]:=rfl;refine jH [] hlk hsuf ?_;refine za (ze [(2,34)] zN ?_);refine zn DI ?_;refine DQ ?_;refine zg ⟨_,_,by simp;rfl,by rw[hof];simp only[AU,if_false];exact⟨by simp[zp],_,_,_,by rw[hS1];exact hform k _ _⟩,zR hd1⟩
 ·simp at hc;obtain rfl:k=n:=DH
  have hot:o=true:=by rw[ho,Ay];exact hall
  refine zx (DQ ?_);refine zg ⟨_,_,by simp;rfl,by rw[hot];simp only[if_true];exact⟨by simp[zp],hpk,hSt _⟩,zR (hdS _)⟩
def xC(ls:List Ln)(p k:Nat):List (List Int):=(yQ ls p k).map λl=>l.map yO
theorem Ztc(ls:List Ln)(p k:Nat):xC ls p (k+1)=xC ls p k++[(zS ls (p+k)).map yO]:=by simp[xC,XU]
theorem ZiN(ls:List Ln)(p k:Nat):(xC ls p k).length=k:=by simp[xC,ZaT]
theorem Ztd{S:Store}{id ver idD vD:Nat}(ls:List Ln)(r:Rdr)(n:Nat)(cs:PV)(hS:S id=yg ver ls r cs (.sl idD vD 1 0 0))(hD:S idD=.cells vD 26 [])(hl:LnsOk ls)(hm:r.m=n)(hn:n<=1048576)(hp:r.pos<=ls.length):
  Spec prog 106 [.ptr id ver 0] S (λq S'=>if zS ls r.pos=[jq]/\(yQ ls (r.pos+1) (n+1)).all (vf (n+1))=true then
    q=B true/\r.pos+1+(n+1)<=ls.length/\S'=(S.set id (yg ver ls { r with pos:=r.pos+1+(n+1) } cs (.sl idD (vD+(n+1)) 1 0 (n+1)))).set idD (.cells (vD+(n+1)) 26 ((xC ls (r.pos+1) (n+1)).flatMap Enc.enc))
   else q=B false/\∃r' ds' oD,S'=(S.set id (yg ver ls r' cs ds')).set idD oD):=by
 have hne:id≠idD:=by rintro rfl;rw[hS]at hD;simp at hD
 obtain⟨pos,d,v,c,ln,m,bad⟩:=r;simp only at hm hp ⊢;subst hm;obtain⟨o,ho⟩:∃o:Bool,o=(decide (zS ls pos=[jq]) && (yQ ls (pos+1) (n+1)).all (vf (n+1))):=⟨_,rfl⟩;have hiff:(zS ls pos=[jq]/\(yQ ls (pos+1) (n+1)).all (vf (n+1))=true)<->o=true:=by rw[ho,Aw,decide_eq_true_eq]
 simp only[hiff];obtain⟨St,hSt⟩:∃St:Nat->Store,∀k,St k=(S.set id (yg ver ls ⟨pos+1+k,d,v,c,ln,n,bad⟩ cs (.sl idD (vD+k) 1 0 k))).set idD (.cells (vD+k) 26 ((xC ls (pos+1) k).flatMap Enc.enc)):=⟨_,λ_=>rfl⟩;have hnext0:=λS (h:S id=_)=>WU (S:=S) (id:=id) (ver:=ver) ls ⟨pos,d,v,c,ln,n,bad⟩ cs (.sl idD vD 1 0 0) h hl.1
 have heq:=ZiE (zS ls pos) [jq] (hl.at pos).1 DI;obtain⟨S1,hS1⟩:∃S1,S1=S.set id (yg ver ls (yR ls ⟨pos,d,v,c,ln,n,bad⟩) cs (.sl idD vD 1 0 0)):=⟨_,rfl⟩;have hS1d:S1 idD=.cells vD 26 []:=by rw[hS1,q10 _ _ _ _ (Ne.symm hne),hD]
 refine yi func106 ntmps106 results106 λnx hd=>?_
 have hlt:id<nx:=qE hd hS DI;have hltD:idD<nx:=qE hd hD DI;have g1:¬nx<=id:=DH
 have g2:¬nx<=idD:=DH
 have hd1:zW nx S1:=by rw[hS1];exact qz hd hlt _
 have hdS:∀k,zW nx (St k):=λk=>by rw[hSt];exact qz (qz hd hlt _) hltD _
 simp only at hnext0;refine DQ ?_
 repeat apply za
 refine zb ?_;refine λhsuf=>((hnext0 _ ((zB hlt).trans hS)).mono ?_).v
 rintro _ _ ⟨rfl,rfl⟩;refine⟨S1,[],by rw[yZ _ hlt,<-hS1],zG hsuf ?_⟩;refine λhsuf=>((heq _).mono ?_).v
 rintro _ _ ⟨rfl,rfl⟩;refine⟨_,_,rfl,zG hsuf ?_⟩
 by_cases hw:zS ls pos=[jq]
 ·have hp1:pos<ls.length:=by
   apply Dp;intro hh;unfold zS at hw;rw[Aa,An hh]at hw;cases hw
  have hnk:yR ls ⟨pos,d,v,c,ln,n,bad⟩=⟨pos+1,d,v,c,ln,n,bad⟩:=if_pos hp1;rw[hnk]at hS1;have hS10:St 0=S1:=by
   rw[hSt,hS1];refine Yi _ idD _ ?_;rw[q10 _ _ _ _ (Ne.symm hne),hD];rfl
  have x1:∀obs,ext S1 nx obs id=yg ver ls ⟨pos+1,d,v,c,ln,n,bad⟩ cs (.sl idD vD 1 0 0):=λobs=>by rw[zB hlt,hS1,q11]
  have xi:∀k,St k id=yg ver ls ⟨pos+1+k,d,v,c,ln,n,bad⟩ cs (.sl idD (vD+k) 1 0 k):=λk=>by rw[hSt,q10 _ _ _ _ hne,q11]
  have xd:∀k,St k idD=.cells (vD+k) 26 ((xC ls (pos+1) k).flatMap Enc.enc):=λk=>by rw[hSt,q11]
  have wn:IntKind.i64.wrap ((n:Int)+1)=(n:Int)+1:=by rw[AC];omega
  refine zm (by simp[hw]) ?_;refine zh ?_
  repeat apply za
  refine ze [] (zo x1 wn) ?_;refine zj (jt (λk:Nat=>k<=n+1/\pos+1+k<=ls.length/\∀l∈yQ ls (pos+1) k,vf (n+1) l=true) (λk=>[(0,.ptr id ver 0),(14,I ((n:Int)+1)),(15,I k)]) St (λ_=>[]) (λk=>n+1-k) (z8 0 [] ⟨by simp,by omega,by simp[yQ]⟩ DI hS10 rfl) ?_);rintro k ⟨hk,hpk,hall⟩;refine DQ ?_
  by_cases hkn:k<n+1
  ·have hki:(k:Int)<(n:Int)+1:=DH
   have hnext:=λS (h:S id=_)=>WU (S:=S) (id:=id) (ver:=ver) ls ⟨pos+1+k,d,v,c,ln,n,bad⟩ cs (.sl idD (vD+k) 1 0 k) h hl.1
   have hla:=hl.at (pos+1+k);have hnum:=Zdu (zS ls (pos+1+k)) hla.1 (λw hw=>by have:=hla.2 w hw;omega);obtain⟨S2,hS2⟩:∃S2,S2=(St k).set id (yg ver ls (yR ls ⟨pos+1+k,d,v,c,ln,n,bad⟩) cs (.sl idD (vD+k) 1 0 k)):=⟨_,rfl⟩;have hd2:zW nx S2:=by rw[hS2];exact qz (hdS k) hlt _
   have hform:∀r' ds',(St k).set id (yg ver ls r' cs ds')=(S.set id (yg ver ls r' cs ds')).set idD (.cells (vD+k) 26 ((xC ls (pos+1) k).flatMap Enc.enc)):=λr' ds'=>by
    rw[hSt,Store.set_comm _ idD id _ _ hne,Store.set_set]
   have hbad:vf (n+1) (zS ls (pos+1+k))=false->o=false:=λq=>by rw[ho,ZiI hkn q,Dc]
   simp only at hnext;refine za (zn DL ?_);refine zh (za (zj ?_));obtain⟨p2,hr2⟩:∃p2,yR ls ⟨pos+1+k,d,v,c,ln,n,bad⟩=⟨p2,d,v,c,ln,n,bad⟩:=by
    unfold yR;split
    ·exact⟨_,rfl⟩
    ·exact⟨_,rfl⟩
   have hp2:pos+1+k<ls.length->p2=pos+1+k+1:=λh=>by
    unfold yR at hr2;rw[if_pos h]at hr2;exact(congrArg Rdr.pos hr2).symm
   rw[hr2]at hS2 hnext;have x2:∀obs,ext S2 nx obs id=yg ver ls ⟨p2,d,v,c,ln,n,bad⟩ cs (.sl idD (vD+k) 1 0 k):=λobs=>by rw[zB hlt,hS2,q11]
   cases hz:jB (zS ls (pos+1+k)) with
   | none =>
    have hof:=hbad (by unfold vf;rw[hz];rfl);rw[hz]at hnum;simp only[vp]at hnum;refine DQ ?_;refine λhsuf=>((hnext _ ((zB hlt).trans (xi k))).mono ?_).v
    rintro _ _ ⟨rfl,rfl⟩;refine⟨S2,_,by rw[yZ _ hlt,<-hS2],zG hsuf ?_⟩;refine λhsuf=>((hnum _).mono ?_).v
    rintro _ _ ⟨rfl,rfl⟩;refine⟨_,_,rfl,zG hsuf ?_⟩
    repeat apply za
    refine ze [(2,25)] zN ?_;refine zn DI ?_;refine DQ ?_;refine zg ⟨_,_,by simp;rfl,by rw[hof];simp only[AU,if_false];exact⟨by simp[zp],_,_,_,by rw[hS2];exact hform _ _⟩,zR hd2⟩
   | some z =>
    have hzl:=Zii hz;rw[hz]at hnum;simp only[vp]at hnum;refine DQ ?_;refine λhsuf=>((hnext _ ((zB hlt).trans (xi k))).mono ?_).v
    rintro _ _ ⟨rfl,rfl⟩;refine⟨S2,_,by rw[yZ _ hlt,<-hS2],zG hsuf ?_⟩;refine λhsuf=>((hnum _).mono ?_).v
    rintro _ _ ⟨rfl,rfl⟩;refine⟨_,_,rfl,zG hsuf ?_⟩
    by_cases hlen:z.length=n+1
    ·have hll:(z.length:Int)=(n:Int)+1:=DH
     repeat apply za
     refine ze [(2,25)] (zF x2 wn hll) ?_;refine zm DI ?_;refine zh ?_;have hll2:(zS ls (pos+1+k)).length=n+1:=by rw[<-hzl];exact hlen
     have hpl:pos+1+k<ls.length:=by
      apply Dp;intro hh;unfold zS at hll2;rw[Aa,An hh]at hll2;simp at hll2
     obtain rfl:=hp2 hpl;have hzv:z=(zS ls (pos+1+k)).map yO:=by
      unfold jB at hz;split at hz<;>cases hz;rfl
     have hdl:=ZiN ls (pos+1) k;have hfl:((xC ls (pos+1) k).flatMap Enc.enc).length=k:=by rw[jR,hdl]
     have htk:List.take k ((xC ls (pos+1) k).flatMap Enc.enc)=(xC ls (pos+1) k).flatMap Enc.enc:=Af (by rw[hfl];exact Ag _);have xd2:∀obs,ext S2 nx obs idD=.cells (vD+k) 26 ((xC ls (pos+1) k).flatMap Enc.enc):=λobs=>by rw[zB hltD,hS2,q10 _ _ _ _ (Ne.symm hne),xd]
     have x3:∀A obs,ext (S2.set idD A) nx obs id=yg ver ls ⟨pos+1+k+1,d,v,c,ln,n,bad⟩ cs (.sl idD (vD+k) 1 0 k):=λA obs=>by rw[zB hlt,q10 _ _ _ _ hne,hS2,q11]
     have hkb:k<=1048576:=DH
     clear hfl;refine ze [] (yl x2 xd2 x3 g1 g2 htk) ?_;refine⟨by omega,?_⟩;have hst:St (k+1)=(S2.set idD (.cells (vD+k+1) 26 ((xC ls (pos+1) k).flatMap Enc.enc++[L z]))).set id (.cells ver 164 [L (wl ls),I ((pos:Int)+1+k+1),I d,I v,I c,I ln,cs,.sl idD (vD+k+1) 1 0 (k+1),I n,B bad]):=by
      have e:(.cells ver 164 [L (wl ls),I ((pos:Int)+1+k+1),I d,I v,I c,I ln,cs,.sl idD (vD+k+1) 1 0 (k+1),I n,B bad]:Ob)=yg ver ls ⟨pos+1+k+1,d,v,c,ln,n,bad⟩ cs (.sl idD (vD+k+1) 1 0 (k+1)):=rfl;rw[e,hS2,Store.set_comm _ idD id _ _ hne,Store.set_set,hform,Store.set_set,hSt,Ztc,Ar,<-hzv];rfl
     rw[<-hst];refine zb ?_;exact zq (k+1) [] ⟨hkn,hpl,λl hlm=>by
      rw[XU,AB]at hlm;rcases hlm with q | q
      ·exact hall l q
      ·obtain rfl:l=zS ls (pos+1+k):=by simpa using q
       unfold vf;rw[hz,decide_eq_true hll2];rfl⟩ DH (by simp[zu k (by omega)]) rfl rfl
    ·have hll:¬(z.length:Int)=(n:Int)+1:=DH
     have hof:=hbad (by unfold vf;rw[hz,<-hzl,decide_eq_false hlen];rfl)
     repeat apply za
     refine ze [(2,25)] (zF x2 wn hll) ?_;refine zn DI ?_;refine DQ ?_;refine zg ⟨_,_,by simp;rfl,by rw[hof];simp only[AU,if_false];exact⟨by simp[zp],_,_,_,by rw[hS2];exact hform _ _⟩,zR hd2⟩
  ·obtain rfl:k=n+1:=DH
   have hot:o=true:=by rw[ho,decide_eq_true hw,Ay.2 hall];rfl
   refine za (zm DI ?_);refine zx (DQ ?_);refine zg ⟨_,_,by simp;rfl,by rw[hot];simp only[if_true];exact⟨by simp[zp],hpk,hSt _⟩,zR (hdS _)⟩
 ·have hof:o=false:=by rw[ho,decide_eq_false hw,Db]
  refine zn (by simp[hw]) ?_;refine DQ ?_;refine zg ⟨_,_,by simp;rfl,by rw[hof];simp only[AU,if_false];exact⟨by simp[zp],_,_,_,(by rw[<-hS1];exact(Yi S1 idD _ hS1d).symm)⟩,zR hd1⟩
open Go Go.Proofs
abbrev RdX:=Rdr × List Cust × List (List Int)
def r0:Rdr:=⟨0,0,0,0,0,0,false⟩
def wH(ls:List Ln)(k:Nat)(x:RdX):Option RdX:=match k with
 | 0=>if zS ls x.1.pos=[xX,[49]] then some (yR ls x.1,x.2) else none
 | 1=>match qa (zS ls x.1.pos) [xY,xZ,x7,x8] with
  | some [d,v,c,l]=>some ({ yR ls x.1 with d:=d,v:=v,c:=c,l:=l },x.2)
  | _=>none
 | 2=>match qa (zS ls x.1.pos) [x9] with
  | some [m]=>some ({ yR ls x.1 with m:=m },x.2)
  | _=>none
 | 3=>if (yQ ls x.1.pos x.1.m.toNat).all (λl=>(wd x.1.d l).isSome)=true then some ({ x.1 with pos:=x.1.pos+x.1.m.toNat,bad:=!(jN ls x.1.d x.1.pos x.1.m.toNat) },jr ls x.1.d x.1.pos x.1.m.toNat,x.2.2) else none
 | 4=>if zS ls x.1.pos=[jq]/\(yQ ls (x.1.pos+1) (x.1.m.toNat+1)).all (vf (x.1.m.toNat+1))=true then some ({ x.1 with pos:=x.1.pos+1+(x.1.m.toNat+1) },x.2.1,xC ls (x.1.pos+1) (x.1.m.toNat+1)) else none
 | 5=>if x.1.pos=ls.length then some x else none
 | _=>some x
def yD(ls:List Ln):Nat->Option RdX
 | 0=>some (r0,[],[])
 | k+1=>(yD ls k).bind (wH ls k)
theorem XW{ls:List Ln}{r:Rdr}(h:zS ls r.pos≠[]):yR ls r={ r with pos:=r.pos+1 }/\r.pos+1<=ls.length:=by
 by_cases hp:r.pos<ls.length
 ·exact⟨if_pos hp,hp⟩
 simp_all[zS]
theorem ZaV{l:Ln}{names:Ln}{z:List Int}(h:qa l names=some z)(hn:names≠[]):l≠[]:=by grind[qa,JC]
theorem ZiO(w:Wd):0<=yO w:=by simp[yO]
theorem ZiP{l names:Ln}{z:List Int}(h:qa l names=some z):∀x∈z,0<=x:=by
 unfold qa jB at h;split at h
 ·split at h
  ·cases h;simp[ZiO]
  ·cases h
 ·cases h
theorem Zte(ls:List Ln):YX ls=(yD ls 6).map λx=>(⟨x.1.d,x.1.v,x.1.c,x.1.l,x.2.1,x.2.2⟩,!x.1.bad):=by
 unfold YX
 by_cases h0:zS ls 0=[xX,[49]]
 ·obtain⟨p0,q0⟩:=XW (ls:=ls) (r:=r0) (by show zS ls 0≠[];rw[h0];simp);have s1:yD ls 1=some (⟨1,0,0,0,0,0,false⟩,[],[]):=by
   show (if zS ls r0.pos=[xX,[49]] then some (yR ls r0,_) else none)=_
   rw[p0];exact if_pos h0
  rw[if_pos h0];cases h1:qa (zS ls 1) [xY,xZ,x7,x8] with
  | none =>
   simp_all[yD,wH]
  | some z =>
   obtain⟨d,v,c,l,rfl⟩:∃d v c l,z=[d,v,c,l]:=by
    have:=XT h1
    match z,this with
    | [d,v,c,l],_=>simp
   obtain⟨p1,q1⟩:=XW (ls:=ls) (r:=⟨1,0,0,0,0,0,false⟩) (ZaV h1 DI);have s2:yD ls 2=some (⟨2,d,v,c,l,0,false⟩,[],[]):=by
    show (yD ls 1).bind (wH ls 1)=_
    rw[s1]
    show (match qa (zS ls 1) _ with | some [d,v,c,l]=>some ({ yR ls _ with d:=d,v:=v,c:=c,l:=l },_) | _=>none)=_
    rw[h1,p1]
   simp only[];cases h2:qa (zS ls 2) [x9] with
   | none =>
    simp_all[yD,wH]
   | some z2 =>
    obtain⟨m,rfl⟩:∃m,z2=[m]:=by
     have:=XT h2
     match z2,this with
     | [m],_=>simp
    obtain⟨p2,q2⟩:=XW (ls:=ls) (r:=⟨2,d,v,c,l,0,false⟩) (ZaV h2 DI);have s3:yD ls 3=some (⟨3,d,v,c,l,m,false⟩,[],[]):=by
     show (yD ls 2).bind (wH ls 2)=_
     rw[s2]
     show (match qa (zS ls 2) _ with | some [m]=>some ({ yR ls _ with m:=m },_) | _=>none)=_
     rw[h2,p2]
    simp only[]
    by_cases h3:(yQ ls 3 m.toNat).all (λl=>(wd d l).isSome)=true
    ·have s4:yD ls 4=some (⟨3+m.toNat,d,v,c,l,m,!(jN ls d 3 m.toNat)⟩,jr ls d 3 m.toNat,[]):=by
      show (yD ls 3).bind (wH ls 3)=_
      rw[s3];exact if_pos h3
     by_cases h4:zS ls (3+m.toNat)=[jq]/\(yQ ls (4+m.toNat) (m.toNat+1)).all (vf (m.toNat+1))=true
     ·have e4:3+m.toNat+1=4+m.toNat:=DH
      have s5:yD ls 5=some (⟨4+m.toNat+(m.toNat+1),d,v,c,l,m,!(jN ls d 3 m.toNat)⟩,jr ls d 3 m.toNat,xC ls (4+m.toNat) (m.toNat+1)):=by
       show (yD ls 4).bind (wH ls 4)=_
       rw[s4]
       show (if zS ls (3+m.toNat)=[jq]/\(yQ ls (3+m.toNat+1) (m.toNat+1)).all (vf (m.toNat+1))=true then some ((⟨3+m.toNat+1+(m.toNat+1),d,v,c,l,m,!(jN ls d 3 m.toNat)⟩:Rdr),jr ls d 3 m.toNat,xC ls (3+m.toNat+1) (m.toNat+1)) else none)=_
       rw[e4];exact if_pos h4
      by_cases h5:ls.length=5+2*m.toNat
      ·have s6:yD ls 6=some (⟨4+m.toNat+(m.toNat+1),d,v,c,l,m,!(jN ls d 3 m.toNat)⟩,jr ls d 3 m.toNat,xC ls (4+m.toNat) (m.toNat+1)):=by
        show (yD ls 5).bind (wH ls 5)=_
        rw[s5];exact if_pos DO
       rw[if_pos ⟨h3,h4.1,h4.2,h5⟩,s6];simp only[A9,Bool.not_not];rfl
      ·have s6:yD ls 6=none:=by
        show (yD ls 5).bind (wH ls 5)=_
        rw[s5];exact if_neg (by show ¬4+m.toNat+(m.toNat+1)=ls.length;omega)
       simp_all
     ·have s5:yD ls 5=none:=by
       show (yD ls 4).bind (wH ls 4)=_
       rw[s4];exact if_neg (by show ¬(zS ls (3+m.toNat)=_/\(yQ ls (3+m.toNat+1) _).all _=true);rw[show 3+m.toNat+1=4+m.toNat by omega];exact h4)
      have s6:yD ls 6=none:=by
       show (yD ls 5).bind _=none
       rw[s5];rfl
      grind
    ·have s4:yD ls 4=none:=by
      show (yD ls 3).bind (wH ls 3)=_
      rw[s3];exact if_neg h3
     have s6:yD ls 6=none:=by
      show ((yD ls 4).bind _).bind _=none
      rw[s4];rfl
     grind
 ·have s1:yD ls 1=none:=by
   show (if zS ls r0.pos=[xX,[49]] then some (yR ls r0,_) else none)=_
   exact if_neg h0
  simp_all[yD]
theorem Ztf{l:Ln}{w:Wd}(h:w∈l):w.length<=(zO l).length:=by
 rw[WS];have:w.length<=(l.map List.length).sum:=by
  induction l with
  | nil=>cases h
  | cons a l ih =>
   grind
 omega
theorem Ztg{ls:List Ln}{l:Ln}(h:l∈ls):(zO l).length+1<=(yd ls).length:=by induction ls<;>grind[Yb]
theorem Zth(ls:List Ln):ls.length<=(yd ls).length:=by induction ls<;>grind[Yb]
theorem Zti{t:List UInt8}{ls:List Ln}(h:xW t=some ls)(hl:t.length<=1048576):LnsOk ls:=by
 obtain⟨h1,_,_⟩:=ZqT t.length (Ag _) h;refine⟨by grind[Zth],λl hm=>?_⟩;have h2:=Ztg hm;rw[h1]at h2;exact⟨by grind[WS],λw hw=>by have:=Ztf hw;omega⟩
theorem JF(w:Wd):zP (yO w):=by
 have h0:=ZiO w;unfold yO at h0 ⊢;cases h:jV w with
 | none=>exact⟨by simp,by simp⟩
 | some n =>
  have:=ZqV h
  show -9223372036854775808<=(n:Int)/\(n:Int)<=9223372036854775807
  omega
theorem Ztj{l names:Ln}{z:List Int}(h:qa l names=some z):∀x∈z,zP x:=by grind[qa,jB,JF]
theorem Ztk(w:Wd):jX w<2 ^ 64:=by grind[jX,ZaM]
theorem Ztl{d:Int}{l:Ln}{x:Cust × Bool}(h:wd d l=some x)(hl:l.length<=1048576):CustOk x.1:=by
 have z0:zP 0:=⟨by decide,by decide⟩;have z1:zP 1:=⟨by decide,by decide⟩;have z2:zP 2:=⟨by decide,by decide⟩
 match l,h,hl with
 | w :: l',h,hl =>
 have h':(if w=vN then QP d l' else if w=QO then (YW l').map (·,true) else none)=some x:=h;split at h'
 ·match l',h',hl with
  | dw :: ps,h',hl =>
  rw[Zdg]at h';split at h'
  ·cases h';refine⟨z1,JF dw,?_,?_,z0,z0,z0,z0,z0⟩
   ·intro p hp;obtain⟨u,_,rfl⟩:=Al.1 hp;exact Ztk u
   ·show (ps.map jX).length<=_
    simp at hl ⊢;omega
  ·cases h'
 ·split at h'
  ·obtain⟨c,hc,rfl⟩:=Ao.1 h'
   by_cases h5:l'.length=5
   ·obtain⟨a,b,e,ru,hh,rfl⟩:∃a b c d e,l'=[a,b,c,d,e]:=by
     match l',h5 with
     | [a,b,c,d,e],_=>exact⟨a,b,c,d,e,rfl⟩
    rw[Zdh]at hc;split at hc
    ·cases hc;refine⟨z2,z0,by simp,by simp,JF _,JF _,JF _,?_,JF _⟩
     show zP (XJ ru)
     unfold XJ;split
     ·exact⟨by decide,by decide⟩
     ·exact⟨by decide,by decide⟩
    ·cases hc
   simp_all[ZiH]
  ·cases h'
theorem Ztm{ls:List Ln}{x:Inst}{b:Bool}(h:YX ls=some (x,b))(hl:LnsOk ls):InstOk x:=by
 unfold YX at h;split at h
 ·split at h
  ·rename_i d v c l h1;split at h
   ·rename_i m h2;split at h
    ·rename_i hh;obtain⟨e1,e2,e3,e4⟩:=hh;cases h;have q:=Ztj h1;have hmn:m.toNat<=1048576:=by have:=hl.1;omega
     refine⟨q d DI,q v DI,q c DI,q l DI,?_,?_,?_,?_⟩
     ·grind[ZaT]
     ·intro cu hcu;obtain⟨line,hm,rfl⟩:=Al.1 hcu;have hs:=Ay.1 e1 line hm;obtain⟨k,_,rfl⟩:=Al.1 hm;obtain⟨y,hy⟩:=B0.1 hs;have:w9 d (zS ls (3+k))=y:=by unfold w9;rw[hy];rfl
      rw[this];exact Ztl hy (hl.at _).1
     ·grind[ZaT]
     ·intro r hr;obtain⟨line,hm,rfl⟩:=Al.1 hr;obtain⟨k,_,rfl⟩:=Al.1 hm;refine⟨by have:=(hl.at (4+m.toNat+k)).1;simp;omega,λz hz=>?_⟩
      grind[JF]
    ·cases h
   ·cases h
  ·cases h
 ·cases h
open Go Go.Proofs
theorem WX{ls:List Ln}{k:Nat}(h:yD ls k=none)(hk:k<=6):yD ls 6=none:=by
 have:∀j,yD ls (k+j)=none:=by
  intro j
  induction j with
  | zero=>exact h
  | succ j ih=>show (yD ls (k+j)).bind _=none;rw[ih];rfl
 have:=this (6-k)
 rwa[Nat.add_sub_cancel' hk]at this
def ZiQ(ls:List Ln)(k:Nat)(x:RdX):Prop :=
 x.1.pos<=ls.length/\(k<=3->x.2.1=[]/\x.1.bad=false)/\(k<=4->x.2.2=[])/\0<=x.1.m/\(k=4->x.1.m.toNat<=1048576)
theorem Ztn(t:List UInt8)(hl:t.length<=1048576):Pure prog 65 [T (bs t)] (.tup [.agg (zy (qp t).1),I (qp t).2]):=by
 have hlines:=ZsT t hl;cases hz:xW t with
 | none =>
  rw[hz]at hlines;simp only[ZaR]at hlines;have hp:qp t=(zI,2):=by unfold qp;rw[hz]
  rw[hp];refine zt func65 ntmps65 results65 λS nx hd=>?_
  refine DQ ?_;intro v0;refine DQ ?_;refine zr hlines ?_
  repeat apply za
  refine zb ?_;refine zn DI ?_;refine DQ ?_;refine qk 0 4 rfl rfl ?_;refine qk 0 5 rfl rfl ?_;exact zg (zi hd DJ (by simp[zI,zp]))
 | some ls =>
  rw[hz]at hlines;simp only[ZaR]at hlines;have hfit:=Zti hz hl;have hp:qp t=match YX ls with
   | none=>(zI,2)
   | some (x,ok)=>if ok=true/\jo x=true then (x,0) else (zI,3):=by unfold qp;rw[hz];rfl
  have hrs:=Zte ls;obtain⟨res,hres⟩:∃res,res=qp t:=⟨_,rfl⟩;rw[<-hres];rw[<-hres]at hp;have hno:yD ls 6=none->res=(zI,2):=λh=>by rw[hp,hrs,h];rfl
  refine zt func65 ntmps65 results65 λS nx hd=>?_
  refine DQ ?_;intro v0;refine DQ ?_;refine zr hlines ?_
  repeat apply za
  refine zb ?_;refine zm DI ?_;refine zh (DQ ?_);intro v1;refine qQ 1 6 87 8 rfl rfl λw0=>?_
  refine qQ 1 7 26 1 rfl rfl λw1=>?_
  repeat apply za
  refine zb ?_;refine zj (zD (λs:Nat × Rdr × List Cust × List (List Int) × Nat × Nat=>s.1<=6/\yD ls s.1=some (s.2.1,s.2.2.1,s.2.2.2.1)/\ZiQ ls s.1 (s.2.1,s.2.2.1,s.2.2.2.1)) (λ(k,r,cu,dd,vC,vD)=>[(2,.ptr nx v0 0),(6,.ptr (nx+1) v1 0),(32,.lst 6 [.fn (.func 102) [.ptr (nx+1) v1 0] [],.fn (.func 103) [.ptr (nx+1) v1 0] [],.fn (.func 104) [.ptr (nx+1) v1 0] [],.fn (.func 105) [.ptr (nx+1) v1 0] [],.fn (.func 106) [.ptr (nx+1) v1 0] [],.fn (.func 107) [.ptr (nx+1) v1 0] []]),(33,I 6),(34,I k)])
   (λ(k,r,cu,dd,vC,vD)=>[.cells v0 25 [I 0,I 0,I 0,I 0,vn,vn],yg v1 ls r (.sl (nx+2) vC 8 0 cu.length) (.sl (nx+3) vD 1 0 dd.length),.cells vC 87 (cu.flatMap Enc.enc),.cells vD 26 (dd.flatMap Enc.enc)]) (λs=>6-s.1) (0,r0,[],[],w0,w1) [] ⟨by simp,rfl,by simp[ZiQ,r0]⟩ (by simp[yS]) (by simp[r0]) ?_)
  rintro⟨k,r,cu,dd,vC,vD⟩ ⟨hk,hst,m1,m2,m3,m4,m5⟩;simp only at hk hst m1 m2 m3 m4 m5 ⊢;refine DQ ?_;refine za (zv rfl (λhc=>?_) (λhc=>?_))
  ·simp at hc;refine zh (za (zj ?_));obtain rfl | rfl | rfl | rfl | rfl | rfl:k=0\/k=1\/k=2\/k=3\/k=4\/k=5:=DH
   ·have hstep:yD ls 1=if zS ls r.pos=[xX,[49]] then some (yR ls r,cu,dd) else none:=by show (yD ls 0).bind (wH ls 0)=_;rw[hst];rfl
    refine DQ ?_;refine DQ ?_;refine λhsuf=>((Zs1 ls r _ _ (by rw[zQ];rfl) hfit).mono ?_).v
    rintro _ _ ⟨rfl,rfl⟩;refine⟨_,_,yc _ DH DI,zG hsuf ?_⟩
    by_cases h:zS ls r.pos=[xX,[49]]
    ·rw[if_pos h]at hstep;obtain⟨n1,n2⟩:=XW (ls:=ls) (r:=r) (by rw[h];simp);refine zm (by simp[h]) ?_;refine zh (zb ?_);exact zq (1,yR ls r,cu,dd,vC,vD) [] ⟨by omega,hstep,by rw[n1];exact⟨n2,λ_=>m2 DH,λ_=>m3 DH,m4,λh=>by omega⟩⟩ DH (by simp;try exact wr _ (by omega) (by omega)) rfl (by simp;try rfl)
    ·rw[if_neg h]at hstep;have hr:=hno (WX hstep DH);refine zn (by simp[h]) ?_;refine DQ ?_;refine qk 0 4 rfl rfl ?_;refine qk 0 5 rfl rfl ?_;exact zg (zi hd DJ (by simp[zI,zp,hr]))
   ·have hstep:yD ls 2=match qa (zS ls r.pos) [xY,xZ,x7,x8] with
     | some [d,v,c,l]=>some ({ yR ls r with d:=d,v:=v,c:=c,l:=l },cu,dd)
     | _=>none:=by show (yD ls 1).bind (wH ls 1)=_;rw[hst];rfl
    have hct:=λS (h:S (nx+1)=_)=>Zs2 (S:=S) (id:=nx+1) (ver:=v1) ls r (.sl (nx+2) vC 8 0 cu.length) (.sl (nx+3) vD 1 0 dd.length) h hfit
    cases h:qa (zS ls r.pos) [xY,xZ,x7,x8] with
    | none =>
     rw[h]at hstep hct;simp only at hstep hct;have hr:=hno (WX hstep DH);refine DQ ?_;refine DQ ?_;refine λhsuf=>((hct _ (by rw[zQ];rfl)).mono ?_).v
     rintro _ _ ⟨rfl,rfl⟩;refine⟨_,_,yc _ DH DI,zG hsuf ?_⟩;refine zn DI ?_;refine DQ ?_;refine qk 0 4 rfl rfl ?_;refine qk 0 5 rfl rfl ?_;exact zg (zi hd DJ (by simp[zI,zp,hr]))
    | some z =>
     obtain⟨d,v,c,l,rfl⟩:∃d v c l,z=[d,v,c,l]:=by
      have:=XT h
      match z,this with
      | [d,v,c,l],_=>exact⟨d,v,c,l,rfl⟩
     obtain⟨n1,n2⟩:=XW (ls:=ls) (r:=r) (ZaV h DI);have hnn:=ZiP h;rw[h]at hstep hct;simp only at hstep hct;refine DQ ?_;refine DQ ?_;refine λhsuf=>((hct _ (by rw[zQ];rfl)).mono ?_).v
     rintro _ _ ⟨rfl,rfl⟩;refine⟨_,_,yc _ DH DI,zG hsuf ?_⟩;refine zm DI ?_;refine zh (zb ?_);exact zq (2,{ yR ls r with d:=d,v:=v,c:=c,l:=l },cu,dd,vC,vD) [] ⟨by omega,hstep,by rw[n1];exact⟨n2,λ_=>m2 DH,λ_=>m3 DH,m4,λh=>by omega⟩⟩ DH (by simp;try exact wr _ (by omega) (by omega)) rfl (by simp;try rfl)
   ·have hstep:yD ls 3=match qa (zS ls r.pos) [x9] with
     | some [m]=>some ({ yR ls r with m:=m },cu,dd)
     | _=>none:=by show (yD ls 2).bind (wH ls 2)=_;rw[hst];rfl
    have hct:=λS (h:S (nx+1)=_)=>Zs3 (S:=S) (id:=nx+1) (ver:=v1) ls r (.sl (nx+2) vC 8 0 cu.length) (.sl (nx+3) vD 1 0 dd.length) h hfit
    cases h:qa (zS ls r.pos) [x9] with
    | none =>
     rw[h]at hstep hct;simp only at hstep hct;have hr:=hno (WX hstep DH);refine DQ ?_;refine DQ ?_;refine λhsuf=>((hct _ (by rw[zQ];rfl)).mono ?_).v
     rintro _ _ ⟨rfl,rfl⟩;refine⟨_,_,yc _ DH DI,zG hsuf ?_⟩;refine zn DI ?_;refine DQ ?_;refine qk 0 4 rfl rfl ?_;refine qk 0 5 rfl rfl ?_;exact zg (zi hd DJ (by simp[zI,zp,hr]))
    | some z =>
     obtain⟨m,rfl⟩:∃m,z=[m]:=by
      have:=XT h
      match z,this with
      | [m],_=>exact⟨m,rfl⟩
     obtain⟨n1,n2⟩:=XW (ls:=ls) (r:=r) (ZaV h DI);have hnn:=ZiP h;rw[h]at hstep hct;simp only at hstep hct;refine DQ ?_;refine DQ ?_;refine λhsuf=>((hct _ (by rw[zQ];rfl)).mono ?_).v
     rintro _ _ ⟨rfl,rfl⟩;refine⟨_,_,yc _ DH DI,zG hsuf ?_⟩;refine zm DI ?_;refine zh (zb ?_);exact zq (3,{ yR ls r with m:=m },cu,dd,vC,vD) [] ⟨by omega,hstep,by rw[n1];exact⟨n2,λ_=>m2 DH,λ_=>m3 DH,hnn m DI,λh=>by omega⟩⟩ DH (by simp;try exact wr _ (by omega) (by omega)) rfl (by simp;try rfl)
   ·obtain⟨rfl,hb⟩:=m2 DH;have hm:r.m=(r.m.toNat:Int):=DH
    have hstep:yD ls 4=if (yQ ls r.pos r.m.toNat).all (λl=>(wd r.d l).isSome)=true then some ({ r with pos:=r.pos+r.m.toNat,bad:=!(jN ls r.d r.pos r.m.toNat) },jr ls r.d r.pos r.m.toNat,dd) else none:=by show (yD ls 3).bind (wH ls 3)=_;rw[hst];rfl
    have hct:=λS (h:S (nx+1)=_) (h2:S (nx+2)=_)=>Ztb (S:=S) (id:=nx+1) (ver:=v1) (idC:=nx+2) (vC:=vC) ls r r.m.toNat (.sl (nx+3) vD 1 0 dd.length) h h2 hfit hm m1 hb
    by_cases h:(yQ ls r.pos r.m.toNat).all (λl=>(wd r.d l).isSome)=true
    ·rw[if_pos h]at hstep;simp only[if_pos h]at hct;have hcl:=ZiM ls r.d r.pos r.m.toNat;refine DQ ?_;refine DQ ?_;refine λhsuf=>((hct _ (by rw[zQ];rfl) (by rw[zQ];rfl)).mono ?_).v
     rintro _ _ ⟨rfl,hpl,rfl⟩;refine⟨_,_,by rw[yc _ DH DI,yc _ DH DI],zG hsuf ?_⟩;refine zm DI ?_;refine zh (zb ?_);exact zq (4,{ r with pos:=r.pos+r.m.toNat,bad:=!(jN ls r.d r.pos r.m.toNat) },jr ls r.d r.pos r.m.toNat,dd,vC+r.m.toNat,vD) [] ⟨by omega,hstep,hpl,λh=>by omega,λ_=>m3 DH,m4,λ_=>by have:=hfit.1;show r.m.toNat<=_;omega⟩ DH (by simp;try exact wr _ (by omega) (by omega)) rfl (by simp[hcl])
    ·rw[if_neg h]at hstep;have hr:=hno (WX hstep DH);simp only[if_neg h]at hct;refine DQ ?_;refine DQ ?_;refine λhsuf=>((hct _ (by rw[zQ];rfl) (by rw[zQ];rfl)).mono ?_).v
     rintro _ _ ⟨rfl,r',cs',oC,rfl⟩;refine⟨_,_,by rw[yc _ DH DI,yc _ DH DI],zG hsuf ?_⟩;refine zn DI ?_;refine DQ ?_;refine qk 0 4 rfl rfl ?_;refine qk 0 5 rfl rfl ?_;exact zg (zi hd DJ (by simp[zI,zp,hr]))
   ·obtain rfl:=m3 DH;have hm:r.m=(r.m.toNat:Int):=DH
    have hstep:yD ls 5=if zS ls r.pos=[jq]/\(yQ ls (r.pos+1) (r.m.toNat+1)).all (vf (r.m.toNat+1))=true then some ({ r with pos:=r.pos+1+(r.m.toNat+1) },cu,xC ls (r.pos+1) (r.m.toNat+1)) else none:=by show (yD ls 4).bind (wH ls 4)=_;rw[hst];rfl
    have hct:=λS (h:S (nx+1)=_) (h2:S (nx+3)=_)=>Ztd (S:=S) (id:=nx+1) (ver:=v1) (idD:=nx+3) (vD:=vD) ls r r.m.toNat (.sl (nx+2) vC 8 0 cu.length) h h2 hfit hm (m5 rfl) m1
    by_cases h:zS ls r.pos=[jq]/\(yQ ls (r.pos+1) (r.m.toNat+1)).all (vf (r.m.toNat+1))=true
    ·rw[if_pos h]at hstep;simp only[if_pos h]at hct;have hdl:=ZiN ls (r.pos+1) (r.m.toNat+1);refine DQ ?_;refine DQ ?_;refine λhsuf=>((hct _ (by rw[zQ];rfl) (by rw[zQ];rfl)).mono ?_).v
     rintro _ _ ⟨rfl,hpl,rfl⟩;refine⟨_,_,by rw[yc _ DH DI,yc _ DH DI],zG hsuf ?_⟩;refine zm DI ?_;refine zh (zb ?_);exact zq (5,{ r with pos:=r.pos+1+(r.m.toNat+1) },cu,xC ls (r.pos+1) (r.m.toNat+1),vC,vD+(r.m.toNat+1)) [] ⟨by omega,hstep,hpl,λh=>by omega,λh=>by omega,m4,λh=>by omega⟩ DH (by simp;try exact wr _ (by omega) (by omega)) rfl (by simp[hdl])
    ·rw[if_neg h]at hstep;have hr:=hno (WX hstep DH);simp only[if_neg h]at hct;refine DQ ?_;refine DQ ?_;refine λhsuf=>((hct _ (by rw[zQ];rfl) (by rw[zQ];rfl)).mono ?_).v
     rintro _ _ ⟨rfl,r',ds',oD,rfl⟩;refine⟨_,_,by rw[yc _ DH DI,yc _ DH DI],zG hsuf ?_⟩;refine zn DI ?_;refine DQ ?_;refine qk 0 4 rfl rfl ?_;refine qk 0 5 rfl rfl ?_;exact zg (zi hd DJ (by simp[zI,zp,hr]))
   ·have hstep:yD ls 6=if r.pos=ls.length then some (r,cu,dd) else none:=by show (yD ls 5).bind (wH ls 5)=_;rw[hst];rfl
    refine DQ ?_;refine DQ ?_;refine λhsuf=>((Zs4 ls r _ _ (by rw[zQ];rfl)).mono ?_).v
    rintro _ _ ⟨rfl,rfl⟩;refine⟨_,_,rfl,zG hsuf ?_⟩
    by_cases h:r.pos=ls.length
    ·rw[if_pos h]at hstep;refine zm (by simp[h]) ?_;refine zh (zb ?_);exact zq (6,r,cu,dd,vC,vD) [] ⟨by omega,hstep,m1,λh=>by omega,λh=>by omega,m4,λh=>by omega⟩ DH (by simp;try exact wr _ (by omega) (by omega)) rfl DI
    ·rw[if_neg h]at hstep;have hr:=hno hstep;refine zn (by simp[h]) ?_;refine DQ ?_;refine qk 0 4 rfl rfl ?_;refine qk 0 5 rfl rfl ?_;exact zg (zi hd DJ (by simp[zI,zp,hr]))
  ·simp at hc;obtain rfl:k=6:=DH
   have hread:YX ls=some (⟨r.d,r.v,r.c,r.l,cu,dd⟩,!r.bad):=by rw[hrs,hst];rfl
   have hiok:=Ztm hread hfit;have hmay:=Zhb _ hiok;rw[hread]at hp;refine zx (yb 2 rfl ?_);refine yb 3 rfl ?_;obtain⟨pos,d,v,c,ln,m,bad⟩:=r;cases bad with
   | true =>
    have hr:res=(zI,3):=by rw[hp];exact if_neg DI
    repeat apply za
    refine ze [(4,47)] zN ?_;refine zn DI ?_;refine DQ ?_;refine qk 0 4 rfl rfl ?_;refine qk 0 5 rfl rfl ?_;exact zg (zi hd DJ (by simp[zI,zp,hr]))
   | false =>
    by_cases hmy:jo ⟨d,v,c,ln,cu,dd⟩=true
    ·have hr:res=(⟨d,v,c,ln,cu,dd⟩,0):=by rw[hp];exact if_pos ⟨rfl,hmy⟩
     rw[if_pos hmy]at hmay
     repeat apply za
     refine ze [(4,47)] trivial ?_;refine qm [(4,47)] hmay trivial ?_;refine zm DI ?_;refine zh (DQ ?_);exact zg (zi hd DJ (by simp[zp,hr]))
    ·have hr:res=(zI,3):=by rw[hp];exact if_neg (λh=>hmy h.2)
     rw[if_neg hmy]at hmay
     repeat apply za
     refine ze [(4,47)] trivial ?_;refine qm [(4,47)] hmay trivial ?_;refine zn DI ?_;refine DQ ?_;refine qk 0 4 rfl rfl ?_;refine qk 0 5 rfl rfl ?_;exact zg (zi hd DJ (by simp[zI,zp,hr]))
open Go Go.Proofs
section
variable {S:Store} {id v:Nat} {t s0 s1 s2 s3 x0 x1 x2 x3 x4 x5 r0 r1 r2 r3 r4 r5:PV}
theorem ZiR(u:List UInt8)(hl:u.length<=1048576)(hS:S id=.cells v 92 [T (bs u),s0,s1,s2,s3,x0,x1,x2,x3,x4,x5,r0,r1,r2,r3,r4,r5]):
  Spec prog 48 [.ptr id v 0] S (λq S'=>q=I (qp u).2/\S'=S.set id (.cells v 92
   (if (qp u).2=0 then [T (bs u),s0,s1,s2,s3]++zy (qp u).1++[r0,r1,r2,r3,r4,r5] else [T (bs u),s0,s1,s2,s3,x0,x1,x2,x3,x4,x5,I (if (qp u).2=2 then 1 else 2),r1,r2,r3,r4,r5]))):=by
 have hp:=Ztn u hl;generalize qp u=z at *;obtain⟨y,e⟩:=z;simp only at hp ⊢;refine yi func48 ntmps48 results48 λnx hd=>?_
 have hlt:id<nx:=qE hd hS DI;have xw:=λobs=>(zB (S:=S) (obs:=obs) hlt).trans hS
 have g1:¬nx<=id:=DH
 refine DQ ?_;refine za (ze [] xw ?_);refine qm [] hp xw ?_;intro v0
 repeat apply za
 refine zb ?_;refine zj (DQ ?_)
 by_cases he:e=0
 ·subst he;refine zn DI ?_;refine ze [] (zo xw g1) ?_;refine DQ ?_;exact zg ⟨_,_,rfl,⟨by simp[zp],by simp⟩,zR (qz hd hlt _)⟩
 ·rw[if_neg he];refine zm (by simp[he]) ?_;refine DQ ?_
  by_cases h2:e=2
  ·subst h2;refine zn DI ?_;refine ze [] (zo xw g1) ?_;refine DQ ?_;exact zg ⟨_,_,rfl,⟨by simp[zp],by simp⟩,zR (qz hd hlt _)⟩
  ·rw[if_neg h2];refine zm (by simp[h2]) ?_;refine ze [] (zo xw g1) ?_;refine DQ ?_;exact zg ⟨_,_,rfl,⟨by simp[zp],by simp⟩,zR (qz hd hlt _)⟩
theorem Zto{a b:PV}{bd:Int}(hc:Pure prog 34 [.agg [x0,x1,x2,x3,x4,x5],s0,s3] (.tup [.agg [a,b],I bd]))(hS:S id=.cells v 92 [t,s0,s1,s2,s3,x0,x1,x2,x3,x4,x5,r0,r1,r2,r3,r4,r5]):
  Spec prog 49 [.ptr id v 0] S (λq S'=>q=I 0/\S'=S.set id (.cells v 92 [t,s0,s1,s2,s3,x0,x1,x2,x3,x4,x5,I 3,I bd,r2,r3,r4,r5])):=by
 refine yi func49 ntmps49 results49 λnx hd=>?_
 have hlt:id<nx:=qE hd hS DI;have xw:=λobs=>(zB (S:=S) (obs:=obs) hlt).trans hS
 have xo:∀(A:Ob) obs,ext (S.set id A) nx obs id=A:=λA obs=>(zB hlt).trans (q11 _ _ _)
 have g1:¬nx<=id:=DH
 refine DQ ?_;refine za (ze [] (zo xw g1) ?_);refine za (zz (some []) (Row.pures [0,1,2,3,5,6,7,8,10,11,12,13] (.alt 4 (.alt 9 (.alt 14 (Row.pures [15,16,17,18,19,20,21] (.alt 22 (.done) .stop)) .stop) (.alt 14 (.alt 9 (Row.pures [15,16,17,18,19,20,21] (.alt 22 (.done) .stop)) .stop) .stop)) (.alt 9 (.alt 4 (.alt 14 (Row.pures [15,16,17,18,19,20,21] (.alt 22 (.done) .stop)) .stop) (.alt 14 (.alt 4 (Row.pures [15,16,17,18,19,20,21] (.alt 22 (.done) .stop)) .stop) .stop)) (.alt 14 (.alt 4 (.alt 9 (Row.pures [15,16,17,18,19,20,21] (.alt 22 (.done) .stop)) .stop) (.alt 9 (.alt 4 (Row.pures [15,16,17,18,19,20,21] (.alt 22 (.done) .stop)) .stop) .stop)) .stop)))) mixed (zF xw xo g1) ?_)
 repeat' refine And.intro ?_ ?_
 all_goals
  refine zK (hc) (zF xw xo g1) ?_;refine DQ ?_;exact zg ⟨_,_,rfl,⟨by simp[zp],rfl⟩,zR (qz hd hlt _)⟩
def uL(e c:Int):Int:=if e=0 then c else e
theorem ZiS{p:zA}{e c:Int}(hr:Pure prog 35 [.agg [x0,x1,x2,x3,x4,x5],.agg [s0,s1,s2,s3]] (.tup [.agg [L p],I e]))(hc:e=0->Pure prog 67 [.agg [x0,x1,x2,x3,x4,x5],.agg [L p]] (I c))
  (hS:S id=.cells v 92 [t,s0,s1,s2,s3,x0,x1,x2,x3,x4,x5,r0,r1,r2,r3,r4,r5]) :
  Spec prog 50 [.ptr id v 0] S (λq S'=>q=I (uL e c)/\S'=S.set id (.cells v 92
   (if uL e c=0 then [t,s0,s1,s2,s3,x0,x1,x2,x3,x4,x5,I 4,r1,r2,r3,r4,L p] else [t,s0,s1,s2,s3,x0,x1,x2,x3,x4,x5,r0,r1,r2,r3,r4,r5]))):=by
 have hself:S=S.set id (.cells v 92 [t,s0,s1,s2,s3,x0,x1,x2,x3,x4,x5,r0,r1,r2,r3,r4,r5]):=(Yi S id _ hS).symm;unfold uL;refine yi func50 ntmps50 results50 λnx hd=>?_
 have hlt:id<nx:=qE hd hS DI;have xw:=λobs=>(zB (S:=S) (obs:=obs) hlt).trans hS
 have xo:∀(A:Ob) obs,ext (S.set id A) nx obs id=A:=λA obs=>(zB hlt).trans (q11 _ _ _)
 have g1:¬nx<=id:=DH
 refine DQ ?_;refine za (zz (some [id]) (Row.pures [0,1,2,3,4,5,6,7,8,9,10,11] (.alt 12 (.alt 13 (Row.pures [14] .done) .stop) .stop)) mixed (zo xw g1) ?_);refine zK (hr) (zo xw g1) ?_;intro v0
 repeat apply za
 refine zb ?_
 by_cases he:e=0
 case neg =>
  simp only[if_neg he];refine zn (by simp[he]) ?_;refine DQ ?_;exact zg ⟨_,_,rfl,⟨by simp[zp],hself⟩,zR hd⟩
 have hc2:=hc he;clear hc;simp only[if_pos he];subst he;refine zm DI ?_;refine zh ?_
 repeat apply za
 refine zz (some [id,nx]) (Row.pures [0,1,2,3,4,5,6] .done) mixed (zo xw g1) ?_;refine zK (hc2) (zo xw g1) ?_;refine DQ ?_
 by_cases h2:c=0
 case neg =>
  rw[if_neg h2];refine zn (by simp[h2]) ?_;refine DQ ?_;exact zg ⟨_,_,rfl,⟨by simp[zp],hself⟩,zR hd⟩
 subst h2;rw[if_pos rfl];refine zm DI ?_;refine zh (za (zz (some [nx]) (Row.pures [0,1,2,3,4,5] (.alt 6 (Row.pures [7,8,9] (.alt 10 (.done) .stop)) .stop)) mixed (zF xw xo g1) ?_))
 repeat' refine And.intro ?_ ?_
 all_goals
  refine DQ ?_;exact zg ⟨_,_,rfl,⟨by simp[zp],rfl⟩,zR (qz hd hlt _)⟩
theorem Ztp{c h:Int}{ds:List Int}(hc:Pure prog 68 [.agg [x0,x1,x2,x3,x4,x5],.agg [r5]] (I c))(hh:Pure prog 69 [.agg [x0,x1,x2,x3,x4,x5],.agg [r5]] (I h))(hds:Pure prog 71 [.agg [x0,x1,x2,x3,x4,x5],.agg [r5]] (L ds))
  (hS:S id=.cells v 92 [t,s0,s1,s2,s3,x0,x1,x2,x3,x4,x5,r0,r1,r2,r3,r4,r5]) :
  Spec prog 51 [.ptr id v 0] S (λq S'=>q=I 0/\S'=S.set id (.cells v 92 [t,s0,s1,s2,s3,x0,x1,x2,x3,x4,x5,r0,r1,I c,I h,L ds,r5])):=by
 refine yi func51 ntmps51 results51 λnx hd=>?_
 have hlt:id<nx:=qE hd hS DI;have xw:=λobs=>(zB (S:=S) (obs:=obs) hlt).trans hS
 have xo:∀(A:Ob) obs,ext (S.set id A) nx obs id=A:=λA obs=>(zB hlt).trans (q11 _ _ _)
 have g1:¬nx<=id:=DH
 refine DQ ?_;refine za (zz (some []) (Row.pures [0,1,2,3,5,6,7,8] (.alt 4 (.alt 9 (Row.pures [10,11,12,13] (.alt 14 (.done) .stop)) .stop) (.alt 9 (.alt 4 (Row.pures [10,11,12,13] (.alt 14 (.done) .stop)) .stop) .stop))) mixed (zF xw xo g1) ?_)
 repeat' refine And.intro ?_ ?_
 all_goals
  refine zK (hc) (zF xw xo g1) ?_;refine za (zz (some []) (Row.pures [0,1,2,3,5,6,7,8] (.alt 4 (.alt 9 (Row.pures [10,11,12,13] (.alt 14 (.done) .stop)) .stop) (.alt 9 (.alt 4 (Row.pures [10,11,12,13] (.alt 14 (.done) .stop)) .stop) .stop))) mixed (zF xw xo g1) ?_)
  repeat' refine And.intro ?_ ?_
  all_goals
   refine zK (hh) (zF xw xo g1) ?_;refine za (zz (some []) (Row.pures [0,1,2,3,5,6,7,8] (.alt 4 (.alt 9 (Row.pures [10,11,12,13] (.alt 14 (.done) .stop)) .stop) (.alt 9 (.alt 4 (Row.pures [10,11,12,13] (.alt 14 (.done) .stop)) .stop) .stop))) mixed (zF xw xo g1) ?_)
   repeat' refine And.intro ?_ ?_
   all_goals
    refine zK (hds) (zF xw xo g1) ?_;refine DQ ?_;exact zg ⟨_,_,rfl,⟨by simp[zp],rfl⟩,zR (qz hd hlt _)⟩
end
open Go Go.Proofs Hp
theorem Zdy{α:Type}[Enc α](id v:Nat)(cs:List PV)(l:List (List α)):(l.flatMap Enc.enc).map (qf id v cs)=(l.flatMap Enc.enc:List PV):=by
 refine(AO λp hp=>?_).trans (C4 _);obtain⟨t,_,ht⟩:=BG.1 hp;rw[ZkZ,A3]at ht;subst ht;rfl
theorem Zdz(p:zA)(hp:p.length<=1000)(hd0:∀d∈p,d.length<=1000)(ht:∀d∈p,∀t∈d,t.length<=1000){S:Store}{nx:Nat}(hd:zW nx S):
  Spec prog 180 [.agg [L p]] S (λq S'=>∃v,q=.agg [.sl (nx+3) v 1 0 p.length]/\S'=S.set (nx+3) (.cells v 39 (p.flatMap Enc.enc))):=by
 refine ut hd func180 ntmps180 results180 ?_;refine DQ ?_;intro v0 v1;refine DQ ?_;intro v2;refine qQ 2 0 39 1 rfl rfl λv3=>?_
 repeat apply za
 refine zb ?_;refine zj (zD (λs:Nat × Nat=>s.1<=p.length) (λ(k,w)=>[(2,.ptr (nx+1) v1 0),(3,.ptr (nx+2) v2 0),(10,L p),(11,I p.length),(12,I k)]) (λ(k,w)=>[.cells v0 30 [L p],.cells v1 30 [yq],.cells v2 30 [.sl (nx+3) w 1 0 k],.cells w 39 ((p.take k).flatMap Enc.enc)]) (λs=>p.length-s.1) (0,v3) [] DI DI DI ?_);rintro⟨k,w⟩ hk;simp only at hk ⊢;refine DQ ?_;refine za (zv rfl (λhc=>?_) (λhc=>?_))
 ·simp at hc;obtain⟨d,tl,a1,a2,a3,e0⟩:=zJ rfl p k hc;have hdm:=Ab a1;have hdl:=hd0 d hdm;have hk1:1<=p.length-k:=DH
  have htk:(p.take k).length=k:=by rw[Ax];omega
  generalize hpk:p.take k=pk at *;have hqf:(pk.flatMap Enc.enc:List PV).length=k:=(jR pk).trans htk;have hqt:(pk.flatMap Enc.enc:List PV).take k=pk.flatMap Enc.enc:=Af DH;have hfp:∀id v cs,(pk.flatMap Enc.enc).map (qf id v cs)=(pk.flatMap Enc.enc:List PV):=λid v cs=>Zdy id v cs pk
  refine zh (za (zj (za (ze [] (zF hc e0 hk1) ?_))));intro v4;refine DQ ?_;intro v5;refine qQ 5 0 42 1 rfl rfl λv6=>?_
  repeat apply za
  refine zb ?_;refine zj (zD (λs:Nat × Nat=>s.1<=d.length) (λ(j,w6)=>[(2,.ptr (nx+1) v1 0),(3,.ptr (nx+2) v2 0),(6,.ptr (nx+5) v5 0),(10,L p),(11,I p.length),(12,I k),(17,L d),(18,I d.length),(19,I j)])
   (λ(j,w6)=>[.cells v0 30 [L p],.cells v1 30 [yq],.cells v2 30 [.sl (nx+3) w 1 0 k],.cells w 39 (pk.flatMap Enc.enc),.cells v4 39 [L d],.cells v5 39 [.sl (nx+6) w6 1 0 j],.cells w6 42 ((d.take j).flatMap Enc.enc)]) (λs=>d.length-s.1) (0,v6) [] DI DI DI ?_)
  rintro⟨j,w6⟩ hj;simp only at hj ⊢;refine DQ ?_;refine za (zv rfl (λhcj=>?_) (λhcj=>?_))
  ·simp at hcj;obtain⟨t,tl2,b1,b2,b3,f0⟩:=zJ rfl d j hcj;have htl:=ht d hdm t (Ab b1);have hj1:1<=d.length-j:=DH
   have htj:(d.take j).length=j:=by rw[Ax];omega
   generalize hdj:d.take j=dj at *;have hrf:(dj.flatMap Enc.enc:List PV).length=j:=(jR dj).trans htj;have hrt:(dj.flatMap Enc.enc:List PV).take j=dj.flatMap Enc.enc:=Af DH;have hfd:∀id v cs,(dj.flatMap Enc.enc).map (qf id v cs)=(dj.flatMap Enc.enc:List PV):=λid v cs=>Zdy id v cs dj
   have htf:(t.flatMap Enc.enc:List PV).length=t.length*2:=Ql t;refine zh (za (zj (za (ze [] (zF hcj f0 hj1) ?_))));intro v7;refine zz (some [nx+7]) (Row.pures [0,2,3] (.alt 1 (.alt 4 (Row.pures [5,6] (.alt 7 (Row.pures [8] (.alt 9 (.done) .stop)) .stop)) .stop) (.alt 4 (Row.pures [5,6] (.alt 1 (.alt 7 (Row.pures [8] (.alt 9 (.done) .stop)) .stop) .stop)) .stop))) mixed (zo hrf hrt) ?_;refine⟨⟨by omega,λv8=>⟨⟨by omega,by omega⟩,?_⟩⟩,⟨by omega,λv8=>⟨⟨by omega,by omega⟩,?_⟩⟩⟩
   all_goals
    refine yb 8 rfl ?_;simp only[AA,Bo,AV,A4,xH,hfp,hfd,List.map_append];refine zb ?_;exact zq (j+1,w6+1) [_,_] DL DL (by simp[zu j (by omega)]) rfl (by simp[b3,qf,htf];exact⟨rfl,rfl⟩)
  ·simp at hcj;obtain rfl:j=d.length:=DH
   rw[Ak];have hfd:∀id v cs,(d.flatMap Enc.enc).map (qf id v cs)=(d.flatMap Enc.enc:List PV):=λid v cs=>Zdy id v cs d
   refine zx (yb 6 rfl ?_);simp only[AA,Bo,AV,A4,xH,hfp,hfd];refine ze [] (zo hqf hqt) ?_;refine⟨by omega,?_⟩;refine zb ?_;exact zq (k+1,w+1) [_,_,_] DL DL (by simp[zu k (by omega)]) rfl (by simp[a3];exact⟨rfl,rfl,rfl⟩)
 ·simp at hc;obtain rfl:k=p.length:=DH
  rw[Ak];refine zx (DQ ?_);exact zg ⟨_,_,DJ,⟨w,by simp[zp],rfl⟩,Qj (j:=3) hd DI⟩
theorem Ztq(p:zA)(hp:p.length<=1000)(hd0:∀d∈p,d.length<=1000)(ht:∀d∈p,∀t∈d,t.length<=1000):Pure prog 180 [.agg [L p]] (.agg [L p]) :=
 ZeE (sz:=1) 3 (λS nx hd=>Zdz p hp hd0 ht hd) (by rw[jR,BS])
def vR(x:Inst)(p:zA)(day b:Int):zA × Bool :=
 if day<0\/(p.length:Int)<=day then (p,false)
 else if W (yn x (p.getD day.toNat []))<=W (yn x (wY x b (p.getD day.toNat []))) then (p,false)
 else (p.set day.toNat (wY x b (p.getD day.toNat [])),true)
structure PlanM (x:Inst) (p:zA):Prop where
 cust:x.cust.length<=900
 inst:InstH x
 len:p.length<=1000
 may:∀d∈p,yr x d=0
theorem PlanM.sizes{x:Inst}{p:zA}(h:PlanM x p):∀d∈p,d.length<=1000/\(∀t∈d,t.length<=1000)/\DayOk d/\d.flatten.length<=1000:=by
 intro d hd;obtain⟨h1,h2,h3⟩:=QN h.cust (h.may d hd);have:=h.cust;exact⟨by omega,λt ht=>by have:=ZaE d t ht;omega,h3.ok,by omega⟩
theorem ZiT{x:Inst}(hx:x.cust.length<=900)(hi:InstH x){d:zk}(h:yr x d=0)(b:Int):yr x (wY x b d)=0/\(wY x b d).flatten.Perm d.flatten/\yn x (wY x b d)<=yn x d:=by
 obtain⟨hs,hg⟩:=Zid hx hi.arc hi.veh h;obtain⟨h1,h2,h3⟩:=Zam hs hi.diag b.toNat d hg;obtain⟨m1,m2,m3⟩:=(vB x d).1 h;change SG x d.flatten (wY x b d) at h1;change yn x (wY x b d)<=yn x d at h2;change (wY x b d).length<=d.length at h3;exact⟨(vB x _).2 ⟨h1.may,(h1.perm.map _).nodup_iff.2 m2,by omega⟩,h1.perm,h2⟩
theorem Ztr{x:Inst}(hx:x.cust.length<=900)(hi:InstH x){d:zk}(h:yr x d=0){b:Int}(hb:b<=9223372036854775807):∃k:Int,Pure prog 252 [.agg (zy x),.agg [L d],I b] (.tup [.agg [L (wY x b d)],I k]):=by
 obtain⟨hs,hg⟩:=Zid hx hi.arc hi.veh h;have o:=hg.ok hs;exact⟨_,Zgo x d b (uf x) (SG x d.flatten) hb o.n o.t (λ_=>hg) (ZgT hs hi.diag)⟩
theorem Zts{x:Inst}{p:zA}(h:PlanM x p)(day b:Int)(hb:b<=9223372036854775807):
  Pure prog 216 [.agg (zy x),.agg [L p],I day,I b] (.tup [.agg [L (vR x p day b).1],B (vR x p day b).2]):=by
 have hsz:=h.sizes;have hpl:=h.len;refine zt func216 ntmps216 results216 λS nx hd=>?_
 refine DQ ?_;intro v0 v1 v2;refine DQ ?_;refine λhsuf=>((Zdz p h.len (λd hd=>(hsz d hd).1) (λd hd=>(hsz d hd).2.1) jF).mono ?_).v
 rintro _ _ ⟨v3,rfl,rfl⟩;refine⟨_,_,Xb 3 _,jH [] Nat.add_assoc hsuf ?_⟩;intro v4
 by_cases h0:day<0
 ·have hz:vR x p day b=(p,false):=by unfold vR;rw[if_pos (.inl h0)]
  rw[hz]
  repeat apply za
  refine ze [(2,17)] (zo h0 zN) ?_;refine zn rfl (yb 6 rfl ?_);refine DQ ?_;exact DR hd
 by_cases h1:(p.length:Int)<=day
 ·have hz:vR x p day b=(p,false):=by unfold vR;rw[if_pos (.inr h1)]
  rw[hz]
  repeat apply za
  refine ze [(2,17)] (zo h0 h1) ?_;refine zn rfl (yb 6 rfl ?_);refine DQ ?_;exact DR hd
 obtain⟨k,rfl⟩:=Av (show 0<=day by omega);have hk:k<p.length:=DH
 obtain⟨d,tl,a1,a2,a3,e0⟩:=zJ rfl p k hk;have hdm:=Ab a1;have hgd:p.getD (k:Int).toNat []=d:=by rw[AN,Aa,a1];rfl
 have hz:vR x p k b=if W (yn x d)<=W (yn x (wY x b d)) then (p,false) else (p.set k (wY x b d),true):=by
  unfold vR;rw[if_neg DH,hgd,AN]
 obtain⟨m,hI⟩:=Ztr h.cust h.inst (h.may d hdm) hb;have him:=ZiT h.cust h.inst (h.may d hdm) b;have hc1:=Xh x d (hsz d hdm).2.2.1;have hc2:=Xh x (wY x b d) (QN h.cust him.1).2.2.ok;rw[hz];generalize wY x b d=e at *;generalize W (yn x d)=z1 at *;generalize W (yn x e)=z2 at *;have hk1:1<=p.length-k:=DH
 have hpf:(p.flatMap Enc.enc:List PV).length=p.length:=jR p;have hsp:=ZcY (α:=zk) rfl p k e hk;have hsp':ye (p.flatMap Enc.enc) k [L e]=(p.set k e).flatMap Enc.enc:=by simpa using hsp
 repeat apply za
 refine ze [(2,17)] (zo h0 h1) ?_;refine zm rfl (zh (za (zz (some [nx,nx+6,nx+7]) (Row.pures [0,1,2,3,4,5,6,7,8,9,10] (.alt 11 (.alt 12 (Row.pures [13] .done) .stop) .stop)) mixed (zF e0 hk hk1) ?_)));refine zK (hI) (zF e0 hk hk1) ?_;intro v5
 by_cases hle:z1<=z2
 ·rw[if_pos hle]
  repeat apply za
  refine zz (some [nx,nx+6,nx+7,nx+8]) (Row.pures [0,1,2,3,4,5,6,7,8,9,10] .done) mixed (zV e0 hk hk1 hle) ?_;refine zK (hc2) (zV e0 hk hk1 hle) ?_;refine zK (hc1) (zV e0 hk hk1 hle) ?_;refine zn rfl (yb 6 rfl ?_);refine DQ ?_;exact DR hd
 ·rw[if_neg hle]
  repeat apply za
  refine zz (some [nx,nx+6,nx+7,nx+8]) (Row.pures [0,1,2,3,4,5,6,7,8,9,10] .done) mixed (zV e0 hk hk1 hle) ?_;refine zK (hc2) (zV e0 hk hk1 hle) ?_;refine zK (hc1) (zV e0 hk hk1 hle) ?_;refine zm rfl (zh (za (ze [] (zF hk hsp' hpf) ?_)));refine⟨by omega,?_⟩;refine yb 6 rfl ?_;refine DQ ?_;exact zg (zi hd DJ (by simp[zp]))
open Go Go.Proofs Hp
structure PlanS (n K:Nat) (p:zA):Prop where
 len:p.length=n
 ok:∀d∈p,DayOk d/\d.flatten.length<=K/\d.length<=K
theorem ZdA{x:Inst}{d:zk}{s:Stop}{K:Nat}(hx:x.cust.length<=1048576)(h1:DayOk d)(h2:d.flatten.length<=K)(h3:d.length<=K)(hK:K<=100000):DayOk (yK x d s).1/\(yK x d s).1.flatten.length<=K+1/\(yK x d s).1.length<=K+1:=by
 refine⟨Zgk hx h1 DH DH,?_,?_⟩
 ·cases hi:(yK x d s).2 with
  | true=>rw[(Zch hi).length_eq,Ad];omega
  | false=>rw[ZfV hi];omega
 grind[yK,jI]
theorem Ztt(x:Inst)(p:zA)(c:Nat){n K:Nat}(hn1:n<=1000)(hK:K<=100000)(hx:x.cust.length<=1000)(hc:c<x.cust.length)(hp:PlanS n K p):Pure prog 322 [.agg (zy x),.agg [L p],I c] (L (p.map (w8 x (vM x c)))):=by
 have hth:=Zic x c;rw[show (decide (0<=(c:Int)) && decide ((c:Int)<x.cust.length))=true from by simp;omega]at hth;obtain⟨cu,tlc,a1,-,-,e1,e0⟩:=el 8 rfl x.cust c hc;have e11:=e1 1 DH;have hq:vM x c=⟨c,if cu.kind=1 then cu.demand else 1⟩:=by unfold vM;rw[Aa,a1];rfl
 have hplen:p.length<=1000:=by have:=hp.len;omega
 refine zt func322 ntmps322 results322 λS nx hd=>?_
 refine DQ ?_;intro v0 v1;refine DQ ?_;intro v2;refine za (qS (nx:=nx) (σ:=Unit) (λ_=>True) (λ_=>[(3,.ptr nx v0 0),(4,.ptr (nx+1) v1 0),(7,.ptr (nx+2) v2 0)]) (λ_=>S) (λ_=>[.cells v0 25 (zy x),.cells v1 30 [L p],.cells v2 100 [I c,I (vM x c).q]]) ?_ ?_)
 ·by_cases hk:cu.kind=1
  ·rw[if_pos hk]at hq;refine za (ze [(3,19)] (zF e0 hc hk) ?_);refine qm [(3,19)] hth (zF e0 hc hk) ?_;refine zn (by simp[hk]) ?_;refine ze [] (zo e11 hc) ?_;exact z8 () [] trivial DI rfl (by simp[hq])
  ·rw[if_neg hk]at hq;refine za (ze [(3,19)] (zF e0 hc hk) ?_);refine qm [(3,19)] hth (zF e0 hc hk) ?_;refine zm (by simp[hk]) ?_;exact zh (z8 () [] trivial DI rfl (by simp[hq]))
 intro _ _;have hsc:(vM x c).c=c:=rfl;generalize hst:vM x c=s at hsc;clear hq;refine DQ ?_;refine za (jg 8 3 1 rfl λv3=>?_);refine DQ ?_;refine zj (zD (λst:Nat × List Int × Nat=>st.1<=p.length/\st.2.1=(p.take st.1).map (w8 x s)) (λ(k,out,w)=>[(3,.ptr nx v0 0),(7,.ptr (nx+2) v2 0),(8,.sl (nx+3) w 1 0 out.length),(36,L p),(37,I p.length),(38,I k)]) (λ(k,out,w)=>[.cells v0 25 (zy x),.cells v1 30 [L p],.cells v2 100 [I c,I s.q],.cells w 3 (out.flatMap Enc.enc)]) (λst=>p.length-st.1) (0,[],v3) [] DI DI DI ?_);rintro⟨k,out,w⟩ ⟨hk,ho⟩;simp only at hk ho ⊢;have hol:out.length=k:=by rw[ho];simp;omega
 refine DQ ?_;refine za (zv rfl (λhc1=>?_) (λhc1=>?_))
 ·simp at hc1;obtain⟨d,tl,b1,b2,b3,f0⟩:=zJ rfl p k hc1;obtain⟨g1,g3,g4⟩:=hp.ok d (Ab b1);have g5:=(ZdA (x:=x) (s:=s) DH g1 g3 g4 hK).1;have hins:=Zcp x d s DH g1 DH;have hc2:=Xh x d g1;have hc3:=Xh x _ g5;have hpr:w8 x s d=if (yK x d s).2=true then max 0 (W (W (yn x (yK x d s).1)-W (yn x d))) else 4294967296:=rfl
  rw[hsc]at hins;generalize yK x d s=r at *;obtain⟨e,ok⟩:=r;simp only at hins hc3 hpr;generalize W (yn x d)=z1 at *;generalize W (yn x e)=z2 at *;have h1p:1<=p.length-k:=DH
  refine zh (za (zj (za (ze [] (zF f0 hc1 h1p) ?_))));intro v4;refine DQ ?_
  repeat apply za
  refine zb ?_;refine zr hins ?_;intro v5;refine DQ ?_;cases ok with
  | true =>
   rw[if_pos rfl]at hpr;have hmax:qP (0:Int) (W (z2-z1))=w8 x s d:=by rw[hpr];unfold qP;split<;>omega
   refine zn rfl (zz (some [nx,nx+4,nx+5]) (Row.pures [0,1,2,3,4,5,6,7,8] .done) mixed trivial ?_);refine zK (hc3) hmax ?_;refine zK (hc2) hmax ?_;refine zb ?_;refine⟨by omega,?_⟩;refine zb ?_;exact zq (k+1,out++[w8 x s d],w+1) [_,_] ⟨hc1,by rw[b3,List.map_append,ho];rfl⟩ DL (by simp[zu k (by omega)]) rfl (by simp[hpr];exact⟨rfl,rfl⟩)
  | false =>
   rw[if_neg DN]at hpr;refine zm rfl (zh (zb ?_));refine⟨by omega,?_⟩;refine zb ?_;exact zq (k+1,out++[w8 x s d],w+1) [_,_] ⟨hc1,by rw[b3,List.map_append,ho];rfl⟩ DL (by simp[zu k (by omega)]) rfl (by simp[hpr];exact⟨rfl,rfl⟩)
 ·simp at hc1;obtain rfl:k=p.length:=DH
  rw[Ak]at ho;refine zx (yb 3 rfl ?_);refine DQ ?_;exact zg (zi hd DJ (by simp[zp,ho]))
def Ym(x:Inst)(p:zA):Bool:=p.all λd=>decide (yr x d=0)
theorem Ztu(x:Inst)(p:zA){n K:Nat}(hn1:n<=1000)(hK:K<=100000)(hx:x.cust.length<=1000)(hp:PlanS n K p):Pure prog 289 [.agg (zy x),.agg [L p]] (B (Ym x p)):=by
 have hplen:p.length<=1000:=by have:=hp.len;omega
 refine zt func289 ntmps289 results289 λS nx hd=>?_
 refine DQ ?_;intro v0 v1
 repeat apply za
 refine zb ?_;refine zj (zD (λk:Nat=>k<=p.length/\∀d∈p.take k,yr x d=0) (λk=>[(2,.ptr nx v0 0),(8,L p),(9,I p.length),(10,I k)]) (λ_=>[.cells v0 25 (zy x),.cells v1 30 [L p]]) (λk=>p.length-k) 0 [] DI DI DI ?_);rintro k ⟨hk,hE⟩;refine DQ ?_;refine za (zv rfl (λhc=>?_) (λhc=>?_))
 ·simp at hc;obtain⟨d,tl,a1,a2,a3,e0⟩:=zJ rfl p k hc;obtain⟨g1,g2,g3⟩:=hp.ok d (Ab a1);have hD:=ZbP x d DH g1.n g1.t DH;have hk1:1<=p.length-k:=DH
  refine zh (za (zj (za (ze [] (zF e0 hc hk1) ?_))));intro v2
  by_cases h0:yr x d=0
  ·rw[h0]at hD;refine DQ ?_;refine zr hD ?_;refine zm DI ?_;refine zh (zb ?_);exact zq (k+1) [_] ⟨hc,λe he=>by rw[a3]at he;rcases AB.1 he with q | q;exact hE e q;rw[A3.1 q];exact h0⟩ DH (by simp[zu k (by omega)]) rfl DJ
  ·have ho:Ym x p=false:=by
    unfold Ym;rw[BT];exact⟨d,Ab a1,by simpa using h0⟩
   rw[ho];generalize yr x d=z at *;refine DQ ?_;refine zr hD ?_;refine zn (by simp[h0]) ?_;refine DQ ?_;exact zg (zi hd rfl rfl)
 ·simp at hc;obtain rfl:k=p.length:=DH
  rw[Ak]at hE;have ho:Ym x p=true:=by
   unfold Ym;rw[Ay];intro d hd;simpa using hE d hd
  rw[ho];refine zx (DQ ?_);exact zg (zi hd rfl rfl)
def ZJ(x:Inst)(c:Nat)(st:zA × Bool)(w:Visit):zA × Bool :=
 if st.2=true then (if (yK x (st.1.getD w.d.toNat []) ⟨c,w.q⟩).2=true then (st.1.set w.d.toNat (yK x (st.1.getD w.d.toNat []) ⟨c,w.q⟩).1,true) else ([],false)) else st
def vq(x:Inst)(n:Nat)(p:zA)(c:Nat):zA × Bool :=
 if (qx n x.cap (x.cust.getD c default) (p.map (w8 x (vM x c)))).2=true then (qx n x.cap (x.cust.getD c default) (p.map (w8 x (vM x c)))).1.foldl (ZJ x c) (p,true) else ([],false)
theorem ZdB(x:Inst)(c:Nat):∀v:List Visit,v.foldl (ZJ x c) ([],false)=([],false)
 | []=>rfl
 | w :: v=>by rw[AY];exact ZdB x c v
theorem Ztv(x:Inst)(s:Stop)(p:zA):∀z∈p.map (w8 x s),zP z:=by
 intro z hz;obtain⟨d,-,rfl⟩:=Al.1 hz;unfold w8;split
 ·have:=Zc0 (W (yn x (yK x d s).1)-W (yn x d));unfold zP at *;omega
 ·unfold zP;omega
theorem PlanS.sizes{n K:Nat}{p:zA}(h:PlanS n K p)(hn1:n<=1000)(hK:K<=1000):p.length<=1000/\(∀d∈p,d.length<=1000)/\∀d∈p,∀t∈d,t.length<=1000:=by
 refine⟨by have:=h.len;omega,λd hd=>by have:=(h.ok d hd).2.2;omega,λd hd t ht=>?_⟩;have:=ZaE d t ht;have:=(h.ok d hd).2.1;omega
theorem PlanS.set{n K:Nat}{p:zA}(h:PlanS n K p){k:Nat}{e:zk}(he:DayOk e/\e.flatten.length<=K+1/\e.length<=K+1):PlanS n (K+1) (p.set k e):=by
 refine⟨by rw[BE];exact h.len,λd hd=>?_⟩;rcases Bu hd with q | q
 ·obtain⟨g1,g2,g3⟩:=h.ok d q;exact⟨g1,by omega,by omega⟩
 ·rw[q];exact he
theorem ZiU{x:Inst}{n:Nat}(h:InstA x n){p:zA}{K:Nat}(hK:K<=10000)(hp:PlanS n K p){c:Nat}(hc:c<x.cust.length)(h0:(vq x n p c).2=true):PlanS n (K+64) (vq x n p c).1:=by
 have hx:=h.h.cust;unfold vq at h0 ⊢;split at h0
 ·rename_i h1;rw[if_pos h1];have hcm:x.cust.getD c default∈x.cust:=by rw[Aa,Ae hc];exact Bd hc
  have hg:=ZaK (h.made _ hcm) h.n60 x.cap _ h1;have hl:=hg.len;generalize (qx n x.cap (x.cust.getD c default) (p.map (w8 x (vM x c)))).1=v at *;clear hg h1;have key:∀(v:List Visit) (q:zA) (K:Nat),K+v.length<=10100->PlanS n K q->(v.foldl (ZJ x c) (q,true)).2=true->PlanS n (K+v.length) (v.foldl (ZJ x c) (q,true)).1:=by
   intro v
   induction v with
   | nil=>intro q K _ hq _;exact hq
   | cons w v ih =>
    intro q K hKl hq hz;rw[Ad]at hKl ⊢;rw[AY]at hz ⊢;have hs:ZJ x c (q,true) w=if (yK x (q.getD w.d.toNat []) ⟨c,w.q⟩).2=true then (q.set w.d.toNat (yK x (q.getD w.d.toNat []) ⟨c,w.q⟩).1,true) else ([],false):=rfl
    rw[hs]at hz ⊢;split at hz
    ·rename_i hi;rw[if_pos hi];rw[show K+(v.length+1)=(K+1)+v.length by omega];refine ih _ _ DH (hq.set ?_) hz;have hd:DayOk (q.getD w.d.toNat [])/\(q.getD w.d.toNat []).flatten.length<=K/\(q.getD w.d.toNat []).length<=K:=by
      rw[Aa];cases e:q[w.d.toNat]? with
      | none=>exact⟨⟨by simp,by simp,by simp⟩,by simp,by simp⟩
      | some d=>exact hq.ok d (Ab e)
     exact ZdA DH hd.1 hd.2.1 hd.2.2 DH
    ·rw[ZdB]at hz;cases hz
  have:=key v p K DH hp h0;exact⟨this.len,λd hd=>by obtain⟨g1,g2,g3⟩:=this.ok d hd;exact⟨g1,by omega,by omega⟩⟩
 ·cases h0
theorem Ztw{x:Inst}{n:Nat}(h:InstA x n){p:zA}{K:Nat}(hK:K<=900)(hp:PlanS n K p)(c:Nat)(hc:c<x.cust.length):Pure prog 288 [.agg (zy x),.agg [L p],I c] (.tup [.agg [L (vq x n p c).1],B (vq x n p c).2]):=by
 have hx:=h.h.cust;have hn60:=h.n60;have hxd:=h.days;have hpl:=hp.len;obtain⟨hs1,hs2,hs3⟩:=hp.sizes DH DH;obtain⟨cu,tlc,a1,-,-,e1,e0⟩:=el 8 rfl x.cust c hc;have hcm:=Ab a1;have hgc:x.cust.getD c default=cu:=by rw[Aa,a1];rfl
 have hPr:=Ztt x p c (n:=n) (K:=K) DH DH hx hc hp;have hI:=Ztv x (vM x c) p;have hlen:(p.map (w8 x (vM x c))).length<=1000:=by rw[List.length_map];omega
 have hput:vq x n p c=if (qx n x.cap cu (p.map (w8 x (vM x c)))).2=true then (qx n x.cap cu (p.map (w8 x (vM x c)))).1.foldl (ZJ x c) (p,true) else ([],false):=by unfold vq;rw[hgc]
 have hgood:=ZaK (h.made cu hcm) hn60 x.cap (p.map (w8 x (vM x c)));rw[hput];generalize p.map (w8 x (vM x c))=pr at *;have hSo:Pure prog 207 [.agg (yh cu),I x.days,I x.cap,L pr] (.tup [L (qx n x.cap cu pr).1,B (qx n x.cap cu pr).2]):=by
  rw[hxd];exact λS=>Zdd cu n x.cap (.inl rfl) hI hlen (h.made cu hcm) (h.pats cu hcm) hn60
 clear hput;generalize qx n x.cap cu pr=r at *;obtain⟨v,ok⟩:=r;simp only at hSo hgood ⊢;refine zt func288 ntmps288 results288 λS nx hd=>?_
 refine DQ ?_;intro v0 v1 v2;refine za (zz (some [nx,nx+1]) (Row.pures [0,1,2,3,4,5,6,7,8,9,10,11,12,13,14,15,16,17,18] .done) mixed (zo e0 hc) ?_);refine zK (hPr) (zo e0 hc) ?_;refine zK (hSo) (zo e0 hc) ?_;cases ok with
 | false =>
  rw[if_neg DN]
  repeat apply za
  refine zb ?_;refine zn rfl (DQ ?_);refine qk 2 0 rfl rfl ?_;exact DR hd
 | true =>
  have hg:=hgood rfl;have hvl:=hg.len;rw[if_pos rfl]
  repeat apply za
  refine zb ?_;refine zm rfl (zh (DQ ?_));refine λhsuf=>((Zdz p hs1 hs2 hs3 jF).mono ?_).v
  rintro _ _ ⟨v3,rfl,rfl⟩;refine⟨_,_,Xb 3 _,jH [] Nat.add_assoc hsuf ?_⟩;intro v4
  repeat apply za
  refine zb ?_;refine zj (zD (λs:Nat × zA × Nat=>s.1<=v.length/\(v.take s.1).foldl (ZJ x c) (p,true)=(s.2.1,true)/\PlanS n (K+s.1) s.2.1) (λ(k,q,w)=>[(2,I c),(3,.ptr nx v0 0),(6,.ptr (nx+2) v2 0),(10,.ptr (nx+7) v4 0),(38,L v),(39,I v.length),(40,I k)]) (λ(k,q,w)=>[.cells v0 25 (zy x),.cells v1 30 [L p],.cells v2 30 [yq],.dead,.dead,.dead,.cells w 39 (q.flatMap Enc.enc),.cells v4 30 [.sl (nx+6) w 1 0 q.length]]) (λs=>v.length-s.1) (0,p,v3) [] ⟨by simp,by simp,hp⟩ DI DI ?_);rintro⟨k,q,w⟩ ⟨hk,hq,hqs⟩;simp only at hk hq hqs ⊢;have hql:=hqs.len;refine DQ ?_;refine za (zv rfl (λhc1=>?_) (λhc1=>?_))
  ·simp at hc1;obtain⟨u,tl,b1,b2,b3,f1,f0⟩:=el 2 rfl v k hc1;have hu:=hg.ok u (Ab b1);obtain⟨z,hz⟩:∃z:Nat,u.d=z:=⟨u.d.toNat,by omega⟩;have hzl:z<q.length:=DH
   obtain⟨d,tld,d1,d2,d3,d0⟩:=zJ rfl q z hzl;obtain⟨g1,g2,g3⟩:=hqs.ok d (Ab d1);have hins:=Zcp x d ⟨c,u.q⟩ DH g1 DH;have hsz:=ZdA (x:=x) (s:=⟨c,u.q⟩) DH g1 g2 g3 DH;have hst:(v.take (k+1)).foldl (ZJ x c) (p,true)=if (yK x d ⟨c,u.q⟩).2=true then (q.set z (yK x d ⟨c,u.q⟩).1,true) else ([],false):=by
    rw[b3,Bw,hq];have e9:q.getD u.d.toNat []=d:=by rw[hz,AN,Aa,d1];rfl
    show ZJ x c (q,true) u=_
    unfold ZJ;rw[if_pos rfl,e9,hz,AN]
   generalize yK x d ⟨c,u.q⟩=e at *;obtain⟨d',ok'⟩:=e;simp only at hins hst hsz;have hz1:1<=q.length-z:=DH
   have hqf:(q.flatMap Enc.enc:List PV).length=q.length:=jR q;have hsp:=ZcY (α:=zk) rfl q z d' hzl;have hsp':ye (q.flatMap Enc.enc) z [L d']=(q.set z d').flatMap Enc.enc:=by simpa using hsp
   refine zh (za (zj (za (ze [] (zF f0 hc1 hz) ?_))));intro v5;refine DQ ?_;intro v6;refine za (zz (some [nx,nx+6,nx+7,nx+8,nx+9]) (Row.pures [0,1,2,3,4,5,6,7,8,9,10,11] (.alt 12 (.alt 13 (Row.pures [14] .done) .stop) .stop)) mixed (zV d0 hzl hz1 hz) ?_);refine zK (hins) (zV d0 hzl hz1 hz) ?_;intro v7;cases ok' with
   | false =>
    rw[if_neg DN]at hst;have hall:v.foldl (ZJ x c) (p,true)=([],false):=by
     conv=>lhs;rw[<-List.take_append_drop (k+1) v,Bw,hst,ZdB]
    rw[hall]
    repeat apply za
    refine zb ?_;refine zn rfl (DQ ?_);refine qk 2 0 rfl rfl ?_;exact DR hd
   | true =>
    rw[if_pos rfl]at hst
    repeat apply za
    refine zb ?_;refine zm rfl (zh (ze [] (zV hzl hsp' hqf hz) ?_));refine⟨by omega,?_⟩;refine zb ?_;exact zq (k+1,q.set z d',w) [_,_,_] ⟨hc1,hst,hqs.set hsz⟩ DL (by simp[zu k (by omega)]) rfl (by simp;exact⟨rfl,rfl,rfl⟩)
  ·simp at hc1;obtain rfl:k=v.length:=DH
   rw[Ak]at hq;rw[hq];refine zx (yb 6 rfl ?_);refine DQ ?_;exact DR hd
open Go Go.Proofs Hp
theorem PlanS.wo{n K:Nat}{p:zA}(h:PlanS n K p)(c:Int):PlanS n K (JB c p):=by
 refine⟨by unfold JB;rw[List.length_map];exact h.len,λe he=>?_⟩;obtain⟨d,hd,rfl⟩:=Al.1 he;obtain⟨g1,g2,g3⟩:=h.ok d hd;have hl:=Zgj c d;have hm:∀t∈j9 c d,∃u∈d,t=xS c u:=λt ht=>by
  obtain⟨u,hu,e⟩:=Al.1 (Bl.1 ht).1;exact⟨u,hu,e.symm⟩
 refine⟨⟨by have:=g1.n;omega,λt ht=>?_,λt ht s hs=>?_⟩,?_,by omega⟩
 ·obtain⟨u,hu,rfl⟩:=hm t ht;exact AD (Zcr c u) (g1.t u hu)
 ·obtain⟨u,hu,rfl⟩:=hm t ht;exact g1.s u hu s (Bl.1 hs).1
 grind[Zr0]
structure PlanG (x:Inst) (n:Nat) (p:zA):Prop where
 a:InstA x n
 six:x.cust.length<=6
 len:p.length=n
 may:∀d∈p,yr x d=0
theorem PlanG.m{x:Inst}{n:Nat}{p:zA}(h:PlanG x n p):PlanM x p:=⟨by have:=h.six;omega,h.a.h,by have:=h.len;have:=h.a.n60;omega,h.may⟩
theorem PlanG.s{x:Inst}{n:Nat}{p:zA}(h:PlanG x n p):PlanS n 6 p:=by
 refine⟨h.len,λd hd=>?_⟩;obtain⟨h1,h2,h3⟩:=QN (by have:=h.six;omega) (h.may d hd);have:=h.six;exact⟨h3.ok,by omega,by omega⟩
theorem PlanG.serves{x:Inst}{n:Nat}{p:zA}(h:PlanG x n p):Serves x p:=by
 have hs:=h.s;have hn:=h.a.n60;have hl:=hs.len;have hcn:XG p<=1000*p.length:=by
  have:∀p:zA,(∀d∈p,d.flatten.length<=1000)->XG p<=1000*p.length:=by
   intro p
   induction p with
   | nil=>intro _;simp[XG]
   | cons d p ih =>
    intro h;have:=ih λe he=>h e (by simp[he])
    have:=h d DI;simp only[XG,AA,BM,Ad]at *;omega
  exact this p λd hd=>by have:=(hs.ok d hd).2.1;omega
 refine⟨⟨by omega,λd hd=>by have:=(hs.ok d hd).2.2;omega,λd hd=>(hs.ok d hd).1.t,by rw[ZhQ];omega⟩,λs hst=>?_,by omega⟩;obtain⟨d,hd,hsd⟩:=ZcQ p 0 s hst;have:=Zau (h.may d hd) s.1 hsd
 grind[jh]
theorem PlanG.cost{x:Inst}{n:Nat}{p:zA}(h:PlanG x n p):Pure prog 68 [.agg (zy x),.agg [L p]] (I (jW x p)) :=
 Zrd x p h.serves (by have:=h.six;omega) (λc hc=>(h.a.made c hc).fits) λd hd=>(h.s.ok d hd).1
theorem PlanG.clone{x:Inst}{n:Nat}{p:zA}(h:PlanG x n p):Pure prog 180 [.agg [L p]] (.agg [L p]):=by
 obtain⟨h1,h2,h3⟩:=h.s.sizes (by have:=h.a.n60;omega) DH;exact Ztq p h1 h2 h3
theorem PlanS.open{x:Inst}{n K:Nat}(h:InstA x n)(h6:x.cust.length<=6){p:zA}(hp:PlanS n K p)(ho:Ym x p=true):PlanG x n p :=
 ⟨h,h6,hp.len,λd hd=>by simp_all[Ym]⟩
def uM(cs:List Nat)(p:zA):zA:=cs.foldl (λq (c:Nat)=>JB c q) p
def WY(x:Inst)(n:Nat)(st:zA × Bool)(c:Nat):zA × Bool:=if st.2=true then vq x n st.1 c else st
def ul(x:Inst)(n:Nat)(cs:List Nat)(q:zA):zA × Bool:=cs.foldl (WY x n) (q,true)
def wI(x:Inst)(n:Nat)(p:zA)(cs:List Nat):zA × Bool :=
 if (ul x n cs (uM cs p)).2=true then
  (if Ym x (ul x n cs (uM cs p)).1=true/\¬jW x p<=jW x (ul x n cs (uM cs p)).1 then ((ul x n cs (uM cs p)).1,true) else (p,false))
 else (p,false)
theorem ZdC(x:Inst)(n:Nat)(q:zA):∀cs:List Nat,cs.foldl (WY x n) (q,false)=(q,false)
 | []=>rfl
 | c :: cs=>by rw[AY];exact ZdC x n q cs
theorem ZiV{x:Inst}{n:Nat}{p:zA}(h:PlanG x n p)(cs:List Nat)(hl:cs.length<=10)(hcs:∀c∈cs,c<x.cust.length):Pure prog 251 [.agg (zy x),.agg [L p],L (cs.map λ(c:Nat)=>(c:Int))] (.tup [.agg [L (wI x n p cs).1],B (wI x n p cs).2]):=by
 have hA:=h.a;have h6:=h.six;have hn60:=hA.n60;have hcl:=h.clone;have hps:=h.s;have hcost:=h.cost;obtain⟨zs,hzs⟩:∃zs,zs=cs.map λ(c:Nat)=>(c:Int):=⟨_,rfl⟩
 have hzl:zs.length=cs.length:=by rw[hzs,List.length_map]
 have hat:∀(k c:Nat),cs[k]?=some c->zs[k]?=some (c:Int):=λk c e=>by rw[hzs,Ai,e];rfl
 have hanew:wI x n p cs=if (ul x n cs (uM cs p)).2=true then (if Ym x (ul x n cs (uM cs p)).1=true/\¬jW x p<=jW x (ul x n cs (uM cs p)).1 then ((ul x n cs (uM cs p)).1,true) else (p,false)) else (p,false):=rfl
 rw[<-hzs];clear hzs;refine zt func251 ntmps251 results251 λS nx hd=>?_
 refine DQ ?_;intro v0 v1 v2;refine DQ ?_;intro v3
 repeat apply za
 refine zb ?_;refine zj (zD (λs:Nat × zA=>s.1<=zs.length/\s.2=uM (cs.take s.1) p/\PlanS n 6 s.2) (λ(k,q)=>[(2,L zs),(3,.ptr nx v0 0),(4,.ptr (nx+1) v1 0),(6,.ptr (nx+2) v2 0),(8,.ptr (nx+3) v3 0),(9,B true),(15,L zs),(16,I zs.length),(17,I k)]) (λ(k,q)=>[.cells v0 25 (zy x),.cells v1 30 [L p],.cells v2 30 [yq],.cells v3 30 [L q]]) (λs=>zs.length-s.1) (0,p) [] ⟨by simp,by simp[uM],hps⟩ DI DI ?_)
 ·rintro⟨k,q⟩ ⟨hk,hq,hqs⟩;simp only at hk hq hqs ⊢;refine DQ ?_;refine za (zv rfl (λhc1=>?_) (λhc1=>?_))
  ·simp at hc1;obtain⟨c,hc⟩:∃c,cs[k]?=some c:=⟨_,Ae DH⟩;have hcx:=hcs c (Ab hc);obtain⟨z,tl,b1,b2,b3,f0⟩:=zJ rfl zs k hc1;obtain rfl:z=(c:Int):=by have:=hat k c hc;rw[b1]at this;exact Option.some.inj this
   have hth:=Zic x c;rw[show (decide (0<=(c:Int)) && decide ((c:Int)<x.cust.length))=true from by simp;omega]at hth;obtain⟨s1,s2,s3⟩:=hqs.sizes DH DH;have hwo:=ZrZ q c s1 (λd hd=>by have:=s2 d hd;omega) (λd hd t ht=>by have:=s3 d hd t ht;omega);have hnext:JB c q=uM (cs.take (k+1)) p:=by
    rw[hq,AI,hc];simp[uM]
   have hqs2:=hqs.wo c;have hqs2:=hqs.wo c;generalize JB c q=q2 at *;refine zh (za (zj (za (ze [] (zo f0 hc1) ?_))))
   repeat apply za
   refine zb ?_;refine zr hth ?_;refine zm DI ?_;refine zh (zb ?_);refine zr hwo ?_;refine zb ?_;exact zq (k+1,q2) [] ⟨hc1,hnext,hqs2⟩ DL (by simp[zu k (by omega)]) rfl DI
  ·simp at hc1;obtain rfl:k=zs.length:=DH
   rw[hzl,Ak]at hq;refine zx ?_
   repeat apply za
   refine zb ?_;refine zj (zD (λs:Nat × zA=>s.1<=zs.length/\(cs.take s.1).foldl (WY x n) (q,true)=(s.2,true)/\PlanS n (6+64*s.1) s.2) (λ(k,q)=>[(2,L zs),(3,.ptr nx v0 0),(4,.ptr (nx+1) v1 0),(6,.ptr (nx+2) v2 0),(8,.ptr (nx+3) v3 0),(31,L zs),(32,I zs.length),(33,I k)]) (λ(k,q)=>[.cells v0 25 (zy x),.cells v1 30 [L p],.cells v2 30 [yq],.cells v3 30 [L q]]) (λs=>zs.length-s.1) (0,q) [] ⟨by simp,by simp,hqs⟩ DI DI ?_);rw[<-hq]at hanew;clear hqs hq hk hc1;rintro⟨k,r⟩ ⟨hk,hr,hrs⟩;simp only at hk hr hrs ⊢;refine DQ ?_;refine za (zv rfl (λhc1=>?_) (λhc1=>?_))
   ·simp at hc1;obtain⟨c,hc⟩:∃c,cs[k]?=some c:=⟨_,Ae DH⟩;have hcx:=hcs c (Ab hc);obtain⟨z,tl,b1,b2,b3,f0⟩:=zJ rfl zs k hc1;obtain rfl:z=(c:Int):=by have:=hat k c hc;rw[b1]at this;exact Option.some.inj this
    have hput:=Ztw hA (K:=6+64*k) DH hrs c hcx;have hsz:=ZiU hA (K:=6+64*k) DH hrs hcx;have hst:(cs.take (k+1)).foldl (WY x n) (q,true)=vq x n r c:=by
     rw[AI,hc,Bw,hr];rfl
    generalize vq x n r c=e at *;obtain⟨r2,ok⟩:=e;simp only at hput hsz;refine zh (za (zj (za (ze [] (zo f0 hc1) ?_))));refine DQ ?_;refine zr hput ?_;cases ok with
    | false =>
     have hall:ul x n cs q=(r2,false):=by
      unfold ul
      conv=>lhs;rw[<-List.take_append_drop (k+1) cs,Bw,hst,ZdC]
     rw[hall,if_neg DI]at hanew;rw[hanew];refine DQ ?_;refine zn rfl (DQ ?_);refine zr hcl ?_;exact DR hd
    | true =>
     refine DQ ?_;refine zm rfl (zh (zb ?_));exact zq (k+1,r2) [] ⟨hc1,hst,by have:=hsz rfl;rw[show 6+64*(k+1)=6+64*k+64 by omega];exact this⟩ DL (by simp[zu k (by omega)]) rfl DI
   ·simp at hc1;obtain rfl:k=zs.length:=DH
    rw[hzl,Ak]at hr;have hall:ul x n cs q=(r,true):=hr;rw[hall,if_pos rfl]at hanew;have hop:=Ztu x r (n:=n) (K:=6+64*zs.length) DH DH DH hrs;refine zx ?_;cases ho:Ym x r with
    | false =>
     rw[ho]at hop;rw[ho,if_neg DI]at hanew;rw[hanew]
     repeat apply za
     refine zz (some [nx,nx+1,nx+3]) (Row.pures [0,1,2,3,4,5,6,7,8,9,10,11,12] .done) mixed zN ?_;refine zK (hop) zN ?_;refine zn rfl (DQ ?_);refine zr hcl ?_;exact DR hd
    | true =>
     rw[ho]at hop;have hcr:=(hrs.open hA h6 ho).cost;generalize jW x r=z2 at *;generalize jW x p=z1 at *
     by_cases hle:z1<=z2
     ·rw[if_neg (λq=>q.2 hle)]at hanew;rw[hanew]
      repeat apply za
      refine zz (some [nx,nx+1,nx+3]) (Row.pures [0,1,2,3,4,5,6,7,8,9,10,11,12] .done) mixed hle ?_;refine zK (hop) hle ?_;refine zK (hcr) hle ?_;refine zK (hcost) hle ?_;refine zn rfl (DQ ?_);refine zr hcl ?_;exact DR hd
     ·rw[if_pos ⟨ho,hle⟩]at hanew;rw[hanew]
      repeat apply za
      refine zz (some [nx,nx+1,nx+3]) (Row.pures [0,1,2,3,4,5,6,7,8,9,10,11,12] .done) mixed hle ?_;refine zK (hop) hle ?_;refine zK (hcr) hle ?_;refine zK (hcost) hle ?_;refine zm rfl (zh (DQ ?_));exact DR hd
theorem Ztx{x:Inst}{n:Nat}{p:zA}(h:PlanG x n p)(c:Nat)(hc:c<x.cust.length):Pure prog 214 [.agg (zy x),.agg [L p],I c] (.tup [.agg [L (wI x n p [c]).1],B (wI x n p [c]).2]):=by
 have ha:=ZiV h [c] DI (by simpa using hc);simp only[AA,Bo]at ha;refine zt func214 ntmps214 results214 λS nx hd=>?_
 refine DQ ?_;intro v0 v1 v2;refine DQ ?_;refine zr ha ?_;exact DR hd
def Zb(x:Inst)(n:Nat)(p:zA)(a b:Nat):zA × Bool:=if a=b then (p,false) else wI x n p [a,b]
theorem Zty{x:Inst}{n:Nat}{p:zA}(h:PlanG x n p)(a b:Nat)(ha:a<x.cust.length)(hb:b<x.cust.length):Pure prog 215 [.agg (zy x),.agg [L p],I a,I b] (.tup [.agg [L (Zb x n p a b).1],B (Zb x n p a b).2]):=by
 have hcl:=h.clone;unfold Zb
 by_cases hab:a=b
 ·rw[if_pos hab];refine zt func215 ntmps215 results215 λS nx hd=>?_
  refine DQ ?_;intro v0 v1 v2
  repeat apply za
  refine zb ?_;refine zn (by simp[hab]) ?_;refine DQ ?_;refine zr hcl ?_;exact DR hd
 ·rw[if_neg hab];have hn:=ZiV h [a,b] DI (by simpa using ⟨ha,hb⟩);simp only[AA,Bo]at hn;refine zt func215 ntmps215 results215 λS nx hd=>?_
  refine DQ ?_;intro v0 v1 v2
  repeat apply za
  refine zb ?_;refine zm DL ?_;refine zh (DQ ?_);refine zr hn ?_;exact DR hd
theorem ZiW{x:Inst}{n:Nat}(h:InstA x n):∀(cs:List Nat) (K:Nat) (q:zA),(∀c∈cs,c<x.cust.length)->K+64*cs.length<=1000->PlanS n K q->(ul x n cs q).2=true->PlanS n (K+64*cs.length) (ul x n cs q).1
 | [],K,q,_,_,hq,_=>hq
 | c :: cs,K,q,hc,hK,hq,hz=>by
  rw[Ad]at hK ⊢;have e:ul x n (c :: cs) q=cs.foldl (WY x n) (vq x n q c):=rfl;rw[e]at hz ⊢;cases ho:(vq x n q c).2 with
  | false =>
   have:vq x n q c=((vq x n q c).1,false):=by rw[<-ho]
   rw[this,ZdC]at hz;cases hz
  | true =>
   have h1:=ZiU h DH hq (hc c DI) ho;have:vq x n q c=((vq x n q c).1,true):=by rw[<-ho]
   rw[this]at hz ⊢;have:=ZiW h cs (K+64) _ (λc hc'=>hc c (by simp[hc'])) DH h1 hz;rw[show K+64*(cs.length+1)=K+64+64*cs.length by omega];exact this
theorem ZiX{n K:Nat}:∀(cs:List Nat) (p:zA),PlanS n K p->PlanS n K (uM cs p)
 | [],_,h=>h
 | c :: cs,p,h=>ZiX cs _ (h.wo c)
theorem ZdD{x:Inst}{n:Nat}{p:zA}(h:PlanG x n p)(cs:List Nat)(hl:cs.length<=10)(hcs:∀c∈cs,c<x.cust.length):PlanG x n (wI x n p cs).1/\jW x (wI x n p cs).1<=jW x p:=by
 unfold wI;split
 ·rename_i h1;split
  ·rename_i h2;exact⟨(ZiW h.a cs 6 _ hcs DH (ZiX cs p h.s) h1).open h.a h.six h2.1,by have:=h2.2;dsimp only;omega⟩
  ·exact⟨h,CZ _⟩
 ·exact⟨h,CZ _⟩
theorem ZiY{x:Inst}{n:Nat}{p:zA}(h:PlanG x n p)(a b:Nat)(ha:a<x.cust.length)(hb:b<x.cust.length):PlanG x n (Zb x n p a b).1/\jW x (Zb x n p a b).1<=jW x p:=by
 unfold Zb;split
 ·exact⟨h,CZ _⟩
 ·exact ZdD h [a,b] DI (by simpa using ⟨ha,hb⟩)
open Go Go.Proofs Hp
theorem Ztz(op:BinOp)(x y:Int):0<=bits op .u64 x y/\bits op .u64 x y<18446744073709551616:=by
 have h:=wf_bits op .u64 x y;simp[Lit.wf,IntKind.min,IntKind.max,IntKind.signed,IntKind.bits]at h;omega
abbrev jY(s:Int):List PV:=[.sc (.int .u64 s)]
def yG(s:Int):Int:=IntKind.u64.wrap (s+11400714819323198485)
def QR(s:Int):Int :=
 let a:=yG s
 let b:=IntKind.u64.wrap (bits .xor .u64 a (a.fdiv (2 ^ 30))*13787848793156543929)
 let c:=IntKind.u64.wrap (bits .xor .u64 b (b.fdiv (2 ^ 27))*10723151780598845931)
 bits .xor .u64 c (c.fdiv (2 ^ 31))
theorem ZtA(s:Int):0<=QR s/\QR s<18446744073709551616:=by unfold QR;exact Ztz _ _ _
theorem Yn{S:Store}{nx id:Nat}(hd:zW nx S)(hlt:id<nx)(o:Ob):zW nx (S.set id o):=λi hi=>by rw[q10 _ _ _ _ DH];exact hd i hi
theorem ZtB:IntKind.u64.bits=64:=rfl
theorem ZtC(s:Int){S:Store}{id v:Nat}(hS:S id=.cells v 179 (jY s)):Spec prog 126 [.ptr id v 0] S (λq S'=>q=.sc (.int .u64 (QR s))/\S'=S.set id (.cells v 179 (jY (yG s)))):=by
 refine yi func126 ntmps126 results126 λnx hd=>?_
 have hlt:id<nx:=yU hd hS DI;have xw:=λobs=>(zB (S:=S) (obs:=obs) hlt).trans hS
 have yw:=λ(o:Ob) obs=>(zB (S:=S.set id o) (obs:=obs) hlt).trans (q11 _ _ _)
 have g1:¬nx<=id:=DH
 refine DQ ?_;refine za (ze [] (zo xw g1) ?_);refine za (ze [] (zo yw g1) ?_);refine DQ ?_;refine DQ ?_;refine DQ ?_;exact zg ⟨_,_,rfl,⟨by simp[zp,QR,yG,ZtB],rfl⟩,zR (Yn hd hlt _)⟩
def jO(s:Int)(n:Nat):Nat:=(QR s).toNat % n
theorem JG(s:Int){n:Nat}(h:0<n):jO s n<n:=Nat.mod_lt _ h
theorem WZ(s:Int)(n:Nat)(h0:0<n)(hn:n<=4611686018427387904){S:Store}{id v:Nat}(hS:S id=.cells v 179 (jY s)):Spec prog 81 [.ptr id v 0,I n] S (λq S'=>q=I (jO s n)/\S'=S.set id (.cells v 179 (jY (yG s)))):=by
 have hb:=ZtA s;have hbl:=JG s h0;have e1:(QR s).tmod (n:Int)=(jO s n:Int):=by
  unfold jO;obtain⟨m,hm⟩:=Av hb.1;rw[hm,AN,Be DH];omega
 have w1:IntKind.u64.wrap (n:Int)=n:=by rw[IntWalk.u64_in _ DH]
 have w2:IntKind.i64.wrap (jO s n:Int)=jO s n:=wr _ DH DH;have hw:=λ(S:Store) hS=>ZtC s (S:=S) (id:=id) (v:=v) hS
 generalize QR s=r at *;generalize jO s n=k at *;refine yi func81 ntmps81 results81 λnx hd=>?_
 have hlt:id<nx:=yU hd hS DI;have xw:=λobs=>(zB (S:=S) (obs:=obs) hlt).trans hS
 refine DQ ?_
 repeat apply za
 refine zb ?_;refine zm DL ?_;refine zh (za (ze [] (zF w1 e1 w2) ?_));refine λhsuf=>((hw _ (xw _)).mono ?_).v
 rintro _ _ ⟨rfl,rfl⟩;refine⟨S.set id (.cells v 179 (jY (yG s))),[],yZ _ hlt,?_⟩;have g2:¬n=0:=DH
 refine jH [] (zV w1 e1 w2 g2) hsuf ?_;exact zg ⟨_,_,rfl,⟨by simp[zp],rfl⟩,zR (Yn hd hlt _)⟩
theorem ZiZ(s:Int){S:Store}{nx:Nat}(hd:zW nx S):Spec prog 78 [I s] S (λq S'=>∃v,q=.ptr nx v 0/\S'=S.set nx (.cells v 179 (jY (IntKind.u64.wrap s)))):=by
 refine ut hd func78 ntmps78 results78 ?_;refine DQ ?_;refine DQ ?_;intro v0;exact zg ⟨_,_,rfl,⟨v0,by simp[zp],rfl⟩,Qj (j:=0) hd DI⟩
open Go Go.Proofs Hp
abbrev JH(x:Inst)(p:zA)(a o d:Nat)(b:Int):List PV:=[I x.days,I x.veh,I x.cap,I x.len,L x.cust,L x.dist,L p,I a,I o,I d,I b]
theorem ZtD{x:Inst}{n:Nat}{p:zA}(h:PlanG x n p)(d:Nat)(b:Int):PlanG x n (vR x p d b).1:=by
 unfold vR;split
 ·exact h
 ·split
  ·exact h
  ·refine⟨h.a,h.six,by rw[BE];exact h.len,λe he=>?_⟩;rcases Bu he with q | q
   ·exact h.may e q
   ·rw[q];rename_i h1 h2;have hlt:(d:Int).toNat<p.length:=DH
    refine(ZiT (by have:=h.six;omega) h.a.h (h.may _ ?_) b).1;rw[Aa,Ae hlt];exact Bd hlt
theorem ZtE{x:Inst}{n:Nat}{p:zA}(h:PlanG x n p)(a o d:Nat)(b:Int)(ha:a<x.cust.length){S:Store}{id v:Nat}(hS:S id=.cells v 245 (JH x p a o d b)):
  Spec prog 181 [.ptr id v 0] S (λ_ S'=>S'=S.set id (.cells v 245 (JH x (wI x n p [a]).1 a o d b))):=by
 have hr:=Ztx h a ha;generalize wI x n p [a]=r at *;obtain⟨q,ok⟩:=r;simp only at hr ⊢;refine yi func181 ntmps181 results181 λnx hd=>?_
 have hlt:id<nx:=yU hd hS DI;have xw:=λobs=>(zB (S:=S) (obs:=obs) hlt).trans hS
 have g1:¬nx<=id:=DH
 refine zz (some []) (Row.pures [0,1,2,3,5,6,7,9,10,11] (.alt 4 (.alt 8 (.alt 12 (Row.pures [13,14,15,16,17,18] (.alt 19 (.done) .stop)) .stop) (.alt 12 (.alt 8 (Row.pures [13,14,15,16,17,18] (.alt 19 (.done) .stop)) .stop) .stop)) (.alt 8 (.alt 4 (.alt 12 (Row.pures [13,14,15,16,17,18] (.alt 19 (.done) .stop)) .stop) (.alt 12 (.alt 4 (Row.pures [13,14,15,16,17,18] (.alt 19 (.done) .stop)) .stop) .stop)) (.alt 12 (.alt 4 (.alt 8 (Row.pures [13,14,15,16,17,18] (.alt 19 (.done) .stop)) .stop) (.alt 8 (.alt 4 (Row.pures [13,14,15,16,17,18] (.alt 19 (.done) .stop)) .stop) .stop)) .stop)))) mixed (zo xw g1) ?_
 repeat' refine And.intro ?_ ?_
 all_goals
  refine zK (hr) (zo xw g1) ?_;exact⟨_,_,rfl,by simp,zR (Yn hd hlt _)⟩
theorem ZtF{x:Inst}{n:Nat}{p:zA}(h:PlanG x n p)(a o d:Nat)(b:Int)(ha:a<x.cust.length)(ho:o<x.cust.length){S:Store}{id v:Nat}(hS:S id=.cells v 245 (JH x p a o d b)):
  Spec prog 182 [.ptr id v 0] S (λ_ S'=>S'=S.set id (.cells v 245 (JH x (Zb x n p a o).1 a o d b))):=by
 have hr:=Zty h a o ha ho;generalize Zb x n p a o=r at *;obtain⟨q,ok⟩:=r;simp only at hr ⊢;refine yi func182 ntmps182 results182 λnx hd=>?_
 have hlt:id<nx:=yU hd hS DI;have xw:=λobs=>(zB (S:=S) (obs:=obs) hlt).trans hS
 have g1:¬nx<=id:=DH
 refine zz (some []) (Row.pures [0,1,2,3,5,6,7,9,10,11,13,14,15] (.alt 4 (.alt 8 (.alt 12 (.alt 16 (Row.pures [17,18,19,20,21,22] (.alt 23 (.done) .stop)) .stop) (.alt 16 (.alt 12 (Row.pures [17,18,19,20,21,22] (.alt 23 (.done) .stop)) .stop) .stop)) (.alt 12 (.alt 8 (.alt 16 (Row.pures [17,18,19,20,21,22] (.alt 23 (.done) .stop)) .stop) (.alt 16 (.alt 8 (Row.pures [17,18,19,20,21,22] (.alt 23 (.done) .stop)) .stop) .stop)) (.alt 16 (.alt 8 (.alt 12 (Row.pures [17,18,19,20,21,22] (.alt 23 (.done) .stop)) .stop) (.alt 12 (.alt 8 (Row.pures [17,18,19,20,21,22] (.alt 23 (.done) .stop)) .stop) .stop)) .stop))) (.alt 8 (.alt 4 (.alt 12 (.alt 16 (Row.pures [17,18,19,20,21,22] (.alt 23 (.done) .stop)) .stop) (.alt 16 (.alt 12 (Row.pures [17,18,19,20,21,22] (.alt 23 (.done) .stop)) .stop) .stop)) (.alt 12 (.alt 4 (.alt 16 (Row.pures [17,18,19,20,21,22] (.alt 23 (.done) .stop)) .stop) (.alt 16 (.alt 4 (Row.pures [17,18,19,20,21,22] (.alt 23 (.done) .stop)) .stop) .stop)) (.alt 16 (.alt 4 (.alt 12 (Row.pures [17,18,19,20,21,22] (.alt 23 (.done) .stop)) .stop) (.alt 12 (.alt 4 (Row.pures [17,18,19,20,21,22] (.alt 23 (.done) .stop)) .stop) .stop)) .stop))) (.alt 12 (.alt 4 (.alt 8 (.alt 16 (Row.pures [17,18,19,20,21,22] (.alt 23 (.done) .stop)) .stop) (.alt 16 (.alt 8 (Row.pures [17,18,19,20,21,22] (.alt 23 (.done) .stop)) .stop) .stop)) (.alt 8 (.alt 4 (.alt 16 (Row.pures [17,18,19,20,21,22] (.alt 23 (.done) .stop)) .stop) (.alt 16 (.alt 4 (Row.pures [17,18,19,20,21,22] (.alt 23 (.done) .stop)) .stop) .stop)) (.alt 16 (.alt 4 (.alt 8 (Row.pures [17,18,19,20,21,22] (.alt 23 (.done) .stop)) .stop) (.alt 8 (.alt 4 (Row.pures [17,18,19,20,21,22] (.alt 23 (.done) .stop)) .stop) .stop)) .stop))) (.alt 16 (.alt 4 (.alt 8 (.alt 12 (Row.pures [17,18,19,20,21,22] (.alt 23 (.done) .stop)) .stop) (.alt 12 (.alt 8 (Row.pures [17,18,19,20,21,22] (.alt 23 (.done) .stop)) .stop) .stop)) (.alt 8 (.alt 4 (.alt 12 (Row.pures [17,18,19,20,21,22] (.alt 23 (.done) .stop)) .stop) (.alt 12 (.alt 4 (Row.pures [17,18,19,20,21,22] (.alt 23 (.done) .stop)) .stop) .stop)) (.alt 12 (.alt 4 (.alt 8 (Row.pures [17,18,19,20,21,22] (.alt 23 (.done) .stop)) .stop) (.alt 8 (.alt 4 (Row.pures [17,18,19,20,21,22] (.alt 23 (.done) .stop)) .stop) .stop)) .stop))) .stop))))) mixed (zo xw g1) ?_
 repeat' refine And.intro ?_ ?_
 all_goals
  refine zK (hr) (zo xw g1) ?_;exact⟨_,_,rfl,by simp,zR (Yn hd hlt _)⟩
theorem ZtG{x:Inst}{n:Nat}{p:zA}(h:PlanG x n p)(a o d:Nat)(b:Int)(hb:b<=9223372036854775807){S:Store}{id v:Nat}(hS:S id=.cells v 245 (JH x p a o d b)):
  Spec prog 183 [.ptr id v 0] S (λ_ S'=>S'=S.set id (.cells v 245 (JH x (vR x p d b).1 a o d b))):=by
 have hr:=Zts h.m d b hb;generalize vR x p d b=r at *;obtain⟨q,ok⟩:=r;simp only at hr ⊢;refine yi func183 ntmps183 results183 λnx hd=>?_
 have hlt:id<nx:=yU hd hS DI;have xw:=λobs=>(zB (S:=S) (obs:=obs) hlt).trans hS
 have g1:¬nx<=id:=DH
 refine zz (some []) (Row.pures [0,1,2,3,5,6,7,9,10,11,13,14,15] (.alt 4 (.alt 8 (.alt 12 (.alt 16 (Row.pures [17,18,19,20,21,22] (.alt 23 (.done) .stop)) .stop) (.alt 16 (.alt 12 (Row.pures [17,18,19,20,21,22] (.alt 23 (.done) .stop)) .stop) .stop)) (.alt 12 (.alt 8 (.alt 16 (Row.pures [17,18,19,20,21,22] (.alt 23 (.done) .stop)) .stop) (.alt 16 (.alt 8 (Row.pures [17,18,19,20,21,22] (.alt 23 (.done) .stop)) .stop) .stop)) (.alt 16 (.alt 8 (.alt 12 (Row.pures [17,18,19,20,21,22] (.alt 23 (.done) .stop)) .stop) (.alt 12 (.alt 8 (Row.pures [17,18,19,20,21,22] (.alt 23 (.done) .stop)) .stop) .stop)) .stop))) (.alt 8 (.alt 4 (.alt 12 (.alt 16 (Row.pures [17,18,19,20,21,22] (.alt 23 (.done) .stop)) .stop) (.alt 16 (.alt 12 (Row.pures [17,18,19,20,21,22] (.alt 23 (.done) .stop)) .stop) .stop)) (.alt 12 (.alt 4 (.alt 16 (Row.pures [17,18,19,20,21,22] (.alt 23 (.done) .stop)) .stop) (.alt 16 (.alt 4 (Row.pures [17,18,19,20,21,22] (.alt 23 (.done) .stop)) .stop) .stop)) (.alt 16 (.alt 4 (.alt 12 (Row.pures [17,18,19,20,21,22] (.alt 23 (.done) .stop)) .stop) (.alt 12 (.alt 4 (Row.pures [17,18,19,20,21,22] (.alt 23 (.done) .stop)) .stop) .stop)) .stop))) (.alt 12 (.alt 4 (.alt 8 (.alt 16 (Row.pures [17,18,19,20,21,22] (.alt 23 (.done) .stop)) .stop) (.alt 16 (.alt 8 (Row.pures [17,18,19,20,21,22] (.alt 23 (.done) .stop)) .stop) .stop)) (.alt 8 (.alt 4 (.alt 16 (Row.pures [17,18,19,20,21,22] (.alt 23 (.done) .stop)) .stop) (.alt 16 (.alt 4 (Row.pures [17,18,19,20,21,22] (.alt 23 (.done) .stop)) .stop) .stop)) (.alt 16 (.alt 4 (.alt 8 (Row.pures [17,18,19,20,21,22] (.alt 23 (.done) .stop)) .stop) (.alt 8 (.alt 4 (Row.pures [17,18,19,20,21,22] (.alt 23 (.done) .stop)) .stop) .stop)) .stop))) (.alt 16 (.alt 4 (.alt 8 (.alt 12 (Row.pures [17,18,19,20,21,22] (.alt 23 (.done) .stop)) .stop) (.alt 12 (.alt 8 (Row.pures [17,18,19,20,21,22] (.alt 23 (.done) .stop)) .stop) .stop)) (.alt 8 (.alt 4 (.alt 12 (Row.pures [17,18,19,20,21,22] (.alt 23 (.done) .stop)) .stop) (.alt 12 (.alt 4 (Row.pures [17,18,19,20,21,22] (.alt 23 (.done) .stop)) .stop) .stop)) (.alt 12 (.alt 4 (.alt 8 (Row.pures [17,18,19,20,21,22] (.alt 23 (.done) .stop)) .stop) (.alt 8 (.alt 4 (Row.pures [17,18,19,20,21,22] (.alt 23 (.done) .stop)) .stop) .stop)) .stop))) .stop))))) mixed (zo xw g1) ?_
 repeat' refine And.intro ?_ ?_
 all_goals
  refine zK (hr) (zo xw g1) ?_;exact⟨_,_,rfl,by simp,zR (Yn hd hlt _)⟩
open Go Go.Proofs Hp
def Y1(x:Inst)(n:Nat)(p:zA)(s b:Int):zA :=
 if x.cust.length=0 then p else
  (vR x (Zb x n (wI x n p [jO s x.cust.length]).1 (jO s x.cust.length) (jO (yG s) x.cust.length)).1 (jO (yG (yG s)) n) b).1
def JJ(x:Inst)(s:Int):Int:=if x.cust.length=0 then s else yG (yG (yG s))
theorem ZtH{x:Inst}{n:Nat}{p:zA}(h:PlanG x n p)(s b:Int):PlanG x n (Y1 x n p s b):=by
 unfold Y1;split
 ·exact h
 ·rename_i h0;have ha:=JG s (n:=x.cust.length) DH;have ho:=JG (yG s) (n:=x.cust.length) DH;exact ZtD (ZiY (ZdD h _ DI (by simpa using ha)).1 _ _ ha ho).1 _ _
def QS(p q1 q2 q3:zA)(k:Nat):zA:=if k=0 then p else if k=1 then q1 else if k=2 then q2 else q3
theorem Zi0(p q1 q2 q3:zA):QS p q1 q2 q3 0=p:=if_pos rfl
theorem Zi1(p q1 q2 q3:zA):QS p q1 q2 q3 1=q1:=by unfold QS;rw[if_neg DN,if_pos rfl]
theorem Zi2(p q1 q2 q3:zA):QS p q1 q2 q3 2=q2:=by unfold QS;rw[if_neg DN,if_neg DN,if_pos rfl]
theorem Zi3(p q1 q2 q3:zA):QS p q1 q2 q3 3=q3:=by unfold QS;rw[if_neg DN,if_neg DN,if_neg DN]
theorem ZtI{x:Inst}{n:Nat}{p:zA}(h:PlanG x n p)(hn0:0<n)(s b:Int)(hb:b<=9223372036854775807){S:Store}{id v:Nat}(hS:S id=.cells v 179 (jY s)):
  Spec prog 129 [.agg (zy x),.agg [L p],.ptr id v 0,I b] S (λq S'=>q=.agg [L (Y1 x n p s b)]/\S'=S.set id (.cells v 179 (jY (JJ x s)))):=by
 have hcl:=h.clone;have h6:=h.six;have hxd:=h.a.days;have hn60:=h.a.n60
 by_cases hm:x.cust.length=0
 ·have e1:Y1 x n p s b=p:=by unfold Y1;rw[if_pos hm]
  have e2:JJ x s=s:=by unfold JJ;rw[if_pos hm]
  rw[e1,e2];refine yi func129 ntmps129 results129 λnx hd=>?_
  have hlt:id<nx:=yU hd hS DI;refine DQ ?_;intro v0 v1 v2;refine za (zz (some [nx,nx+1]) (Row.pures [0,1,2,3,4] (.alt 5 (Row.pures [6] .done) .stop)) mixed trivial ?_);refine zK (hcl) trivial ?_;intro v3;refine DQ ?_
  repeat apply za
  refine zb ?_;refine zn (by simp[Ck.1 hm]) ?_;refine DQ ?_;have eS:S.set id (.cells v 179 (jY s))=S:=by
   rw[<-hS];funext i
   by_cases hi:i=id
   ·subst hi;exact q11 _ _ _
   ·exact q10 _ _ _ _ hi
  rw[eS];exact zg ⟨_,S,DJ,⟨by simp[zp],rfl⟩,zR hd⟩
 have e1:Y1 x n p s b=(vR x (Zb x n (wI x n p [jO s x.cust.length]).1 (jO s x.cust.length) (jO (yG s) x.cust.length)).1 (jO (yG (yG s)) n) b).1:=by unfold Y1;rw[if_neg hm]
 have e2:JJ x s=yG (yG (yG s)):=by unfold JJ;rw[if_neg hm]
 rw[e1,e2];have ha:=JG s (n:=x.cust.length) DH;have ho:=JG (yG s) (n:=x.cust.length) DH;have hdd:=JG (yG (yG s)) hn0;have b1:=λ(S:Store) hS=>WZ s x.cust.length DH DH (S:=S) (id:=id) (v:=v) hS
 have b2:=λ(S:Store) hS=>WZ (yG s) x.cust.length DH DH (S:=S) (id:=id) (v:=v) hS
 have b3:=λ(S:Store) hS=>WZ (yG (yG s)) n DH DH (S:=S) (id:=id) (v:=v) hS
 rw[<-hxd]at b3;have hp1:PlanG x n (wI x n p [jO s x.cust.length]).1:=(ZdD h _ DI (by simpa using ha)).1;have hp2:=(ZiY hp1 _ _ ha ho).1;generalize jO s x.cust.length=a at *;generalize jO (yG s) x.cust.length=o at *;generalize jO (yG (yG s)) n=d at *;generalize yG (yG s)=s2 at *;generalize yG s=s1 at *;generalize yG s2=s3 at *;have r1:=λ(S:Store) (i w:Nat) hS=>ZtE h a o d b ha (S:=S) (id:=i) (v:=w) hS
 have r2:=λ(S:Store) (i w:Nat) hS=>ZtF hp1 a o d b ha ho (S:=S) (id:=i) (v:=w) hS
 have r3:=λ(S:Store) (i w:Nat) hS=>ZtG hp2 a o d b hb (S:=S) (id:=i) (v:=w) hS
 clear hp1 hp2;generalize (vR x (Zb x n (wI x n p [a]).1 a o).1 d b).1=q3 at *;generalize (Zb x n (wI x n p [a]).1 a o).1=q2 at *;generalize (wI x n p [a]).1=q1 at *;clear e1 e2;refine yi func129 ntmps129 results129 λnx hd=>?_
 have hlt:id<nx:=yU hd hS DI;have xw:=λobs=>(zB (S:=S) (obs:=obs) hlt).trans hS
 refine DQ ?_;intro v0 v1 v2;refine za (zz (some [nx,nx+1]) (Row.pures [0,1,2,3,4] (.alt 5 (Row.pures [6] .done) .stop)) mixed trivial ?_);refine zK (hcl) trivial ?_;intro v3;refine DQ ?_
 repeat apply za
 refine zb ?_;have hm2:¬x.cust=[]:=λe=>hm (by rw[e];rfl)
 refine zm (by simp[hm2]) ?_;refine zh (DQ ?_);refine λhsuf=>((b1 _ (xw _)).mono ?_).v
 rintro _ _ ⟨rfl,rfl⟩;refine⟨_,_,yZ _ hlt,zG hsuf ?_⟩;have hS1:(S.set id (.cells v 179 (jY s1))) id=.cells v 179 (jY s1):=q11 _ _ _;have hd1:=Yn hd hlt (.cells v 179 (jY s1));obtain⟨S1,hS1e⟩:∃S1,S1=S.set id (.cells v 179 (jY s1)):=⟨_,rfl⟩;rw[<-hS1e]at hS1 hd1 ⊢;have xw1:=λobs=>(zB (S:=S1) (obs:=obs) hlt).trans hS1
 refine DQ ?_;refine λhsuf=>((b2 _ (xw1 _)).mono ?_).v
 rintro _ _ ⟨rfl,rfl⟩;refine⟨_,_,yZ _ hlt,zG hsuf ?_⟩;have hS2:(S1.set id (.cells v 179 (jY s2))) id=.cells v 179 (jY s2):=q11 _ _ _;have hd2:=Yn hd1 hlt (.cells v 179 (jY s2));obtain⟨S2,hS2e⟩:∃S2,S2=S1.set id (.cells v 179 (jY s2)):=⟨_,rfl⟩;rw[<-hS2e]at hS2 hd2 ⊢;have xw2:=λobs=>(zB (S:=S2) (obs:=obs) hlt).trans hS2
 refine DQ ?_;refine λhsuf=>((b3 _ (xw2 _)).mono ?_).v
 rintro _ _ ⟨rfl,rfl⟩;refine⟨_,_,yZ _ hlt,zG hsuf ?_⟩;have hd3:=Yn hd2 hlt (.cells v 179 (jY s3));obtain⟨S3,hS3e⟩:∃S3,S3=S2.set id (.cells v 179 (jY s3)):=⟨_,rfl⟩;rw[<-hS3e]at hd3 ⊢
 repeat apply za
 refine zb ?_;refine zj (zD (λk:Nat=>k<=3) (λk=>[(8,.ptr (nx+2) v2 0),(9,.ptr (nx+3) v3 0),(53,.lst 3 [.fn (.func 181) [.ptr (nx+3) v3 0] [],.fn (.func 182) [.ptr (nx+3) v3 0] [],.fn (.func 183) [.ptr (nx+3) v3 0] []]),(54,I 3),(55,I k)]) (λk=>[.cells v0 25 (zy x),.cells v1 30 [L p],.cells v2 30 [yq],.cells v3 245 (JH x (QS p q1 q2 q3 k) a o d b)]) (λk=>3-k) 0 [] DI DI (by simp[Zi0]) ?_);rintro k hk;refine DQ ?_;refine za (zv rfl (λhc=>?_) (λhc=>?_))
 ·simp at hc;refine zh (za (zj ?_));obtain rfl | rfl | rfl:k=0\/k=1\/k=2:=DH
  ·refine DQ ?_;refine zb ?_;refine λhsuf=>((r1 _ (nx+3) v3 (by rw[zQ];simp[Zi0])).mono ?_).v
   rintro _ _ rfl;refine⟨S3,_,(by rw[yc _ (by omega) (by simp),AG]),zG hsuf ?_⟩;refine zb ?_;exact zq 1 [] DH DH (by simp;exact wr 1 (by omega) (by omega)) rfl (by simp[Zi1])
  ·refine DQ ?_;refine zb ?_;refine λhsuf=>((r2 _ (nx+3) v3 (by rw[zQ];simp[Zi1])).mono ?_).v
   rintro _ _ rfl;refine⟨S3,_,(by rw[yc _ (by omega) (by simp),AG]),zG hsuf ?_⟩;refine zb ?_;exact zq 2 [] DH DH (by simp;exact wr 2 (by omega) (by omega)) rfl (by simp[Zi2])
  ·refine DQ ?_;refine zb ?_;refine λhsuf=>((r3 _ (nx+3) v3 (by rw[zQ];simp[Zi2])).mono ?_).v
   rintro _ _ rfl;refine⟨S3,_,(by rw[yc _ (by omega) (by simp),AG]),zG hsuf ?_⟩;refine zb ?_;exact zq 3 [] DH DH (by simp;exact wr 3 (by omega) (by omega)) rfl (by simp[Zi3])
 ·simp at hc;obtain rfl:k=3:=DH
  refine zx ?_;rw[Zi3];refine DQ ?_;have eS:S.set id (.cells v 179 (jY s3))=S3:=by rw[hS3e,hS2e,hS1e,Store.set_set,Store.set_set]
  rw[eS];exact zg ⟨_,S3,DJ,⟨by simp[zp],rfl⟩,zR hd3⟩
open Go Go.Proofs Hp
def wg(x:Inst)(n:Nat)(b:Int)(p:zA)(s:Int):Nat->zA × Int
 | 0=>(p,s)
 | k+1=>(Y1 x n (wg x n b p s k).1 (wg x n b p s k).2 b,JJ x (wg x n b p s k).2)
def Yo(x:Inst)(n:Nat)(b:Int)(p:zA)(s:Int)(k:Nat):List zA:=(List.range (k+1)).map λi=>(wg x n b p s i).1
theorem ZtJ(x:Inst)(n:Nat)(b:Int)(p:zA)(s:Int):Yo x n b p s 0=[p]:=rfl
theorem Zi4(x:Inst)(n:Nat)(b:Int)(p:zA)(s:Int)(k:Nat):Yo x n b p s (k+1)=Yo x n b p s k++[(wg x n b p s (k+1)).1]:=by
 unfold Yo;rw[AL,List.map_append];rfl
theorem ZtK(x:Inst)(n:Nat)(b:Int)(p:zA)(s:Int)(k:Nat):(Yo x n b p s k).length=k+1:=by simp[Yo]
theorem ZdE{x:Inst}{n:Nat}{p:zA}(h:PlanG x n p)(b s:Int):∀k,PlanG x n (wg x n b p s k).1
 | 0=>h
 | k+1=>ZtH (ZdE h b s k) _ _
abbrev JK(seed r b cl:Int):List PV:=[I seed,I r,I b,I cl]
theorem ZtL{x:Inst}{n:Nat}(hA:InstA x n)(hn0:0<n)(hmay:∀b,(jM x b).2=0->PlanG x n (jM x b).1)(seed:Int)(r:Nat)(hr:r<=1000)(b:Int)(hb:b<=9223372036854775807)(cl:Int)(fn:FuncId)(cs:List PV){S:Store}(St:List zA->Store)(hS0:St []=S)
  (hdead:∀nx,zW nx S->∀h,zW nx (St h))
  (hshow:∀nx,zW nx S->∀(h:List zA) (p:zA) (obs:List Ob),h.length<=1001->PlanG x n p->Spec prog fn ([.agg [L p]]++cs) (ext (St h) nx obs) (λ_ S'=>S'=ext (St (h++[p])) nx obs)) :
  Spec prog 84 [.agg (zy x),.agg (JK seed r b cl),.fn (.func fn) [] cs] S (λq S'=>q=I (jM x b).2/\S'=St (if (jM x b).2=0 then Yo x n b (jM x b).1 (IntKind.u64.wrap seed) r else [])):=by
 subst hS0;have hSt:=ZrW hA hb;have hmay:=hmay b;generalize jM x b=st at *;obtain⟨p0,e⟩:=st;simp only at hSt hmay ⊢;refine yi func84 ntmps84 results84 λnx hd=>?_
 have hshow:=hshow nx hd;have hdead:=hdead nx hd;refine DQ ?_;intro v0 v1;refine DQ ?_;refine zr hSt ?_;intro v2
 by_cases he:e=0
 case neg =>
  rw[if_neg he]
  repeat apply za
  refine zb ?_;refine zn (by simp[he]) ?_;refine DQ ?_;exact zg ⟨_,_,rfl,⟨by simp[zp],rfl⟩,zR hd⟩
 subst he;rw[if_pos rfl];have hG:=hmay rfl;have hit:=ZdE hG b (IntKind.u64.wrap seed)
 repeat apply za
 refine zb ?_;refine zm DI ?_;refine zh (DQ ?_);refine λhsuf=>((hshow [] p0 _ DI hG).mono ?_).v
 rintro _ _ rfl;refine⟨_,_,rfl,zG hsuf ?_⟩;refine DQ ?_;refine λhsuf=>((ZiZ seed jF).mono ?_).v
 rintro _ _ ⟨v3,rfl,rfl⟩;refine⟨_,_,qG _,zG hsuf ?_⟩
 repeat apply za
 refine zb ?_;have hz:Yo x n b p0 (IntKind.u64.wrap seed) 0=[]++[p0]:=rfl;generalize IntKind.u64.wrap seed=s0 at *;refine zj (jt (σ:=Nat) (λk=>k<=r) (λk=>[(2,.fn (.func fn) [] cs),(3,.ptr nx v0 0),(4,.ptr (nx+1) v1 0),(7,.ptr (nx+2) v2 0),(9,.ptr (nx+3) v3 0),(27,I r),(28,I k)]) (λk=>St (Yo x n b p0 s0 k)) (λk=>[.cells v0 25 (zy x),.cells v1 65 (JK seed r b cl),.cells v2 30 [L (wg x n b p0 s0 k).1],.cells v3 179 (jY (wg x n b p0 s0 k).2)]) (λk=>r-k) (z8 0 [] DI DI (by rw[ZtJ]) (by simp[wg])) ?_);rintro k hk;have hgk:=hit k;have hgn:=hit (k+1);have hrd:=λ(S:Store) (id v:Nat) hS=>ZtI hgk hn0 (wg x n b p0 s0 k).2 b hb (S:=S) (id:=id) (v:=v) hS
 have hnx:Y1 x n (wg x n b p0 s0 k).1 (wg x n b p0 s0 k).2 b=(wg x n b p0 s0 (k+1)).1:=rfl;have hnx2:JJ x (wg x n b p0 s0 k).2=(wg x n b p0 s0 (k+1)).2:=rfl;have hhs:=Zi4 x n b p0 s0 k;have hhl:=ZtK x n b p0 s0 k;rw[hnx,hnx2]at hrd;refine DQ ?_;refine za (zv rfl (λhc=>?_) (λhc=>?_))
 ·simp at hc;refine zh (za (zj (DQ ?_)));refine λhsuf=>((hrd _ (nx+3) v3 (by rw[zQ];rfl)).mono ?_).v
  rintro _ _ ⟨rfl,rfl⟩;refine⟨_,_,yc _ DH DI,zG hsuf ?_⟩
  try simp only[AG,AV,A4]
  refine zb ?_;refine λhsuf=>((hshow _ _ _ DH hgn).mono ?_).v
  rintro _ _ rfl;refine⟨_,_,rfl,zG hsuf ?_⟩;refine zb ?_;exact zq (k+1) [] hc DH (by simp[zu k (by omega)]) (by rw[hhs]) DI
 ·simp at hc;obtain rfl:k=r:=DH
  refine zx (DQ ?_);exact zg ⟨_,_,rfl,⟨by simp[zp],rfl⟩,zR (hdead _)⟩
open Go Go.Proofs Hp
theorem ZtM(p:zA){S:Store}{id v:Nat}{old:PV}(hS:S id=.cells v 30 [old]):Spec prog 85 [.agg [L p],.ptr id v 0] S (λ_ S'=>S'=S.set id (.cells v 30 [L p])):=by
 refine yi func85 ntmps85 results85 λnx hd=>?_
 have hlt:id<nx:=yU hd hS DI;have xw:=λobs=>(zB (S:=S) (obs:=obs) hlt).trans hS
 have g1:¬nx<=id:=DH
 refine DQ ?_;intro v0;refine ze [] (zo xw g1) ?_;exact⟨_,_,rfl,by simp,zR (Yn hd hlt _)⟩
def W0(h:List zA):PV:=match h.getLast? with
 | none=>yq
 | some p=>L p
theorem Zi5(h:List zA)(p:zA):W0 (h++[p])=L p:=by unfold W0;rw[List.getLast?_append];rfl
theorem ZtN(x:Inst)(n:Nat)(b:Int)(p:zA)(s:Int)(k:Nat):W0 (Yo x n b p s k)=L (wg x n b p s k).1:=by
 cases k with
 | zero=>rfl
 | succ k=>rw[Zi4,Zi5]
def Y2(x:Inst)(n:Nat)(seed:Int)(r:Nat)(b:Int):zA × Int :=
 if (jM x b).2=0 then ((wg x n b (jM x b).1 (IntKind.u64.wrap seed) r).1,0) else ([],(jM x b).2)
theorem ZtO{x:Inst}{n:Nat}(hA:InstA x n)(hn0:0<n)(hmay:∀b,(jM x b).2=0->PlanG x n (jM x b).1)(seed:Int)(r:Nat)(hr:r<=1000)(b:Int)(hb:b<=9223372036854775807)(cl:Int):
  Pure prog 35 [.agg (zy x),.agg (JK seed r b cl)] (.tup [.agg [L (Y2 x n seed r b).1],I (Y2 x n seed r b).2]):=by
 have hw:=λ(S:Store) fn cs St h1 h2 h3=>ZtL hA hn0 hmay seed r hr b hb cl fn cs (S:=S) St h1 h2 h3
 have hrz:Y2 x n seed r b=if (jM x b).2=0 then ((wg x n b (jM x b).1 (IntKind.u64.wrap seed) r).1,0) else ([],(jM x b).2):=rfl
 have hl:=λp s=>ZtN x n b p s r
 generalize jM x b=st at *;obtain⟨p0,e⟩:=st;simp only at hw hrz;generalize IntKind.u64.wrap seed=s0 at *;refine zt func35 ntmps35 results35 λS nx hd=>?_
 refine DQ ?_;intro v0 v1 v2;refine DQ ?_;intro v3;obtain⟨S1,hS1⟩:∃S1,S1=ext S nx [.cells v0 25 (zy x),.cells v1 65 (JK seed r b cl),.cells v2 30 [yq],.cells v3 30 [yq]]:=⟨_,rfl⟩;have h1:S1 (nx+3)=.cells v3 30 [yq]:=by rw[hS1,zQ];rfl
 have hwk:=hw S1 85 [.ptr (nx+3) v3 0] (λh=>S1.set (nx+3) (.cells v3 30 [W0 h])) (by
   funext i
   by_cases hi:i=nx+3
   ·subst hi;rw[q11];exact h1.symm
   ·exact q10 _ _ _ _ hi) (λnx' hd' h=>Yn hd' (yU hd' h1 DI) _) (λnx' hd' h p obs _ _=>by
   have hlt:nx+3<nx':=yU hd' h1 DI;refine(ZtM p (id:=nx+3) (v:=v3) (old:=W0 h) (by rw[zB hlt];exact q11 _ _ _)).mono ?_;rintro _ _ rfl;rw[yZ _ hlt,Store.set_set,Zi5])
 rw[hS1]at hwk;refine DQ ?_;refine λhsuf=>(hwk.mono ?_).v
 rintro _ _ ⟨rfl,rfl⟩;refine⟨_,_,yc _ DH DI,zG hsuf ?_⟩
 try simp only[AG,AV,A4]
 by_cases he:e=0
 ·rw[if_pos he]at hrz;rw[hrz];simp only[if_pos he,hl];subst he;refine DQ ?_;exact DR hd
 ·rw[if_neg he]at hrz;rw[hrz];simp only[if_neg he]
  show PW _ _ _ _ _ _ _ (ext _ _ _)
  refine DQ ?_;refine qk 2 0 rfl rfl ?_;exact DR hd
open Go Go.Proofs Hp
def zU(l:List Int)(i:Nat):Int:=if 1000<l.getD i 0 then 1000 else if l.getD i 0<0 then 0 else l.getD i 0
theorem XX(l:List Int)(i:Nat):0<=zU l i/\zU l i<=1000:=by unfold zU;split;omega;split<;>omega
theorem ZdF(l:List Int)(i:Nat)(hi:i<=100):Pure prog 118 [L l,I i] (I (zU l i)):=by
 refine zt func118 ntmps118 results118 λS nx hd=>?_
 refine DQ ?_
 by_cases h1:i<l.length
 ·obtain⟨z,tl,a1,a2,a3,e0⟩:=zJ rfl l i h1;have hz:l.getD i 0=z:=by rw[Aa,a1];rfl
  have hz1:1<=l.length-i:=DH
  have h1':¬l.length<=i:=DH
  unfold zU;rw[hz]
  by_cases h2:z<0
  ·rw[if_neg DH,if_pos h2]
   repeat apply za
   refine ze [(4,9)] (yE e0 h1 h1' hz1 h2) ?_;refine zn rfl (DQ ?_);exact zg (zi hd rfl rfl)
  ·by_cases h3:1000<z
   ·rw[if_pos h3]
    repeat apply za
    refine ze [(4,9)] (yE e0 h1 h1' hz1 h2) ?_;refine zm rfl (zh ?_)
    repeat apply za
    refine ze [] (zF e0 h1 hz1) ?_;refine zn (by simp[h3]) ?_;refine DQ ?_;exact zg (zi hd rfl rfl)
   ·rw[if_neg h3,if_neg h2]
    repeat apply za
    refine ze [(4,9)] (yE e0 h1 h1' hz1 h2) ?_;refine zm rfl (zh ?_)
    repeat apply za
    refine ze [] (zF e0 h1 hz1) ?_;refine zm DL ?_;refine zh (za (ze [] (zF e0 h1 hz1) ?_));exact zg (zi hd rfl rfl)
 ·have hz:l.getD i 0=0:=by rw[Aa,An DH];rfl
  unfold zU;rw[hz,if_neg DN,if_neg DN];have h1':l.length<=i:=DH
  repeat apply za
  refine ze [(4,9)] (zo h1' zN) ?_;refine zn rfl (DQ ?_);exact zg (zi hd rfl rfl)
def qO(l:List Int):Int:=l.getD 0 0
theorem ZtP(l:List Int):Pure prog 76 [L l] (.agg (JK (qO l) (zU l 1) (zU l 2) (zU l 3))):=by
 have t1:=ZdF l 1 DH;have t2:=ZdF l 2 DH;have t3:=ZdF l 3 DH;generalize zU l 1=r at *;generalize zU l 2=b at *;generalize zU l 3=c at *;refine zt func76 ntmps76 results76 λS nx hd=>?_
 refine DQ ?_;intro v0;refine DQ ?_;refine zr t1 ?_;refine zr t2 ?_;refine zr t3 ?_;intro v1
 by_cases h:0<l.length
 ·obtain⟨z,tl,a1,a2,a3,e0⟩:=zJ rfl l 0 h;have hz:qO l=z:=by unfold qO;rw[Aa,a1];rfl
  have hz1:1<=l.length:=h;rw[DB]at e0;rw[hz]
  repeat apply za
  refine zb ?_;refine zn (by simp[h]) ?_;refine ze [] (zF e0 h hz1) ?_;refine DQ ?_;exact DR hd
 ·have hz:qO l=0:=by unfold qO;rw[Aa,An DH];rfl
  rw[hz];have hl:l=[]:=Ck.1 DH;subst hl
  repeat apply za
  refine zb ?_;refine zm DI ?_;refine zh (DQ ?_);exact DR hd
theorem Zi6(l:List Int):Pure prog 33 [L l] (.agg (JK (qO l) (zU l 1 % 9) (zU l 2 % 21) (zU l 3 % 13))):=by
 have hr:=ZtP l;have b1:=XX l 1;have b2:=XX l 2;have b3:=XX l 3;have w1:(zU l 1).tmod 9=zU l 1 % 9:=Be DH;have w2:(zU l 2).tmod 21=zU l 2 % 21:=Be DH;have w3:(zU l 3).tmod 13=zU l 3 % 13:=Be DH;generalize zU l 1=r at *;generalize zU l 2=b at *;generalize zU l 3=c at *;generalize qO l=s at *;refine zt func33 ntmps33 results33 λS nx hd=>?_
 refine DQ ?_;intro v0;refine DQ ?_;refine zr hr ?_;intro v1;refine za (ze [] w1 ?_);refine za (ze [] w2 ?_);refine za (ze [] w3 ?_);refine DQ ?_;exact DR hd
open Go Go.Proofs Hp
def ZaW(id ver b:Nat):Rd:=⟨none,λC S w=>Rel C S w (.ptr id ver 0) (.pointer (some ⟨b,0,none⟩)),λst h=>Rel.mono st h⟩
theorem ZtQ{P:Program}{n N:Nat}{c:Code}{Q:Exit->(Nat->PV)->Store->Prop}{F:Nat->PV}{S:Store}{x id ver e:Nat}{cs:List PV}(hF:F x=.ptr id ver 0)(hs:S id=.cells ver e cs)
  (h:∀b,PW P (ZaW id ver b) n N c Q F S):PW P qW n N c Q F S:=by
 intro C w a st;have e1:=st.fr x;rw[hF]at e1;generalize hv:a.tmps.getD x undef=v at e1;cases e1 with
 | ptr h1 h2 h3 =>
  obtain⟨b,k,hl,rfl⟩:=(h3 ver (by rw[hs];rfl)).2 rfl;have:=h b C w a ⟨st.sim,st.size,st.fr,.ptr h1 h2 h3⟩;exact wpIn_mono this λe a' w' ⟨F',S',C',q1,q2,q3,q4⟩=>⟨F',S',C',q1,⟨q2.sim,q2.size,q2.fr,trivial⟩,q3,q4⟩
theorem ZtR{P:Program}{n:Nat}{F:Nat->PV}{S:Store}{o:Oper}{t e m id ver b et:Nat}{x:Operand}{cs:List PV}{K:PV->Store->Prop}(ho:o.op=.slice t x none none none)(ht:P.underlying t=some (.array m e))(hc:P.cellsOf e≠0)(hx:ev F x=.ptr id ver 0)(hs:S id=.cells ver et cs)
  (hK:K (.sc (.slice (some ⟨b,0,none⟩) m m)) S):PO P (ZaW id ver b) n o F S K:=by
 intro G hG C w a N st next Q' hnext;have e1:=st.ev x;rw[(hG x (by simp[ho,Op.operands])).trans hx]at e1;have e2:Rel C S w (.ptr id ver 0) (.pointer (some ⟨b,0,none⟩)):=st.v;have hnd:∀c,o.op≠.defer c:=by intro c hc;rw[ho]at hc;cases hc
 generalize hv:a.eval x=v at e1;cases e1 with
 | ptr h1 h2 h3 =>
  obtain⟨b1,k1,hl,rfl⟩:=(h3 ver (by rw[hs];rfl)).2 rfl;cases e2 with
  | ptr i1 i2 i3 =>
   obtain⟨b2,k2,hl2,hb⟩:=(i3 ver (by rw[hs];rfl)).2 rfl;rw[hl]at hl2;cases hl2;cases hb;have hrun:(execOp a.eval o).run P w=.ok (.value (.slice (some ⟨b,0,none⟩) m m)) w:=by
    unfold execOp;simp[ho,hv,Instr.sliceAt,run_underlying ht,Instr.sureAddr,Instr.sliceBounds,wL hc];intro _;rfl
   exact yT hnd hrun (hnext _ _ _ _ _ hK (.sc _) st.sim (Step.refl _ _ _))
theorem W3{P:Program}{o:Oper}{s x:Operand}{t:TypeId}{a:Act}{w w':World}{v:Value}(ho:o.op=.call { callee:=.builtin .copy,args:=#[s,x],argTypes:=#[t,t] })
  (h:(Builtin.copy_ #[t,t] o.type #[a.eval s,a.eval x]).run P w=.ok v w'):(execOp a.eval o).run P w=.ok (.value v) w':=by
 unfold execOp
 grind[resolve,invoke,builtin,Sem.run_bind,Sem.run_pure,Result.andThen_ok]
theorem ZtS{P:Program}{n:Nat}{F:Nat->PV}{S:Store}{o:Oper}{s x:Operand}{t e b m id ver et:Nat}{cs l:List PV}{K:PV->Store->Prop}(ho:o.op=.call { callee:=.builtin .copy,args:=#[s,x],argTypes:=#[t,t] })(ht:P.underlying t=some (.slice e))(hz:(P.info? e).map (·.size)=some 1)
  (hs:ev F s=.sc (.slice (some ⟨b,0,none⟩) m m)) (hx:ev F x=.lst l.length l) (hid:S id=.cells ver et cs) (hm:cs.length=m)
  (hK:K (I (min l.length m:Nat)) (S.set id (.cells ver et (l.take m++cs.drop (min l.length m))))):PO P (ZaW id ver b) n o F S K:=by
 intro G hG C w a N st next Q' hnext;have e1:=st.ev s;rw[(hG s (by grind[Op.operands,Call.operands])).trans hs]at e1;have e2:=st.ev x;rw[(hG x (by grind[Op.operands,Call.operands])).trans hx]at e2;have e3:Rel C S w (.ptr id ver 0) (.pointer (some ⟨b,0,none⟩)):=st.v;have hnd:∀c,o.op≠.defer c:=by intro c hc;rw[ho]at hc;cases hc
 generalize hv:a.eval s=v at e1;cases e1;generalize hu:a.eval x=u at e2;cases e3 with
 | ptr i1 i2 i3 =>
  obtain⟨b2,k,hl,hb⟩:=(i3 ver (by rw[hid];rfl)).2 rfl;cases hb;rcases st.sim.cells id ver et cs hid with ⟨hn,_⟩ | ⟨b',k',c,g1,g2,g3,g4,g5,g6⟩
  ·rw[hn]at hl;cases hl
  rw[hl]at g1;cases g1;have main:∀(vs:List Value) (a':Addr) (cap:Nat),u=.slice (some a') l.length cap->vs.length=min l.length m->(∀j v,vs[j]?=some v->w.cell? (a'.add j)=some v)->(∀v∈vs,v.oneCell'=true)->(∀(i:Nat) (p:PV) (v:Value),(l.take m)[i]?=some p->vs[i]?=some v->Rel C S w p v)->o.wpIn (Fe (ZaW id ver b)) n P a w next Q':=by
   intro vs a' cap hu' hvl hcell hone hrel;have hrun0:=run_copy_row P w t t o.type e b 0 m m a' l.length cap c et vs ht hz g2 (by rw[hvl]) hcell DH hone;have hrun:=W3 (P:=P) (a:=a) (w:=w) ho (by rw[hv,hu,hu'];exact hrun0);simp only[C8,AT,AS]at hrun;generalize hw':w.setRow b (vs++c.toList.drop vs.length).toArray=w' at hrun;have hheap:w'.heap[b]?=some (.cells (vs++c.toList.drop vs.length).toArray et (0,0)):=by rw[<-hw'];exact setRow_heap w b c _ et _ g2
   have hgr:w.grownBy w' (some b)/\w.drawn<=w'.drawn:=by
    rw[<-hw'];exact⟨⟨rfl,rfl,rfl,by simp,λj hj hne=>setRow_other w b j _ (λe=>hne (by rw[e]))⟩,Ag _⟩
   have hsize:(vs++c.toList.drop vs.length).toArray.size=k:=DL
   have htl:(l.take m).length=vs.length:=by rw[Ax,hvl];omega
   obtain⟨t1,t2⟩:=st.sim.turn (l:=C.loc id) (ver':=ver) (cs':=l.take m++cs.drop (min l.length m)) hid (Ag _) (λ_=>rfl) (by rw[hl];exact hgr)
    (.inr ⟨b,k,_,hl,.inr (by rw[hl];rfl),hheap,hsize,by rw[Aq,Bn,htl];omega,λi z hi hz=>by
      rw[AE]at hz
      by_cases q1:i<vs.length
      ·rw[Ap q1]at hz;exact hone z (Ab hz)
      ·rw[Aj DH,AQ]at hz;rw[Aq,Bn,htl]at hi;have e9:vs.length+(i-vs.length)=i:=DH
       rw[e9]at hz;exact g5 i z DH (by rw[<-Array.getElem?_toList];exact hz),
     λi p z hp hz=>by
      rw[AE]at hz
      by_cases q1:i<vs.length
      ·rw[Ap q1]at hz;rw[Ap DH]at hp;exact hrel i p z hp hz
      ·rw[Aj DH,AQ]at hz;rw[Aj DH,AQ,htl,<-hvl]at hp;have e9:vs.length+(i-vs.length)=i:=DH
       rw[e9]at hz hp;exact g6 i p z hp (by rw[<-Array.getElem?_toList];exact hz)⟩)
   have hres:goInt vs.length=Value.int .i64 ((min l.length m:Nat):Int):=by rw[hvl];rfl
   exact yT hnd hrun (hnext _ _ _ _ _ hK (by rw[hres];exact .sc _) t1 t2)
  generalize hk:l.length=kk at e2;cases e2 with
  | lst0 =>
   rename_i cap a';have hrun0:(Builtin.copy_ #[t,t] o.type #[a.eval s,a.eval x]).run P w=.ok (goInt 0) w:=by
    rw[hv,hu];cases hq:P.info? e with
    | none=>simp[hq]at hz
    | some i =>
     cases a'<;>simp[Builtin.copy_,run_underlying ht,Builtin.lenOf,Builtin.firstCells,sizeOf,typeInfo,hq,storeCells,loadCells,loadCellsFrom]
   have hrun:=W3 (P:=P) (a:=a) (w:=w) ho hrun0;have eS:S.set id (.cells ver et cs)=S:=by
    funext i
    by_cases hi:i=id
    ·grind[q11]
    ·grind[q10]
   simp only[Ah,Nat.zero_min,Dk,DB,AT,eS]at hK;exact yT hnd hrun (hnext _ _ _ _ _ hK (.sc _) st.sim (Step.refl _ _ _))
  | lst1 hn hmx hb hM hs1 h1 h2 =>
   rename_i cap b' o' c' e' fz;subst hk;have hadd:∀j,(⟨b',o',none⟩:Addr).add j=⟨b',o'+j,none⟩:=by intro j;unfold Addr.add;split<;>simp_all
   have hat:∀(j:Nat) (v:Value),((c'.toList.drop o').take (min l.length m))[j]?=some v->j<min l.length m/\c'[o'+j]?=some v:=λj v hj=>by
    rw[By]at hj;split at hj
    ·rename_i hlt;rw[AQ,Array.getElem?_toList]at hj;exact⟨hlt,hj⟩
    ·cases hj
   refine main ((c'.toList.drop o').take (min l.length m)) ⟨b',o',none⟩ cap rfl ?_ ?_ ?_ ?_
   ·rw[Ax,Bn];have e9:c'.toList.length=c'.size:=Array.length_toList
    by_cases hl0:l=[]
    ·subst hl0;simp
    ·have:=hs1 hl0;omega
   ·intro j v hj;obtain⟨q1,q2⟩:=hat j v hj;rw[hadd];simp[World.cell?,hb,q2]
   ·intro v hv';obtain⟨j,hj⟩:=B7 hv';obtain⟨q1,q2⟩:=hat j v hj;exact h1 j v DH q2
   ·intro i p v hp hvi;obtain⟨q1,q2⟩:=hat i v hvi;rw[AJ DH]at hp;exact h2 i p v hp q2
open Go Go.Proofs Hp
theorem ZtT(l:List Int)(i:Nat):min (max (l.getD i 0) 0) 1000=zU l i:=by
 unfold zU;split
 ·omega
 ·split<;>omega
theorem ZtU(l:List Int):(l.flatMap Enc.enc:List PV).take 4++[I 0,I 0,I 0,I 0].drop (min (l.flatMap Enc.enc:List PV).length 4)=[I (l.getD 0 0),I (l.getD 1 0),I (l.getD 2 0),I (l.getD 3 0)]:=by
 match l with
 | []=>rfl
 | [a]=>simp
 | [a,b]=>simp
 | [a,b,c]=>simp
 | a :: b :: c :: d :: r =>
  have:min (((a :: b :: c :: d :: r).flatMap Enc.enc:List PV).length) 4=4:=by rw[j4];simp[Enc.sz]
  rw[this];simp
theorem Zi7(l:List Int):Pure prog 47 [L l] (.agg (JK (qO l) (zU l 1) (zU l 2) (zU l 3))):=by
 have c1:=Xy (l.getD 1 0) 0 1000;have c2:=Xy (l.getD 2 0) 0 1000;have c3:=Xy (l.getD 3 0) 0 1000;rw[ZtT]at c1 c2 c3;have ha:=ZtU l;have hL:L l=.lst (l.flatMap Enc.enc:List PV).length (l.flatMap Enc.enc):=by
  show PV.lst l.length _=_
  congr 1;rw[j4];simp[Enc.sz]
 have hsd:qO l=l.getD 0 0:=rfl;rw[hsd,hL];generalize l.getD 0 0=z0 at *;generalize l.getD 1 0=z1 at *;generalize l.getD 2 0=z2 at *;generalize l.getD 3 0=z3 at *;generalize zU l 1=t1 at *;generalize zU l 2=t2 at *;generalize zU l 3=t3 at *;generalize (l.flatMap Enc.enc:List PV)=cs at *;refine zt func47 ntmps47 results47 λS nx hd=>?_
 refine DQ ?_;intro v0;refine DQ ?_;intro v1;refine ZtQ (x:=3) (id:=nx+1) (ver:=v1) rfl (by rw[zQ];rfl) λb=>?_
 refine DQ ?_;refine λhsuf=>ZtR rfl underlying147 DI rfl (by rw[zQ];rfl) ?_
 refine⟨_,_,rfl,zG hsuf ?_⟩;refine λhsuf=>ZtS (id:=nx+1) (ver:=v1) rfl underlying26 DK rfl rfl (by rw[zQ];rfl) rfl ?_
 rw[ha];refine⟨_,_,yc _ DH DI,zG hsuf ?_⟩
 try simp only[AG,AV,A4]
 repeat apply za
 refine zb ?_;refine zj (zD (λk:Nat=>1<=k/\k<=4) (λk=>[(2,.ptr nx v0 0),(3,.ptr (nx+1) v1 0),(4,I k)]) (λk=>[.cells v0 65 [I 0,I 0,I 0,I 0],.cells v1 147 [I z0,I (if 1<k then t1 else z1),I (if 2<k then t2 else z2),I (if 3<k then t3 else z3)]]) (λk=>4-k) 1 [] DI DI DI ?_);rintro k ⟨hk1,hk⟩
 repeat apply za
 refine zb ?_;refine zv rfl (λhc=>?_) (λhc=>?_)
 ·simp at hc;refine zh (za (zj ?_));obtain rfl | rfl | rfl:k=1\/k=2\/k=3:=DH
  ·repeat apply za
   refine zb ?_;refine zr c1 ?_;refine zb ?_;exact zq 2 [] DH DH (by simp;exact wr 2 (by omega) (by omega)) rfl DI
  ·repeat apply za
   refine zb ?_;refine zr c2 ?_;refine zb ?_;exact zq 3 [] DH DH (by simp;exact wr 3 (by omega) (by omega)) rfl DI
  ·repeat apply za
   refine zb ?_;refine zr c3 ?_;refine zb ?_;exact zq 4 [] DH DH (by simp;exact wr 4 (by omega) (by omega)) rfl DI
 ·simp at hc;obtain rfl:k=4:=DH
  refine zx (DQ ?_);exact DR hd
open Go Go.Proofs Hp
def W4(x:Inst)(bd:Int)(p:zA)(e c:Int):Rep:=if uL e c=0 then ⟨4,bd,jW x p,W (jK x p x.cust.length),xA x p,p⟩ else ⟨3,bd,0,0,[],[]⟩
def Zi8(e:Int):Rep:=⟨if e=2 then 1 else 2,0,0,0,[],[]⟩
structure Below21 (x:Inst) (l:List Int) (bd:Int) (p:zA) (e c:Int):Prop where
 climb:∃a b,Pure prog 34 [.agg (zy x),I (qO l),I (zU l 3)] (.tup [.agg [a,b],I bd])
 run:Pure prog 35 [.agg (zy x),.agg [I (qO l),I (zU l 1),I (zU l 2),I (zU l 3)]] (.tup [.agg [L p],I e])
 chk:e=0->Pure prog 67 [.agg (zy x),.agg [L p]] (I c)
 cost:uL e c=0->Pure prog 68 [.agg (zy x),.agg [L p]] (I (jW x p))
 hold:uL e c=0->Pure prog 69 [.agg (zy x),.agg [L p]] (I (W (jK x p x.cust.length)))
 days:uL e c=0->Pure prog 71 [.agg (zy x),.agg [L p]] (L (xA x p))
theorem ZtV(u:List UInt8)(hl:u.length<=1048576)(l:List Int)(hz:(qp u).2≠0):Pure prog 12 [T (bs u),L l] (.agg (WT (Zi8 (qp u).2))):=by
 have hrd:=Zi7 l;have hpa:=λ(S:Store) (id v:Nat) (s0 s1 s2 s3 x0 x1 x2 x3 x4 x5 r0 r1 r2 r3 r4 r5:PV) hS=>ZiR (S:=S) (id:=id) (v:=v) (s0:=s0) (s1:=s1) (s2:=s2) (s3:=s3) (x0:=x0) (x1:=x1) (x2:=x2) (x3:=x3) (x4:=x4) (x5:=x5) (r0:=r0) (r1:=r1) (r2:=r2) (r3:=r3) (r4:=r4) (r5:=r5) u hl hS
 simp only[if_neg hz]at hpa;have hres:Zi8 (qp u).2=⟨if (qp u).2=2 then 1 else 2,0,0,0,[],[]⟩:=rfl;rw[hres];generalize (if (qp u).2=2 then (1:Int) else 2)=o at *;generalize (qp u).2=e at *;generalize qO l=s0 at *;generalize zU l 1=s1 at *;generalize zU l 2=s2 at *;generalize zU l 3=s3 at *;refine zt func12 ntmps12 results12 λS nx hd=>?_
 refine DQ ?_;intro v0;refine DQ ?_;refine zr hrd ?_;intro v1
 repeat apply za
 refine zb ?_;refine zj (zD (λk:Nat=>k=0) (λ_=>[(4,.ptr nx v0 0),(5,.ptr (nx+1) v1 0),(21,.lst 4 [.fn (.func 48) [.ptr (nx+1) v1 0] [],.fn (.func 49) [.ptr (nx+1) v1 0] [],.fn (.func 50) [.ptr (nx+1) v1 0] [],.fn (.func 51) [.ptr (nx+1) v1 0] []]),(22,I 4),(23,I 0)])
  (λ_=>[.cells v0 32 [I 0,I 0,I 0,I 0,vn,vn],.cells v1 92 [T (bs u),I s0,I s1,I s2,I s3,I 0,I 0,I 0,I 0,vn,vn,I 0,I 0,I 0,I 0,vn,vn]]) (λs=>s) 0 [] rfl (by simp[yS]) DI ?_)
 rintro k rfl;refine DQ ?_;refine za (zn DI ?_);refine zh (za (zj (DQ ?_)));refine DQ ?_;refine λhsuf=>((hpa _ _ _ _ _ _ _ _ _ _ _ _ _ _ _ _ _ _ _ (by rw[zQ];rfl)).mono ?_).v
 rintro _ _ ⟨rfl,rfl⟩;refine⟨_,_,yc _ DH DI,zG hsuf ?_⟩;refine zn (by simp[hz]) ?_;refine zx (DQ ?_);refine qk 0 4 rfl rfl ?_;refine qk 0 5 rfl rfl ?_;exact zg (zi hd DJ (by simp[zp]))
theorem ZtW(u:List UInt8)(hl:u.length<=1048576)(l:List Int){bd:Int}{p:zA}{e c:Int}(hz:(qp u).2=0)(hB:Below21 (qp u).1 l bd p e c):Pure prog 12 [T (bs u),L l] (.agg (WT (W4 (qp u).1 bd p e c))):=by
 have hrd:=Zi7 l;have hpa:=λ(S:Store) (id v:Nat) (s0 s1 s2 s3 x0 x1 x2 x3 x4 x5 r0 r1 r2 r3 r4 r5:PV) hS=>ZiR (S:=S) (id:=id) (v:=v) (s0:=s0) (s1:=s1) (s2:=s2) (s3:=s3) (x0:=x0) (x1:=x1) (x2:=x2) (x3:=x3) (x4:=x4) (x5:=x5) (r0:=r0) (r1:=r1) (r2:=r2) (r3:=r3) (r4:=r4) (r5:=r5) u hl hS
 simp only[if_pos hz]at hpa;obtain⟨⟨a,b,b1⟩,b2,b3,b4,b5,b6⟩:=hB;have hfz:W4 (qp u).1 bd p e c=if uL e c=0 then ⟨4,bd,jW (qp u).1 p,W (jK (qp u).1 p (qp u).1.cust.length),xA (qp u).1 p,p⟩ else ⟨3,bd,0,0,[],[]⟩:=rfl
 rw[hfz];generalize (qp u).2=e0 at *;generalize (qp u).1=y at *;subst hz;generalize jW y p=co at *;generalize W (jK y p y.cust.length)=ho at *;generalize xA y p=ds at *;generalize qO l=s0 at *;generalize zU l 1=s1 at *;generalize zU l 2=s2 at *;generalize zU l 3=s3 at *;refine zt func12 ntmps12 results12 λS nx hd=>?_
 refine DQ ?_;intro v0;refine DQ ?_;refine zr hrd ?_;intro v1
 repeat apply za
 refine zb ?_;refine zj (zD (λk:Nat=>k<=4/\(3<=k->uL e c=0)) (λk=>[(4,.ptr nx v0 0),(5,.ptr (nx+1) v1 0),(21,.lst 4 [.fn (.func 48) [.ptr (nx+1) v1 0] [],.fn (.func 49) [.ptr (nx+1) v1 0] [],.fn (.func 50) [.ptr (nx+1) v1 0] [],.fn (.func 51) [.ptr (nx+1) v1 0] []]),(22,I 4),(23,I k)])
  (λk=>[.cells v0 32 [I 0,I 0,I 0,I 0,vn,vn],.cells v1 92 [T (bs u),I s0,I s1,I s2,I s3,if k=0 then I 0 else I y.days,if k=0 then I 0 else I y.veh,if k=0 then I 0 else I y.cap,if k=0 then I 0 else I y.len,if k=0 then vn else L y.cust,if k=0 then vn else L y.dist,
   if k<=1 then I 0 else if k=2 then I 3 else I 4,if k<=1 then I 0 else I bd,if k<=3 then I 0 else I co,if k<=3 then I 0 else I ho,if k<=3 then vn else L ds,if k<=2 then vn else L p]]) (λs=>4-s) 0 [] DI (by simp[yS]) DI ?_)
 rintro k ⟨hk,hk3⟩;refine DQ ?_;refine za (zv rfl (λhc=>?_) (λhc=>?_))
 ·simp at hc;refine zh (za (zj ?_));obtain rfl | rfl | rfl | rfl:k=0\/k=1\/k=2\/k=3:=DH
  ·refine DQ ?_;refine DQ ?_;refine λhsuf=>((hpa _ _ _ _ _ _ _ _ _ _ _ _ _ _ _ _ _ _ _ (by rw[zQ];rfl)).mono ?_).v
   rintro _ _ ⟨rfl,rfl⟩;refine⟨_,_,yc _ DH DI,zG hsuf ?_⟩;refine zm DI ?_;refine zh (zb ?_);exact zq 1 [] DI DH (by simp;exact wr 1 (by omega) (by omega)) rfl DI
  ·refine DQ ?_;refine DQ ?_;refine λhsuf=>((Zto b1 (by rw[zQ];rfl)).mono ?_).v
   rintro _ _ ⟨rfl,rfl⟩;refine⟨_,_,yc _ DH DI,zG hsuf ?_⟩;refine zm DI ?_;refine zh (zb ?_);exact zq 2 [] DI DH (by simp;exact wr 2 (by omega) (by omega)) rfl DI
  ·by_cases hf:uL e c=0
   ·refine DQ ?_;refine DQ ?_;refine λhsuf=>((ZiS b2 b3 (by rw[zQ];rfl)).mono ?_).v
    rintro _ _ ⟨rfl,rfl⟩;simp only[hf,if_true];refine⟨_,_,yc _ DH DI,zG hsuf ?_⟩;refine zm DI ?_;refine zh (zb ?_);exact zq 3 [] ⟨by omega,λ_=>by first | exact hf | trivial⟩ DH (by simp;exact wr 3 (by omega) (by omega)) rfl DI
   ·rw[if_neg hf];refine DQ ?_;refine DQ ?_;refine λhsuf=>((ZiS b2 b3 (by rw[zQ];rfl)).mono ?_).v
    rintro _ _ ⟨rfl,rfl⟩;simp only[if_neg hf];refine⟨_,_,yc _ DH DI,zG hsuf ?_⟩;refine zn (by simp[hf]) ?_;refine zx (DQ ?_);refine qk 0 4 rfl rfl ?_;refine qk 0 5 rfl rfl ?_;exact zg (zi hd DJ (by simp[zp]))
  ·have hf:=hk3 DH;refine DQ ?_;refine DQ ?_;refine λhsuf=>((Ztp (b4 hf) (b5 hf) (b6 hf) (by rw[zQ];rfl)).mono ?_).v
   rintro _ _ ⟨rfl,rfl⟩;refine⟨_,_,yc _ DH DI,zG hsuf ?_⟩;refine zm DI ?_;refine zh (zb ?_);exact zq 4 [] ⟨by omega,λ_=>hf⟩ DH (by simp;exact wr 4 (by omega) (by omega)) rfl DI
 ·simp at hc;obtain rfl:k=4:=DH
  rw[if_pos (hk3 DH)];refine zx (DQ ?_);exact zg (zi hd DJ (by simp[zp]))
open Go Go.Proofs
def Y3(a b:Int):Int:=if a.tmod b≠0/\¬a<0 then W (W (a.tdiv b)+1) else W (a.tdiv b)
def ZK(c:Cust)(n:Int):Int:=qP (W (W (c.rate*n)-c.start)) 0
theorem Zi9(c:Cust)(n:Int):Pure prog 205 [.agg (yh c),I n] (I (ZK c n)):=by
 refine zt func205 ntmps205 results205 λS nx hd=>?_
 refine DQ ?_;intro v0;refine DQ ?_;exact zg (zi hd DJ (by simp[zp,ZK]))
def JL(c:Cust):Nat->Int × Int
 | 0=>(0,c.start)
 | k+1=>(W ((JL c k).1+qP (W ((JL c k).2-c.rate)) 0),W ((JL c k).2-c.rate))
def ZaX(c:Cust)(n:Nat):Int:=W (c.hold*(JL c n).1)
theorem ZtX(c:Cust)(n:Nat)(hn:n<=1000):Pure prog 210 [.agg (yh c),I n] (I (ZaX c n)):=by
 refine zt func210 ntmps210 results210 λS nx hd=>?_
 refine DQ ?_;intro v0;refine za (zz (some [nx]) (Row.pures [0,1,2,3] .done) mixed trivial ?_)
 repeat apply za
 refine zb ?_;refine zj (zD (λs:Nat × Int × Int=>s.1<=n/\s.2=JL c s.1) (λ(k,a,b)=>[(1,I n),(2,.ptr nx v0 0),(5,I a),(6,I b),(9,I n),(10,I k)]) (λ_=>[.cells v0 87 (yh c)]) (λs=>n-s.1) (0,0,c.start) [] ⟨by simp,rfl⟩ DI DI ?_);rintro⟨k,a,b⟩ ⟨hk,hs⟩;simp only at hk hs ⊢;have ha:a=(JL c k).1:=congrArg Prod.fst hs;have hb:b=(JL c k).2:=congrArg Prod.snd hs;refine DQ ?_;refine za (zv rfl (λhc=>?_) (λhc=>?_))
 ·simp at hc;refine zh (za (zj (DQ ?_)));refine zb ?_;refine zb ?_;exact zq (k+1,W (a+qP (W (b-c.rate)) 0),W (b-c.rate)) [] ⟨hc,by rw[ha,hb];rfl⟩ DL (by simp[zu k (by omega)]) rfl DI
 ·simp at hc;obtain rfl:k=n:=DH
  refine zx (DQ ?_);exact zg (zi hd DJ (by simp[zp,ZaX,ha]))
theorem Zja(a b:Int)(hb:0<b):Pure prog 165 [I a,I b] (.tup [I (Y3 a b),B true]):=by
 have h0:¬b=0:=DH
 have h1:¬b=-1:=DH
 have h2:¬b<0:=DH
 have e1:Y3 a b=if a.tmod b≠0/\¬a<0 then W (W (a.tdiv b)+1) else W (a.tdiv b):=rfl
 rw[e1];refine zt func165 ntmps165 results165 λS nx hd=>?_
 refine DQ ?_;obtain⟨q,hm⟩:∃q:Prop,(a=-9223372036854775808)=q:=⟨_,rfl⟩
 by_cases hq:q
 all_goals
  repeat apply za
  refine ze [(2,9),(5,12)] (yE h0 h1 hm hq zN) ?_;refine zm DI ?_;refine zh (za (ze [] h0 ?_))
  by_cases h3:a.tmod b=0
  ·rw[if_neg (by simp[h3])]
   repeat apply za
   refine ze [(4,24)] (zF h0 h3 zN) ?_;refine zm DI ?_;refine zh (DQ ?_);exact DR hd
  ·by_cases h4:a<0
   ·rw[if_neg (by simp[h4])]
    repeat apply za
    refine ze [(4,24)] (zV h0 h3 h4 h2) ?_;refine zm DI ?_;refine zh (DQ ?_);exact DR hd
   ·rw[if_pos ⟨h3,h4⟩]
    repeat apply za
    refine ze [(4,24)] (zV h0 h3 h4 h2) ?_;refine zn DI ?_;refine zb ?_;refine DQ ?_;exact DR hd
def Y4(a b:Int):Int × Bool:=if a=0\/b=0 then (0,true) else if ¬W ((W (a*b)).tdiv b)=a\/(a=-9223372036854775808/\b=-1) then (0,false) else (W (a*b),true)
theorem ZtY(a b:Int):Pure prog 121 [I a,I b] (.tup [I (Y4 a b).1,B (Y4 a b).2]):=by
 unfold Y4
 by_cases h0:a=0
 ·rw[if_pos (.inl h0)];refine zt func121 ntmps121 results121 λS nx hd=>?_
  refine DQ ?_
  repeat apply za
  refine ze [(2,9)] (zo h0 zN) ?_;refine zn DI ?_;refine DQ ?_;exact DR hd
 by_cases h1:b=0
 ·rw[if_pos (.inr h1)];refine zt func121 ntmps121 results121 λS nx hd=>?_
  refine DQ ?_
  repeat apply za
  refine ze [(2,9)] (zo h0 h1) ?_;refine zn DI ?_;refine DQ ?_;exact DR hd
 rw[if_neg (by simp[h0,h1])]
 by_cases h2:W ((W (a*b)).tdiv b)=a
 ·by_cases h3:a=-9223372036854775808
  ·by_cases h4:b=-1
   ·rw[if_pos (.inr ⟨h3,h4⟩)];refine zt func121 ntmps121 results121 λS nx hd=>?_
    refine DQ ?_
    repeat apply za
    refine ze [(2,9)] (zo h0 h1) ?_;refine zm DI ?_;refine zh (DQ ?_)
    repeat apply za
    refine ze [(5,21),(8,24)] (zV h1 h2 (eq_true h3) (eq_true h4)) ?_;refine zn DI ?_;refine DQ ?_;exact DR hd
   ·rw[if_neg (by simp[h2,h4])];refine zt func121 ntmps121 results121 λS nx hd=>?_
    refine DQ ?_
    repeat apply za
    refine ze [(2,9)] (zo h0 h1) ?_;refine zm DI ?_;refine zh (DQ ?_)
    repeat apply za
    refine ze [(5,21),(8,24)] (zV h1 h2 (eq_true h3) h4) ?_;refine zm DI ?_;refine zh (DQ ?_);exact DR hd
  ·rw[if_neg (by simp[h2,h3])];refine zt func121 ntmps121 results121 λS nx hd=>?_
   refine DQ ?_
   repeat apply za
   refine ze [(2,9)] (zo h0 h1) ?_;refine zm DI ?_;refine zh (DQ ?_)
   repeat apply za
   refine ze [(5,21),(8,24)] (zV h1 h2 h3 zN) ?_;refine zm DI ?_;refine zh (DQ ?_);exact DR hd
 ·rw[if_pos (.inl h2)];refine zt func121 ntmps121 results121 λS nx hd=>?_
  refine DQ ?_
  repeat apply za
  refine ze [(2,9)] (zo h0 h1) ?_;refine zm DI ?_;refine zh (DQ ?_)
  repeat apply za
  refine ze [(5,21),(8,24)] (zF h1 h2 zN) ?_;refine zn DI ?_;refine DQ ?_;exact DR hd
def QT(x:Int):Int :=
 let u:=IntKind.u64.wrap
 let a:=bits BinOp.and IntKind.u64
 let x1:=u (a (x.fdiv (2 ^ 1)) 6148914691236517205+a x 6148914691236517205)
 let x2:=u (a (x1.fdiv (2 ^ 2)) 3689348814741910323+a x1 3689348814741910323)
 let x3:=a (u (x2.fdiv (2 ^ 4)+x2)) 1085102592571150095
 let x4:=u (x3+x3.fdiv (2 ^ 8))
 let x5:=u (x4+x4.fdiv (2 ^ 16))
 let x6:=u (x5+x5.fdiv (2 ^ 32))
 bits BinOp.and IntKind.i64 (W x6) 127
theorem ZtZ(n:Nat):Pure prog 304 [U n] (I (QT n)):=by
 refine zt func304 ntmps304 results304 λS nx hd=>?_
 refine DQ ?_;refine DQ ?_;refine DQ ?_;refine DQ ?_;refine DQ ?_;refine DQ ?_;refine DQ ?_;refine DQ ?_;exact zg (zi hd DJ (by simp[zp,QT,IntKind.bits]))
theorem Zt0(n:Nat):Pure prog 274 [U n] (I (QT n)):=by
 have h:=ZtZ n;refine zt func274 ntmps274 results274 λS nx hd=>?_
 refine DQ ?_;refine DQ ?_;refine zr h ?_;exact DR hd
def ZaY(i:Nat)(least:Int)(p:Nat):Int:=if i=0\/QT p<least then QT p else least
def uN(ps:List Nat):Nat->Int
 | 0=>0
 | k+1=>ZaY k (uN ps k) (ps.getD k 0)
theorem Zt1(ps:List Nat)(hl:ps.length<=1048576):Pure prog 243 [L ps] (I (uN ps ps.length)):=by
 refine zt func243 ntmps243 results243 λS nx hd=>?_
 refine DQ ?_;refine DQ ?_
 repeat apply za
 refine zb ?_;refine zj (zD (λk:Nat=>k<=ps.length) (λk=>[(3,I (uN ps k)),(7,L ps),(8,I ps.length),(9,I k)]) (λ_=>[]) (λk=>ps.length-k) 0 [] DI (by simp[uN]) DI ?_);rintro k hk;refine DQ ?_;refine za (zv rfl (λhc=>?_) (λhc=>?_))
 ·simp at hc;obtain⟨p,tl,a1,a2,a3,e0⟩:=zJ rfl ps k hc;have hg:ps.getD k 0=p:=by rw[Aa,a1];rfl
  have hnx:uN ps (k+1)=ZaY k (uN ps k) p:=by rw[<-hg];rfl
  have hlen:=Zt0 p;refine zh (za (zj (za (ze [] (zo e0 hc) ?_))));refine DQ ?_;refine zr hlen ?_;unfold ZaY at hnx;generalize uN ps k=f0 at *;generalize QT p=o at *
  by_cases h0:k=0
  ·rw[if_pos (.inl h0)]at hnx;refine za (ze [(2,18)] (zo (eq_true h0) zN) ?_);refine zn DI ?_;refine zb ?_;refine zb ?_;exact zq (k+1) [] hc DH (by simp[zu k (by omega),hnx]) rfl DI
  by_cases h1:o<f0
  ·rw[if_pos (.inr h1)]at hnx;refine za (ze [(2,18)] (zo h0 h1) ?_);refine zn DI ?_;refine zb ?_;refine zb ?_;exact zq (k+1) [] hc DH (by simp[zu k (by omega),hnx]) rfl DI
  ·rw[if_neg (by simp only[not_or];exact⟨h0,h1⟩)]at hnx;refine za (ze [(2,18)] (zo h0 h1) ?_);refine zm DI ?_;refine zh (zb ?_);exact zq (k+1) [] hc DH (by simp[zu k (by omega),hnx]) rfl DI
 ·simp at hc;obtain rfl:k=ps.length:=DH
  refine zx (DQ ?_);exact DR hd
def vS(c:Cust)(n cap:Int):Int :=
 if c.kind=1 then uN c.pats c.pats.length else if ZK c n=0 then 0 else if je cap c.size<1 then n else je (Y3 (ZK c n) (je cap c.size)) n
theorem Zjb(c:Cust)(n cap:Int)(hp:c.pats.length<=1048576):Pure prog 204 [.agg (yh c),I n,I cap] (I (vS c n cap)):=by
 have hf:=Zt1 c.pats hp;have hw:=Zi9 c n;unfold vS;generalize uN c.pats c.pats.length=fz at *;generalize ZK c n=wz at *
 by_cases hk:c.kind=1
 ·rw[if_pos hk];refine zt func204 ntmps204 results204 λS nx hd=>?_
  refine DQ ?_;intro v0
  repeat apply za
  refine ze [] hk ?_;refine zn (by simp[hk]) ?_;refine DQ ?_;refine zr hf ?_;exact DR hd
 rw[if_neg hk]
 by_cases h0:wz=0
 ·rw[if_pos h0];refine zt func204 ntmps204 results204 λS nx hd=>?_
  refine DQ ?_;intro v0
  repeat apply za
  refine ze [] hk ?_;refine zm (by simp[hk]) ?_;refine zh (DQ ?_);refine zr hw ?_
  repeat apply za
  refine ze [] h0 ?_;refine zn (by simp[h0]) ?_;refine DQ ?_;exact DR hd
 rw[if_neg h0]
 by_cases h1:je cap c.size<1
 ·rw[if_pos h1];refine zt func204 ntmps204 results204 λS nx hd=>?_
  refine DQ ?_;intro v0
  repeat apply za
  refine ze [] hk ?_;refine zm (by simp[hk]) ?_;refine zh (DQ ?_);refine zr hw ?_
  repeat apply za
  refine ze [] h0 ?_;refine zm (by simp[h0]) ?_;refine zh (DQ ?_)
  repeat apply za
  refine ze [] h1 ?_;refine zn (by simp[h1]) ?_;refine DQ ?_;exact DR hd
 ·rw[if_neg h1];have hc:=Zja wz (je cap c.size) DH;generalize Y3 wz (je cap c.size)=q at *;refine zt func204 ntmps204 results204 λS nx hd=>?_
  refine DQ ?_;intro v0
  repeat apply za
  refine ze [] hk ?_;refine zm (by simp[hk]) ?_;refine zh (DQ ?_);refine zr hw ?_
  repeat apply za
  refine ze [] h0 ?_;refine zm (by simp[h0]) ?_;refine zh (DQ ?_)
  repeat apply za
  refine ze [] h1 ?_;refine zm (by simp[h1]) ?_;refine zh (DQ ?_);refine zr hc ?_;refine DQ ?_;exact DR hd
open Go Go.Proofs
def wh(f:Nat->Int):Nat->Int
 | 0=>0
 | k+1=>wE (wh f k) (f k)
theorem ZdG(a b:Int):zP (wE a b):=by unfold wE zP;split<;>(try split)<;>omega
theorem Zjc(f:Nat->Int)(k:Nat):zP (wh f k):=by
 cases k with
 | zero=>show zP 0;exact⟨by decide,by decide⟩
 | succ k=>exact ZdG _ _
theorem ZdH{S:Store}(x:Inst)(g:FuncId)(ps:List PV)(f:Nat->Int)(hx:x.cust.length<=1048576)(hf:∀k,zP (f k))
  (h:∀k,k<x.cust.length->∀T:Store,(∀o,S o≠.dead->T o=S o)->Spec prog g (ps++[I k]) T (λq S'=>q=I (f k)/\S'=T)) :
  Spec prog 124 [.agg (zy x),.fn (.func g) ps []] S (λq S'=>q=I (wh f x.cust.length)/\S'=S):=by
 refine yi func124 ntmps124 results124 λnx hd=>?_
 have hT:∀obs o,S o≠.dead->ext S nx obs o=S o:=λobs o ho=>by
  apply zB;rcases Bh o nx with q | q
  ·exact q
  ·exact absurd (hd o q) ho
 refine DQ ?_;intro v0;refine DQ ?_
 repeat apply za
 refine zb ?_;refine zj (zD (λs:Nat × Nat=>s.1<=x.cust.length) (λ(k,v)=>[(1,.fn (.func g) ps []),(2,.ptr nx v 0),(5,I (wh f k)),(9,I x.cust.length),(10,I k)]) (λ(k,v)=>[.cells v 25 (zy x)]) (λs=>x.cust.length-s.1) (0,v0) [] DI (by simp[wh]) DI ?_);rintro⟨k,v⟩ hk;simp only at hk ⊢;refine DQ ?_;refine za (zv rfl (λhc=>?_) (λhc=>?_))
 ·simp at hc;have hsat:=Zao (wh f k) (f k) (Zjc f k) (hf k);refine zh (za (zj (DQ ?_)));refine zb ?_;refine λhsuf=>((h k hc _ (hT _)).mono ?_).v
  rintro _ _ ⟨rfl,rfl⟩;refine⟨_,_,rfl,zG hsuf ?_⟩;refine λhsuf=>((hsat _).mono ?_).v
  rintro _ _ ⟨rfl,rfl⟩;refine⟨_,_,rfl,zG hsuf ?_⟩;refine zb ?_;exact zq (k+1,v) [] hc DL (by simp[zu k (by omega)];rfl) rfl DI
 ·simp at hc;obtain rfl:k=x.cust.length:=DH
  refine zx (DQ ?_);exact DR hd
abbrev Zc(x:Inst)(pa pb ch:PV):List PV:=[I x.days,I x.veh,I x.cap,I x.len,L x.cust,L x.dist,pa,pb,ch]
theorem ZdI{S:Store}{id ver:Nat}(x:Inst)(pa pb ch:PV)(k:Nat){c:Cust}(hS:S id=.cells ver 182 (Zc x pa pb ch))(hx:x.cust.length<=1048576)(hc:x.cust[k]?=some c)(hp:c.pats.length<=1048576):
  Spec prog 164 [.ptr id ver 0,I k] S (λq S'=>q=I (vS c x.days x.cap)/\S'=S):=by
 have hfo:=Zjb c x.days x.cap hp;have hk:k<x.cust.length:=(Ac.1 hc).1;obtain⟨t,tl,b1,b2,b3,f0,f1⟩:=el 8 rfl x.cust k hk;obtain rfl:t=c:=by rw[hc]at b1;exact(Option.some.inj b1).symm
 refine yi func164 ntmps164 results164 λnx hd=>?_
 have hlt:id<nx:=qE hd hS DI;have x1:∀obs,ext S nx obs id=.cells ver 182 (Zc x pa pb ch):=λobs=>(zB hlt).trans hS
 refine DQ ?_;refine za (zz (some [id]) (Row.pures [0,1,2,3,4,5,6,7,8,9,10,11,12,13,14,15,16,17,18,19] .done) mixed (zV x1 hk f0 f1) ?_);refine zK (hfo) trivial ?_;exact DR hd
theorem Zt2{S:Store}{id ver:Nat}(x:Inst)(pa pb:PV)(ch:List Int)(k:Nat){c:Cust}{a:Int}(hS:S id=.cells ver 182 (Zc x pa pb (L ch)))(hx:x.cust.length<=1048576)(hc:x.cust[k]?=some c)(hp:c.pats.length<=1048576)(ha:ch[k]?=some a):
  Spec prog 172 [.ptr id ver 0,I k] S (λq S'=>q=I (W (a*vS c x.days x.cap))/\S'=S):=by
 have hfo:=λS (h:S id=_)=>ZdI (S:=S) (id:=id) (ver:=ver) x pa pb (L ch) k h hx hc hp
 have hk:k<ch.length:=(Ac.1 ha).1;obtain⟨t,tl,b1,b2,b3,f0⟩:=zJ rfl ch k hk;obtain rfl:t=a:=by rw[ha]at b1;exact(Option.some.inj b1).symm
 refine yi func172 ntmps172 results172 λnx hd=>?_
 have hlt:id<nx:=qE hd hS DI;have x1:∀obs,ext S nx obs id=.cells ver 182 (Zc x pa pb (L ch)):=λobs=>(zB hlt).trans hS
 refine DQ ?_;refine za (zz (some [id]) (Row.pures [0,1,2,3,4,5,6,7,8] (.alt 9 (Row.pures [10,11] .done) .stop)) mixed (zF x1 hk f0) ?_);refine(Spec.mono (hfo _ (x1 [])) ?_).v;rintro _ _ ⟨rfl,rfl⟩;refine⟨by simp[yH],ju trivial ?_⟩;exact DR hd
def ZL(c:Cust)(n cap:Int):Int:=if c.kind=1 then W (vS c n cap*c.demand) else ZK c n
theorem Zt3{S:Store}{id ver:Nat}(x:Inst)(pa pb ch:PV)(k:Nat){c:Cust}(hS:S id=.cells ver 182 (Zc x pa pb ch))(hx:x.cust.length<=1048576)(hc:x.cust[k]?=some c)(hp:c.pats.length<=1048576):
  Spec prog 166 [.ptr id ver 0,I k] S (λq S'=>q=I (ZL c x.days x.cap)/\S'=S):=by
 have hfo:=λS (h:S id=_)=>ZdI (S:=S) (id:=id) (ver:=ver) x pa pb ch k h hx hc hp
 have hwa:=Zi9 c x.days;have hk:k<x.cust.length:=(Ac.1 hc).1;obtain⟨t,tl,b1,b2,b3,f0,f1⟩:=el 8 rfl x.cust k hk;obtain rfl:t=c:=by rw[hc]at b1;exact(Option.some.inj b1).symm
 refine yi func166 ntmps166 results166 λnx hd=>?_
 have hlt:id<nx:=qE hd hS DI;have x1:∀obs,ext S nx obs id=.cells ver 182 (Zc x pa pb ch):=λobs=>(zB hlt).trans hS
 refine DQ ?_;refine za (ze [] (zV x1 hk f0 f1) ?_);intros
 repeat apply za
 refine zb ?_
 by_cases hk1:t.kind=1
 ·repeat apply za
  refine zn (by simp[hk1]) ?_;refine za (zz (some [id,nx]) (Row.pures [0,1,3,4] (.alt 2 (Row.pures [5,6] .done) .stop)) mixed x1 ?_);refine(Spec.mono (hfo _ (x1 _)) ?_).v;rintro _ _ ⟨rfl,rfl⟩;refine⟨by simp[yH],ju trivial ?_⟩
  trace_state
  exact zg (zi hd DJ (by simp[ZL,hk1,zp]))
 ·repeat apply za
  refine zm (by simp[hk1]) ?_;refine zh (za (zz (some [id,nx]) (Row.pures [0,1,2,3,4,5,6,7] .done) mixed x1 ?_));refine zK (hwa) trivial ?_;exact zg (zi hd DJ (by simp[ZL,hk1,zp]))
open Go Go.Proofs
def JM(price:List Int):Nat->Int
 | 0=>YS price 0
 | k+1=>je (JM price k) (YS price k)
def ZaZ(n:Nat)(cap:Int)(c:Cust)(price:List Int):Int :=
 if c.kind=2 then W (W (vS c n cap*JM price n)+ZaX c n) else W (vS c n cap*JM price n)
def QU(n:Nat)(cap:Int)(c:Cust)(price:List Int):Int :=
 if (c.kind=1\/c.rule=1)/\(qx n cap c price).2=true then Yg c n price (qx n cap c price).1 else ZaZ n cap c price
theorem Zt4{S:Store}{pl:PV}{price:List Int}(c:Cust)(n:Nat)(cap:Int)(hR:RowOf S pl price)(hp:∀z∈price,zP z)(hpl:price.length<=1000)(hm:CustMade c n)(hpc:c.pats.length<=1000)(hn:n<=60)(hcf:CustFits c)(hv:VisOk (qx n cap c price).1):
  Spec prog 170 [.agg (yh c),I n,I cap,pl] S (λq S'=>q=I (QU n cap c price)/\S'=S):=by
 have hfo:=Zjb c n cap DH;have hke:=ZtX c n DH;have hso:=λS (hR:RowOf S pl price)=>Zdd (S:=S) c n cap hR hp hpl hm hpc hn
 have hco:=λS (hR:RowOf S pl price)=>Zc9 (S:=S) c n (qx n cap c price).1 hR hcf hv
 have hpr:=λS (hR:RowOf S pl price) (d:Int)=>Zc6 (S:=S) d hR
 obtain⟨res,hres⟩:∃res,res=QU n cap c price:=⟨_,rfl⟩;rw[<-hres];unfold QU at hres;generalize qx n cap c price=az at *;obtain⟨av,aok⟩:=az;simp only at hres hso hco;have hsame:(c.kind=1\/c.rule=1)->aok=true->res=Yg c n price av:=λh1 h2=>by rw[hres,if_pos ⟨h1,h2⟩]
 have hlow:¬((c.kind=1\/c.rule=1)/\aok=true)->res=ZaZ n cap c price:=λh=>by rw[hres,if_neg h]
 clear hres;unfold ZaZ at hlow;generalize Yg c n price av=cv at *;generalize vS c n cap=fo at *;generalize ZaX c n=ke at *;refine yi func170 ntmps170 results170 λnx hd=>?_
 have hRx:=λobs=>hR.ext hd obs
 refine DQ ?_;intro v0;refine za (qS (nx:=nx) (σ:=Unit) (λ_=>¬((c.kind=1\/c.rule=1)/\aok=true)) (λ_=>[(1,I n),(2,I cap),(3,pl),(4,.ptr nx v0 0)]) (λ_=>S) (λ_=>[.cells v0 87 (yh c)]) ?_ ?_)
 ·by_cases hk:c.kind=1
  ·refine za (ze [(3,17)] (zo hk zN) ?_);refine zn DI ?_;refine DQ ?_;refine λhsuf=>((hso _ (hRx _)).mono ?_).v
   rintro _ _ ⟨rfl,rfl⟩;refine⟨_,_,rfl,zG hsuf ?_⟩;refine DQ ?_;cases aok with
   | true =>
    refine zn DI ?_;refine DQ ?_;refine λhsuf=>((hco _ (hRx _)).mono ?_).v
    rintro _ _ ⟨rfl,rfl⟩;refine⟨_,_,rfl,zG hsuf ?_⟩;exact zg (zi hd DJ (by rw[hsame (.inl hk) rfl];rfl))
   | false =>
    refine zm DI ?_;exact zh (z8 () [] DI DI rfl DI)
  ·by_cases hru:c.rule=1
   ·refine za (ze [(3,17)] (zo hk hru) ?_);refine zn DI ?_;refine DQ ?_;refine λhsuf=>((hso _ (hRx _)).mono ?_).v
    rintro _ _ ⟨rfl,rfl⟩;refine⟨_,_,rfl,zG hsuf ?_⟩;refine DQ ?_;cases aok with
    | true =>
     refine zn DI ?_;refine DQ ?_;refine λhsuf=>((hco _ (hRx _)).mono ?_).v
     rintro _ _ ⟨rfl,rfl⟩;refine⟨_,_,rfl,zG hsuf ?_⟩;exact zg (zi hd DJ (by rw[hsame (.inr hru) rfl];rfl))
    | false =>
     refine zm DI ?_;exact zh (z8 () [] DI DI rfl DI)
   ·refine za (ze [(3,17)] (zo hk hru) ?_);refine zm DI ?_;exact zh (z8 () [] (λh=>h.1.elim hk hru) DI rfl DI)
 ·rintro _ hl;have hr:=hlow hl;refine DQ ?_;refine λhsuf=>((hpr _ (hRx _) 0).mono ?_).v
  rintro _ _ ⟨rfl,rfl⟩;refine⟨_,_,rfl,zG hsuf ?_⟩
  repeat apply za
  refine zb ?_;refine zj (zD (λs:Nat × Nat=>s.1<=n) (λ(k,v)=>[(1,I n),(2,I cap),(3,pl),(4,.ptr nx v 0),(11,I (JM price k)),(38,I n),(39,I k)]) (λ(k,v)=>[.cells v 87 (yh c)]) (λs=>n-s.1) (0,v0) [] DI (by simp[JM]) DI ?_);rintro⟨k,v⟩ hk;simp only at hk ⊢;refine DQ ?_;refine za (zv rfl (λhc=>?_) (λhc=>?_))
  ·simp at hc;refine zh (za (zj (DQ ?_)));refine zb ?_;refine λhsuf=>((hpr _ (hRx _) k).mono ?_).v
   rintro _ _ ⟨rfl,rfl⟩;refine⟨_,_,rfl,zG hsuf ?_⟩;refine zb ?_;exact zq (k+1,v) [] hc DL (by simp[zu k (by omega),JM]) rfl DI
  ·simp at hc;obtain rfl:k=n:=DH
   generalize JM price k=lp at *;refine zx (DQ ?_);refine zr hfo ?_
   repeat apply za
   refine zb ?_
   by_cases hk2:c.kind=2
   ·rw[if_pos hk2]at hr;refine zn (by simp[hk2]) ?_;refine zb ?_;refine zr hke ?_;refine DQ ?_;exact zg (zi hd DJ (by rw[hr];rfl))
   ·rw[if_neg hk2]at hr;refine zm (by simp[hk2]) ?_;refine zh (DQ ?_);exact zg (zi hd DJ (by rw[hr];rfl))
open Go Go.Proofs
theorem Zt5(x:Inst)(a b:List Int)(k:Nat)(hk:k<x.cust.length)(hn:x.cust.length<=1048576)(ha:a.length=x.cust.length+1)(hb:b.length=x.cust.length+1):
  Pure prog 169 [.agg (zy x),.agg [L a,L b],I k] (I (W (a.getD (k+1) 0+b.getD (k+1) 0))):=by
 obtain⟨t,tl,b1,b2,b3,f0⟩:=zJ rfl a (k+1) DH;obtain⟨u,tl2,c1,c2,c3,f1⟩:=zJ rfl b (k+1) DH;have e1:a.getD (k+1) 0=t:=by rw[Aa,b1];rfl
 have e2:b.getD (k+1) 0=u:=by rw[Aa,c1];rfl
 rw[e1,e2];have hka:k+1<a.length:=DH
 have hkb:k+1<b.length:=DH
 have h0:¬(k:Int)<0:=DH
 have h1:¬(x.cust.length:Int)<=k:=DH
 have w1:IntKind.i64.wrap ((k:Int)+1)=((k+1:Nat):Int):=zu k DH;obtain⟨k1,hk1⟩:∃m,m=k+1:=⟨_,rfl⟩;rw[<-hk1]at f0 f1 hka hkb w1;refine zt func169 ntmps169 results169 λS nx hd=>?_
 refine DQ ?_;intro v0 v1
 repeat apply za
 refine ze [(2,9)] (zo h0 h1) ?_;refine zm DI ?_;refine zh (za (zz (some [nx,nx+1]) (Row.pures [0,1,2,3,4,5,6,7,8,9,10,11,12,13] .done) mixed (yE w1 f0 f1 hka hkb) ?_));exact DR hd
def uO(x:Inst)(c:Nat):Nat->Int
 | 0=>arc x 0 c
 | k+1=>if k≠c then je (uO x c k) (arc x k c) else uO x c k
def Y5(x:Inst)(c:Nat):Nat->Int
 | 0=>arc x c 0
 | k+1=>if k≠c then je (Y5 x c k) (arc x c k) else Y5 x c k
def xD(x:Inst):List Int:=(List.range x.cust.length).map λi=>uO x (i+1) (x.cust.length+1)
def JN(x:Inst):List Int:=(List.range x.cust.length).map λi=>Y5 x (i+1) (x.cust.length+1)
theorem Zt6(x:Inst)(k:Nat)(h:k<x.cust.length):(xD x).take (k+1)=(xD x).take k++[uO x (k+1) (x.cust.length+1)]:=by
 rw[AI];congr 1;unfold xD;rw[Ai,Bk h];rfl
theorem Zt7(x:Inst)(k:Nat)(h:k<x.cust.length):(JN x).take (k+1)=(JN x).take k++[Y5 x (k+1) (x.cust.length+1)]:=by
 rw[AI];congr 1;unfold JN;rw[Ai,Bk h];rfl
theorem Zt8(x:Inst)(hn:x.cust.length<=1048576):Pure prog 171 [.agg (zy x)] (.tup [L (xD x),L (JN x)]):=by
 have harc:=wP x;have hA:=Zt6 x;have hB:=Zt7 x;have hAl:(xD x).length=x.cust.length:=by simp[xD]
 have hBl:(JN x).length=x.cust.length:=by simp[JN]
 generalize xD x=A at *;generalize JN x=B at *;refine zt func171 ntmps171 results171 λS nx hd=>?_
 refine DQ ?_;intro v0;refine DQ ?_;refine jg 4 3 1 rfl λv1=>?_
 refine jg 5 3 1 rfl λv2=>?_
 repeat apply za
 refine zb ?_;refine zj (zD (λs:Nat × Nat × Nat × Nat=>s.1<=x.cust.length) (λ(k,v,w1,w2)=>[(1,.ptr nx v 0),(4,.sl (nx+1) w1 1 0 k),(5,.sl (nx+2) w2 1 0 k),(13,I x.cust.length),(14,I k)]) (λ(k,v,w1,w2)=>[.cells v 25 (zy x),.cells w1 3 ((A.take k).flatMap Enc.enc),.cells w2 3 ((B.take k).flatMap Enc.enc)]) (λs=>x.cust.length-s.1) (0,v0,v1,v2) [] DI DI DI ?_);rintro⟨k,v,w1,w2⟩ hk;simp only at hk ⊢;refine DQ ?_;refine za (zv rfl (λhc=>?_) (λhc=>?_))
 ·simp at hc;have wk:IntKind.i64.wrap ((k:Int)+1)=((k+1:Nat):Int):=zu k DH;obtain⟨at_,hat⟩:∃m,m=k+1:=⟨_,rfl⟩;rw[<-hat]at wk;have hA1:=hA k hc;have hB1:=hB k hc;rw[<-hat]at hA1 hB1;refine zh (za (zj (DQ ?_)));refine za (ze [] wk ?_);refine za (zz (some [nx]) (Row.pures [0,1,2,3,4,5,6,7] .done) mixed trivial ?_);refine zK (harc 0 at_) trivial ?_;refine zK (harc at_ 0) trivial ?_;have wn:IntKind.i64.wrap ((x.cust.length:Int)+1)=(x.cust.length:Int)+1:=by rw[AC];omega
  repeat apply za
  refine ze [] wn ?_;refine zj (zD (λs:Nat × Nat=>s.1<=x.cust.length+1) (λ(j,v)=>[(1,.ptr nx v 0),(4,.sl (nx+1) w1 1 0 k),(5,.sl (nx+2) w2 1 0 k),(7,I at_),(8,I (uO x at_ j)),(9,I (Y5 x at_ j)),(13,I x.cust.length),(14,I k),(28,I ((x.cust.length:Int)+1)),(29,I j)]) (λ(j,v)=>[.cells v 25 (zy x),.cells w1 3 ((A.take k).flatMap Enc.enc),.cells w2 3 ((B.take k).flatMap Enc.enc)]) (λs=>x.cust.length+1-s.1) (0,v) [] DI (by simp[uO,Y5]) DI ?_);rintro⟨j,v⟩ hj;simp only at hj ⊢;refine DQ ?_
  by_cases hjn:j<x.cust.length+1
  ·have hji:(j:Int)<(x.cust.length:Int)+1:=DH
   refine za (zn DL ?_);refine zh (za (zj (DQ ?_)));refine DQ ?_
   by_cases hja:j=at_
   ·have wja:IntKind.i64.wrap ((at_:Int)+1)=(at_:Int)+1:=by rw[AC];omega
    refine zm (by simp[hja]) ?_;refine zh (zb ?_);exact zq (j+1,v) [] DL DL (by simp[wja,uO,Y5,hja]) rfl DI
   ·repeat apply za
    refine zn DL ?_;refine DQ ?_;refine zr (harc j at_) ?_;refine zb ?_;refine zr (harc at_ j) ?_;refine zb ?_;exact zq (j+1,v) [] DL DL (by simp[zu j (by omega),uO,Y5,hja]) rfl DI
  ·obtain rfl:j=x.cust.length+1:=DH
   refine za (zm DI ?_);refine zx ?_;have hAk:((A.take k).flatMap Enc.enc).length=k:=by rw[jG];simp;omega
   have hBk:((B.take k).flatMap Enc.enc).length=k:=by rw[jG];simp;omega
   have htA:List.take k ((A.take k).flatMap Enc.enc)=(A.take k).flatMap Enc.enc:=Af (by rw[hAk];exact Ag _);have htB:List.take k ((B.take k).flatMap Enc.enc)=(B.take k).flatMap Enc.enc:=Af (by rw[hBk];exact Ag _);have hAn:(A.take (k+1)).flatMap Enc.enc=(A.take k).flatMap Enc.enc++[I (uO x at_ (x.cust.length+1))]:=by rw[<-hat,hA1,Ar];rfl
   have hBn:(B.take (k+1)).flatMap Enc.enc=(B.take k).flatMap Enc.enc++[I (Y5 x at_ (x.cust.length+1))]:=by rw[<-hat,hB1,Ar];rfl
   refine ze [] (zo htA htB) ?_;refine⟨by omega,by omega,?_⟩;refine zb ?_;exact zq (k+1,v,w1+1,w2+1) [] hc DL (by simp[zu k (by omega)]) rfl (by simp only[hAn,hBn,AH])
 ·simp at hc;obtain rfl:k=x.cust.length:=DH
  rw[show A.take x.cust.length=A from Af DH,show B.take x.cust.length=B from Af DH];refine zx (yb 1 rfl ?_);refine yb 2 rfl ?_;refine za (ze [] (zo hAl hBl) ?_);exact zg (zi hd DJ (by simp[zp,hAl,hBl]))
open Go Go.Proofs
theorem ZdJ{P:Program}{n:Nat}{F:Nat->PV}{S:Store}{o:Oper}{s x:Operand}{t e m id ver et:Nat}{cs l:List PV}{K:PV->Store->Prop}(ho:o.op=.call { callee:=.builtin .copy,args:=#[s,x],argTypes:=#[t,t] })(ht:P.underlying t=some (.slice e))(hz:(P.info? e).map (·.size)=some 1)
  (hs:ev F s=.sl id ver 1 0 m) (hx:ev F x=.lst l.length l) (hid:S id=.cells ver et cs) (hm:cs.length=m) (hm0:0<m)
  (hK:K (I (min l.length m:Nat)) (S.set id (.cells ver et (l.take m++cs.drop (min l.length m))))):PO P qW n o F S K:=by
 intro G hG C w a N st next Q' hnext;have e1:=st.ev s;rw[(hG s (by grind[Op.operands,Call.operands])).trans hs]at e1;have e2:=st.ev x;rw[(hG x (by grind[Op.operands,Call.operands])).trans hx]at e2;have hnd:∀c,o.op≠.defer c:=by intro c hc;rw[ho]at hc;cases hc
 generalize hv:a.eval s=v at e1;generalize hu:a.eval x=u at e2;cases e1 with
 | sl i1 i2 i3 =>
  rcases (i3 ver (by rw[hid];rfl)).2 rfl with ⟨_,q,_,_⟩ | ⟨b,k,ad,dcap,hl,rfl,hq0,_⟩
  ·omega
  obtain⟨rfl,hq1⟩:=hq0 rfl;rcases st.sim.cells id ver et cs hid with ⟨hn,_⟩ | ⟨b',k',c,g1,g2,g3,g4,g5,g6⟩
  ·simp_all
  rw[hl]at g1;cases g1;have main:∀(vs:List Value) (a':Addr) (cap:Nat),u=.slice (some a') l.length cap->vs.length=min l.length m->(∀j v,vs[j]?=some v->w.cell? (a'.add j)=some v)->(∀v∈vs,v.oneCell'=true)->(∀(i:Nat) (p:PV) (v:Value),(l.take m)[i]?=some p->vs[i]?=some v->Rel C S w p v)->o.wpIn (Fe qW) n P a w next Q':=by
   intro vs a' cap hu' hvl hcell hone hrel;have hrun0:=run_copy_row P w t t o.type e b 0 m dcap a' l.length cap c et vs ht hz g2 (by rw[hvl]) hcell DH hone;have hrun:=W3 (P:=P) (a:=a) (w:=w) ho (by rw[hv,hu,hu'];exact hrun0);simp only[C8,AT,AS]at hrun;generalize hw':w.setRow b (vs++c.toList.drop vs.length).toArray=w' at hrun;have hheap:w'.heap[b]?=some (.cells (vs++c.toList.drop vs.length).toArray et (0,0)):=by rw[<-hw'];exact setRow_heap w b c _ et _ g2
   have hgr:w.grownBy w' (some b)/\w.drawn<=w'.drawn:=by
    rw[<-hw'];exact⟨⟨rfl,rfl,rfl,by simp,λj hj hne=>setRow_other w b j _ (λe=>hne (by rw[e]))⟩,Ag _⟩
   have hsize:(vs++c.toList.drop vs.length).toArray.size=k:=DL
   have htl:(l.take m).length=vs.length:=by rw[Ax,hvl];omega
   obtain⟨t1,t2⟩:=st.sim.turn (l:=C.loc id) (ver':=ver) (cs':=l.take m++cs.drop (min l.length m)) hid (Ag _) (λ_=>rfl) (by rw[hl];exact hgr)
    (.inr ⟨b,k,_,hl,.inr (by rw[hl];rfl),hheap,hsize,by rw[Aq,Bn,htl];omega,λi z hi hz=>by
      rw[AE]at hz
      by_cases q1:i<vs.length
      ·rw[Ap q1]at hz;exact hone z (Ab hz)
      ·rw[Aj DH,AQ]at hz;rw[Aq,Bn,htl]at hi;have e9:vs.length+(i-vs.length)=i:=DH
       rw[e9]at hz;exact g5 i z DH (by rw[<-Array.getElem?_toList];exact hz),
     λi p z hp hz=>by
      rw[AE]at hz
      by_cases q1:i<vs.length
      ·rw[Ap q1]at hz;rw[Ap DH]at hp;exact hrel i p z hp hz
      ·rw[Aj DH,AQ]at hz;rw[Aj DH,AQ,htl,<-hvl]at hp;have e9:vs.length+(i-vs.length)=i:=DH
       rw[e9]at hz hp;exact g6 i p z hp (by rw[<-Array.getElem?_toList];exact hz)⟩)
   have hres:goInt vs.length=Value.int .i64 ((min l.length m:Nat):Int):=by rw[hvl];rfl
   exact yT hnd hrun (hnext _ _ _ _ _ hK (by rw[hres];exact .sc _) t1 t2)
  generalize hk:l.length=kk at e2;cases e2 with
  | lst0 =>
   rename_i cap a';have hrun0:(Builtin.copy_ #[t,t] o.type #[a.eval s,a.eval x]).run P w=.ok (goInt 0) w:=by
    rw[hv,hu];cases hq:P.info? e with
    | none=>simp[hq]at hz
    | some i =>
     cases a'<;>simp[Builtin.copy_,run_underlying ht,Builtin.lenOf,Builtin.firstCells,sizeOf,typeInfo,hq,storeCells,loadCells,loadCellsFrom]
   have hrun:=W3 (P:=P) (a:=a) (w:=w) ho hrun0;have eS:S.set id (.cells ver et cs)=S:=by
    funext i
    by_cases hi:i=id
    ·subst hi;grind[q11]
    ·exact q10 _ _ _ _ hi
   simp only[Ah,Nat.zero_min,Dk,DB,AT,eS]at hK;exact yT hnd hrun (hnext _ _ _ _ _ hK (.sc _) st.sim (Step.refl _ _ _))
  | lst1 hn hmx hb hM hs1 h1 h2 =>
   rename_i cap b' o' c' e' fz;subst hk;have hadd:∀j,(⟨b',o',none⟩:Addr).add j=⟨b',o'+j,none⟩:=by intro j;unfold Addr.add;split<;>simp_all
   have hat:∀(j:Nat) (v:Value),((c'.toList.drop o').take (min l.length m))[j]?=some v->j<min l.length m/\c'[o'+j]?=some v:=λj v hj=>by
    rw[By]at hj;split at hj
    ·rename_i hlt;rw[AQ,Array.getElem?_toList]at hj;exact⟨hlt,hj⟩
    ·cases hj
   refine main ((c'.toList.drop o').take (min l.length m)) ⟨b',o',none⟩ cap rfl ?_ ?_ ?_ ?_
   ·rw[Ax,Bn];have e9:c'.toList.length=c'.size:=Array.length_toList
    by_cases hl0:l=[]
    ·subst hl0;simp
    ·have:=hs1 hl0;omega
   ·intro j v hj;obtain⟨q1,q2⟩:=hat j v hj;rw[hadd];simp[World.cell?,hb,q2]
   ·intro v hv';obtain⟨j,hj⟩:=B7 hv';obtain⟨q1,q2⟩:=hat j v hj;exact h1 j v DH q2
   ·intro i p v hp hvi;obtain⟨q1,q2⟩:=hat i v hvi;rw[AJ DH]at hp;exact h2 i p v hp q2
open Go
def xE(id ver id2 v2:Nat)(p:PV):PV :=
 match p with
 | .sl o v sz off k=>if o=id/\v=ver then .sl id2 v2 sz off k else .sl o v sz off k
 | .ptr o v off=>if o=id/\v=ver then .ptr id2 v2 off else .ptr o v off
 | p=>p
def Y6(id ver id2 v2:Nat)(x:Ob):Ob :=
 match x with
 | .cells v e ds=>.cells v e (ds.map (xE id ver id2 v2))
 | x=>x
theorem Zt9{C C':Ctx}{S T:Store}{w:World}{id ver e id2 v2 e2:Nat}{cs cs2:List PV}(hid:S id=.cells ver e cs)(st:Step C S w C' T w)(hn:T id2=.cells v2 e2 cs2)(hl:C'.loc id2=C.loc id)(hlt:id2<C'.next/\v2<C'.clock){p:PV}{u:Value}
  (h:Rel C S w p u):Rel C' T w (xE id ver id2 v2 p) u:=by
 unfold xE;split
 ·split
  ·rename_i hc;obtain⟨rfl,rfl⟩:=hc;cases h with
   | sl h1 h2 h3 =>
    refine .sl h1 hlt λv0 hv0=>?_
    rw[hn]at hv0;cases hv0;refine⟨Ag _,λ_=>?_⟩;rw[hl];exact(h3 _ (by rw[hid];rfl)).2 rfl
  ·exact h.mono st
 ·split
  ·rename_i hc;obtain⟨rfl,rfl⟩:=hc;cases h with
   | ptr h1 h2 h3 =>
    refine .ptr h1 hlt λv0 hv0=>?_
    rw[hn]at hv0;cases hv0;refine⟨Ag _,λ_=>?_⟩;rw[hl];exact(h3 _ (by rw[hid];rfl)).2 rfl
  ·exact h.mono st
 ·exact h.mono st
theorem Yp{P:Program}{r:Rd}{n nx N:Nat}{Q:Exit->(Nat->PV)->Store->Prop}{F:Nat->PV}{S:Store}{obs:List Ob}{c:Code}(j:Nat){ver e:Nat}{cs:List PV}(hj:obs[j]?=some (.cells ver e cs))
  (h:∀v2,PW P r n N c Q (λi=>xE (nx+j) ver (nx+obs.length) v2 (F i)) (ext S nx ((obs.map (Y6 (nx+j) ver (nx+obs.length) v2)).set j .dead++[.cells v2 e (cs.map (xE (nx+j) ver (nx+obs.length) v2))]))):PW P r n N c Q F (ext S nx obs):=by
 intro C w a st;have hjl:j<obs.length:=(Ac.1 hj).1;have h:=h C.clock;have hid:ext S nx obs (nx+j)=.cells ver e cs:=by rw[zQ,Aa,hj];rfl
 have hdn:ext S nx obs (nx+obs.length)=.dead:=uU;have hTn:ext S nx ((obs.map (Y6 (nx+j) ver (nx+obs.length) C.clock)).set j .dead++[.cells C.clock e (cs.map (xE (nx+j) ver (nx+obs.length) C.clock))]) (nx+obs.length)=.cells C.clock e (cs.map (xE (nx+j) ver (nx+obs.length) C.clock)):=by
  rw[zQ,Aa,Aj DI];simp
 have hTj:ext S nx ((obs.map (Y6 (nx+j) ver (nx+obs.length) C.clock)).set j .dead++[.cells C.clock e (cs.map (xE (nx+j) ver (nx+obs.length) C.clock))]) (nx+j)=.dead:=by
  rw[zQ,Aa,Ap (by simpa using hjl),AW (by simpa using hjl)];rfl
 have hat:∀o,o≠nx+j->o≠nx+obs.length->ext S nx ((obs.map (Y6 (nx+j) ver (nx+obs.length) C.clock)).set j .dead++[.cells C.clock e (cs.map (xE (nx+j) ver (nx+obs.length) C.clock))]) o=ext S nx obs o \/
   ext S nx ((obs.map (Y6 (nx+j) ver (nx+obs.length) C.clock)).set j .dead++[.cells C.clock e (cs.map (xE (nx+j) ver (nx+obs.length) C.clock))]) o=Y6 (nx+j) ver (nx+obs.length) C.clock (ext S nx obs o):=by
  intro o h1 h2
  by_cases ho:o<nx
  ·simp_all[zB]
  ·right;simp only[ext];rw[if_neg ho,if_neg ho,Aa,Aa]
   by_cases hlo:o-nx<obs.length
   ·grind
   ·rw[An DL,An DH];rfl
 generalize hTT:ext S nx ((obs.map (Y6 (nx+j) ver (nx+obs.length) C.clock)).set j .dead++[.cells C.clock e (cs.map (xE (nx+j) ver (nx+obs.length) C.clock))])=T at *;generalize hSS:ext S nx obs=S1 at *;generalize hi2:nx+obs.length=id2 at *;generalize hi1:nx+j=id at *;clear hTT hSS hi2 hi1 hj hjl;have hS:=st.sim;have hne:id≠id2:=by intro e2;rw[e2,hdn]at hid;cases hid
 have hdead:∀o,o≠id2->T o≠.dead->S1 o≠.dead/\o≠id:=by
  intro o h2 hT
  by_cases h1:o=id
  ·simp_all
  ·refine⟨λhs=>?_,h1⟩;rcases hat o h1 h2 with q | q
   ·simp_all
   ·rw[q,hs]at hT;exact hT rfl
 have hver:∀o v,o≠id2->(T o).ver=some v->(S1 o).ver=some v:=by
  intro o v h2 hv
  by_cases h1:o=id
  ·subst h1;rw[hTj]at hv;cases hv
  ·rcases hat o h1 h2 with q | q
   ·simp_all
   ·rw[q]at hv;cases hs:S1 o with
    | dead=>rw[hs]at hv;cases hv
    | cells v0 e0 ds=>rw[hs]at hv;exact hv
    | map v0 es=>rw[hs]at hv;exact hv
 obtain⟨C',hC'⟩:∃C':Ctx,C'={ loc:=λo=>if o=id2 then C.loc id else C.loc o,next:=max C.next (id2+1),clock:=C.clock+1 }:=⟨_,rfl⟩;have hl2:C'.loc id2=C.loc id:=by rw[hC'];simp
 have hlo:∀o,o≠id2->C'.loc o=C.loc o:=λo ho=>by simp_all
 have hnx:C'.next=max C.next (id2+1):=by rw[hC']
 have hck:C'.clock=C.clock+1:=by rw[hC']
 clear hC';have step:Step C S1 w C' T w:=by
  refine⟨rfl,⟨rfl,Ag _⟩,rfl,Ag _,by omega,by omega,λb hlt hM=>⟨rfl,?_⟩,λo v1 hv=>?_⟩
  ·rintro⟨o,k,ho,hl⟩
   by_cases h2:o=id2
   ·subst h2;rw[hl2]at hl;exact hM ⟨id,k,by rw[hid];simp,hl⟩
   ·rw[hlo o h2]at hl;exact hM ⟨o,k,(hdead o h2 ho).1,hl⟩
  ·by_cases h2:o=id2
   ·subst h2;rw[hTn]at hv;cases hv;exact .inl (.inr (Ag _))
   simp_all
 have mv:∀{p:PV} {u:Value},Rel C S1 w p u->Rel C' T w (xE id ver id2 C.clock p) u:=λhr=>Zt9 hid step hTn hl2 ⟨by omega,by omega⟩ hr
 have mvl:∀{ds:List PV} {i:Nat} {p:PV},(ds.map (xE id ver id2 C.clock))[i]?=some p->∃q,ds[i]?=some q/\p=xE id ver id2 C.clock q:=by
  intro ds i p hp;rw[Ai,Ao]at hp;obtain⟨q,h1,h2⟩:=hp;exact⟨q,h1,h2.symm⟩
 have sim:Sim C' T w:=by
  refine⟨λo ho=>?_,λo v hv=>?_,λo o' b k k' h1 h2 h3 h4=>?_,λo v0 e0 ds ho=>?_,λo v0 es ho=>?_⟩
  ·by_cases h2:o=id2
   ·omega
   ·have:=hS.lt o (hdead o h2 ho).1;omega
  ·by_cases h2:o=id2
   ·subst h2;rw[hTn]at hv;cases hv;omega
   ·have:=hS.clk o v (hver o v h2 hv);omega
  ·by_cases q1:o=id2<;>by_cases q2:o'=id2
   ·omega
   ·subst q1;rw[hl2]at h3;rw[hlo o' q2]at h4;obtain⟨d1,d2⟩:=hdead o' q2 h2;exact absurd (hS.dist id o' b k k' (by rw[hid];simp) d1 h3 h4).symm d2
   ·subst q2;rw[hl2]at h4;rw[hlo o q1]at h3;obtain⟨d1,d2⟩:=hdead o q1 h1;exact absurd (hS.dist o id b k k' d1 (by rw[hid];simp) h3 h4) d2
   ·rw[hlo o q1]at h3;rw[hlo o' q2]at h4;exact hS.dist o o' b k k' (hdead o q1 h1).1 (hdead o' q2 h2).1 h3 h4
  ·by_cases h2:o=id2
   ·subst h2;rw[hTn]at ho;cases ho;rw[hl2];rcases hS.cells id ver e cs hid with ⟨q1,q2⟩ | ⟨b,k,cc,g1,g2,g3,g4,g5,g6⟩
    ·exact .inl ⟨q1,by rw[q2];rfl⟩
    grind
   ·have h1:=(hdead o h2 (by rw[ho];simp)).2;rw[hlo o h2];rcases hat o h1 h2 with q | q
    ·rw[q]at ho;rcases hS.cells o v0 e0 ds ho with hn | ⟨b,k,cc,g1,g2,g3,g4,g5,g6⟩
     ·exact .inl hn
     ·exact .inr ⟨b,k,cc,g1,g2,g3,g4,g5,λi p v hp hv=>(g6 i p v hp hv).mono step⟩
    ·rw[q]at ho;cases hs:S1 o with
     | dead=>simp_all
     | map v1 es=>rw[hs]at ho;cases ho
     | cells v1 e1 ds1 =>
      rw[hs]at ho;cases ho;rcases hS.cells o _ _ ds1 hs with ⟨q1,q2⟩ | ⟨b,k,cc,g1,g2,g3,g4,g5,g6⟩
      ·exact .inl ⟨q1,by rw[q2];rfl⟩
      grind
  ·have h2:o≠id2:=by rintro rfl;rw[hTn]at ho;cases ho
   have h1:=(hdead o h2 (by rw[ho];simp)).2;have hs:S1 o=.map v0 es:=by
    rcases hat o h1 h2 with q | q
    ·simp_all
    ·cases hs:S1 o with
     | dead=>simp_all
     | map v1 es1=>rw[q,hs]at ho;exact ho
     | cells v1 e1 ds1=>rw[q,hs]at ho;cases ho
   obtain⟨b,k,ms,cl,g1,g2,g3,g4⟩:=hS.maps o v0 es hs;exact⟨b,k,ms,cl,by simp_all,g2,g3,λi x m he hm=>⟨(g4 i x m he hm).1,(g4 i x m he hm).2.mono step⟩⟩
 refine wpIn_mono (h C' w a ⟨sim,st.size,λi=>mv (st.fr i),r.keep step st.v⟩) ?_;rintro e a' w' ⟨F2,S2,C2,h1,h2,h3,h4⟩;exact⟨F2,S2,C2,h1,h2,h3,step.trans h4⟩
open Go Go.Proofs
def um(f:Nat->Int)(p:Nat):Nat->Option Int
 | 0=>none
 | k+1=>if k=p then um f p k else match um f p k with
  | none=>some (f k)
  | some b=>some (if f k<b then f k else b)
def Zd(f:Nat->Int)(p k:Nat):Int:=(um f p k).getD 0
theorem Zjd(f:Nat->Int)(p:Nat):um f p (p+1)=um f p p:=if_pos rfl
theorem Zje{f:Nat->Int}{p k:Nat}(h:k≠p)(hn:um f p k=none):um f p (k+1)=some (f k):=by
 show (if k=p then _ else _)=_
 rw[if_neg h,hn]
theorem Zjf{f:Nat->Int}{p k:Nat}{b:Int}(h:k≠p)(hn:um f p k=some b):um f p (k+1)=some (if f k<b then f k else b):=by
 show (if k=p then _ else _)=_
 rw[if_neg h,hn]
theorem Zjg{S:Store}(n p:Nat)(hn:n<=2097152)(hp:p<=2097152)(g:FuncId)(ps:List PV)(f:Nat->Int)
  (h:∀k,k<n->k≠p->∀T:Store,(∀o,S o≠.dead->T o=S o)->Spec prog g (ps++[I p,I k]) T (λq S'=>q=I (f k)/\S'=T)) :
  Spec prog 161 [I n,I p,.fn (.func g) ps []] S (λq S'=>q=I (Zd f p n)/\S'=S):=by
 have hsk:=Zjd f p;have hno:=@Zje f p;have hso:=@Zjf f p;unfold Zd;have h0:um f p 0=none:=rfl;generalize um f p=lo at *;refine yi func161 ntmps161 results161 λnx hd=>?_
 have hT:∀obs o,S o≠.dead->ext S nx obs o=S o:=λobs o ho=>by
  apply zB;rcases Bh o nx with q | q
  ·exact q
  ·exact absurd (hd o q) ho
 refine DQ ?_;refine DQ ?_
 repeat apply za
 refine zb ?_;refine zj (zD (λk:Nat=>k<=n) (λk=>[(1,I p),(2,.fn (.func g) ps []),(7,I ((lo k).getD 0)),(8,B (lo k).isSome),(11,I n),(12,I k)]) (λ_=>[]) (λk=>n-k) 0 [] DI (by simp[h0]) DI ?_);rintro k hk;refine DQ ?_;refine za (zv rfl (λhc=>?_) (λhc=>?_))
 ·simp at hc;refine zh (za (zj (DQ ?_)))
  repeat apply za
  refine zb ?_
  by_cases hkp:k=p
  ·subst hkp;refine zn DI ?_;refine zx (zb ?_);exact zq (k+1) [] hc DH (by simp[zu k (by omega),hsk]) rfl DI
  ·have hki:¬(k:Int)=p:=DH
   have hno:=hno hkp;have hso:=@hso k;refine zm DL ?_;refine zh (DQ ?_);refine λhsuf=>((h k hc hkp _ (hT _)).mono ?_).v
   rintro _ _ ⟨rfl,rfl⟩;refine⟨_,_,rfl,zG hsuf ?_⟩;cases hl:lo k with
   | none =>
    have hn1:=hno hl;refine za (ze [(2,24)] zN ?_);refine zn DI ?_;refine zb ?_;refine zb ?_;exact zq (k+1) [] hc DH (by simp[zu k (by omega),hn1]) rfl DI
   | some b =>
    have hs1:=hso hkp hl;refine za (ze [(2,24)] trivial ?_)
    by_cases hlt:f k<b
    ·rw[if_pos hlt]at hs1;refine zn (by simp[hlt]) ?_;refine zb ?_;refine zb ?_;exact zq (k+1) [] hc DH (by simp[zu k (by omega),hs1]) rfl DI
    ·rw[if_neg hlt]at hs1;refine zm (by simp[hlt]) ?_;refine zh (zb ?_);exact zq (k+1) [] hc DH (by simp[zu k (by omega),hs1]) rfl DI
 ·simp at hc;obtain rfl:k=n:=DH
  refine zx (DQ ?_);exact DR hd
abbrev QV(x:Inst)(s:PV):List PV:=[I x.days,I x.veh,I x.cap,I x.len,L x.cust,L x.dist,s]
theorem Zua{S:Store}{id ver:Nat}(x:Inst)(s:PV)(b a:Nat)(hS:S id=.cells ver 223 (QV x s)):
  Spec prog 162 [.ptr id ver 0,I b,I a] S (λq S'=>q=I (arc x a b)/\S'=S):=by
 have harc:=wP x a b;refine yi func162 ntmps162 results162 λnx hd=>?_
 have hlt:id<nx:=qE hd hS DI;have x1:∀obs,ext S nx obs id=.cells ver 223 (QV x s):=λobs=>(zB hlt).trans hS
 refine DQ ?_;refine za (ze [] x1 ?_);refine qm [] harc x1 ?_;exact DR hd
theorem Zub{S:Store}{id ver ib w:Nat}(x:Inst)(l:List Int)(a b:Nat){z:Int}(hS:S id=.cells ver 223 (QV x (.sl ib w 1 0 l.length)))(hB:S ib=.cells w 3 (l.flatMap Enc.enc))(hb:l[b]?=some z):
  Spec prog 163 [.ptr id ver 0,I a,I b] S (λq S'=>q=I (W (arc x a b-z))/\S'=S):=by
 have harc:=wP x a b;have hk:b<l.length:=(Ac.1 hb).1;obtain⟨t,tl,b1,b2,b3,f0⟩:=zJ rfl l b hk;obtain rfl:t=z:=by rw[hb]at b1;exact(Option.some.inj b1).symm
 refine yi func163 ntmps163 results163 λnx hd=>?_
 have hlt:id<nx:=qE hd hS DI;have hlt2:ib<nx:=qE hd hB DI;have x1:∀obs,ext S nx obs id=.cells ver 223 (QV x (.sl ib w 1 0 l.length)):=λobs=>(zB hlt).trans hS
 have x2:∀obs,ext S nx obs ib=.cells w 3 (l.flatMap Enc.enc):=λobs=>(zB hlt2).trans hB
 refine DQ ?_;refine za (zz (some [id,ib]) (Row.pures [0,1,2,3,4,5,6,7,8,9,10,11,12,13,14,15] .done) mixed (zV x1 x2 f0 hk) ?_);refine zK (harc) (zV x1 x2 f0 hk) ?_;exact DR hd
theorem Za0(x:Inst)(hx:x.cust.length<=1048576):Pure prog 119 [.agg (zy x)] (I ((x.cust.length+1:Nat):Int)):=by
 have w1:IntKind.i64.wrap ((x.cust.length:Int)+1)=(x.cust.length:Int)+1:=by rw[AC];omega
 refine zt func119 ntmps119 results119 λS nx hd=>?_
 refine DQ ?_;intro v0;refine za (ze [] w1 ?_);exact zg (zi hd DJ (by simp[zp]))
open Go Go.Proofs
@[simp] theorem ZyV(a b c d:Nat)(v:Value):xE a b c d (.sc v)=.sc v:=rfl
@[simp] theorem ZyW(a b c d:Nat)(k:Nat)(l:List PV):xE a b c d (.lst k l)=.lst k l:=rfl
@[simp] theorem ZyX(a b c d:Nat)(l:List PV):xE a b c d (.agg l)=.agg l:=rfl
@[simp] theorem ZyY(a b c d o v sz off k:Nat):xE a b c d (.sl o v sz off k)=if o=a/\v=b then .sl c d sz off k else .sl o v sz off k:=rfl
@[simp] theorem ZyZ(a b c d o v off:Nat):xE a b c d (.ptr o v off)=if o=a/\v=b then .ptr c d off else .ptr o v off:=rfl
@[simp] theorem Zy0(a b c d v e:Nat)(l:List PV):Y6 a b c d (.cells v e l)=.cells v e (l.map (xE a b c d)):=rfl
@[simp] theorem Zy1(a b c d:Nat):Y6 a b c d .dead=.dead:=rfl
theorem ZdK(n:Nat):yS n (.int .i64 0)=List.replicate n (I 0):=by apply A6<;>simp_all[yS,Nat.mod_one]
theorem Zjh{S:Store}{nx:Nat}{obs:List Ob}(hd:zW nx S){j k:Nat}{x y:Ob}(hj:obs[j]?=some x)(hk:obs[k]?=some y)(o:Nat):((S.set (nx+j) x).set (nx+k) y) o=ext S nx obs o\/((S.set (nx+j) x).set (nx+k) y) o=.dead:=by grind[q11,zQ,q10,Qj]
theorem Zuc{S:Store}{nx:Nat}(hd:zW nx S)(x:Inst)(hx:x.cust.length<=1048576):
  Spec prog 160 [.agg (zy x)] S (λq S'=>∃v w,q=.agg [.sl (nx+4) v 1 0 (x.cust.length+1),.sl (nx+5) w 1 0 (x.cust.length+1)] /\
   S'=(S.set (nx+4) (.cells v 3 (List.replicate (x.cust.length+1) (I 0)))).set (nx+5) (.cells w 3 (List.replicate (x.cust.length+1) (I 0)))):=by
 have hpl:=Za0 x hx;obtain⟨n,hn⟩:∃n,n=x.cust.length+1:=⟨_,rfl⟩;rw[<-hn]at hpl ⊢;have hn1:n<=1048577:=DH
 have hzr:=ZdK n;refine ut hd func160 ntmps160 results160 ?_;refine DQ ?_;intro v0 v1;refine DQ ?_;refine zr hpl ?_;refine za (zz (some []) (Row.pures [0,2] (.alt 1 (.alt 3 (Row.pures [4] (.alt 5 (.done) .stop)) .stop) (.alt 3 (.alt 1 (Row.pures [4] (.alt 5 (.done) .stop)) .stop) .stop))) mixed trivial ?_);have hk:(n:Int)<=140737488355328/\n*8<=281474976710656:=DH
 refine⟨⟨hk,λv=>⟨hk,λw=>?_⟩⟩,⟨hk,λv=>⟨hk,λw=>?_⟩⟩⟩
 ·refine Yp 2 rfl λa=>?_
  refine Yp 3 rfl λb=>?_
  exact zg ⟨_,_,by simp;rfl,⟨a,b,by simp[zp],rfl⟩,λo=>Zjh (j:=4) (k:=5) hd (by simp[hzr]) (by simp[hzr]) o⟩
 ·refine Yp 3 rfl λa=>?_
  refine Yp 2 rfl λb=>?_
  exact zg ⟨_,_,by simp;rfl,⟨a,b,by simp[zp],rfl⟩,λo=>Zjh (j:=4) (k:=5) hd (by simp[hzr]) (by simp[hzr]) o⟩
theorem Zud{S:Store}{nx:Nat}{obs:List Ob}(x:Inst)(hx:x.cust.length<=1048576):
  Spec prog 160 [.agg (zy x)] (ext S nx obs) (λq S'=>∃v w,q=.agg [.sl (nx+(obs.length+4)) v 1 0 (x.cust.length+1),.sl (nx+(obs.length+5)) w 1 0 (x.cust.length+1)] /\
   S'=ext S nx (obs++[.dead,.dead,.dead,.dead,.cells v 3 (List.replicate (x.cust.length+1) (I 0)),.cells w 3 (List.replicate (x.cust.length+1) (I 0))])):=by
 refine(Zuc jF x hx).mono ?_;rintro _ _ ⟨v,w,rfl,rfl⟩;refine⟨v,w,by rw[Nat.add_assoc,Nat.add_assoc],?_⟩;rw[Xb 4];have e2:=qG (S:=S) (nx:=nx) (obs:=obs++List.replicate 4 .dead++[.cells v 3 (List.replicate (x.cust.length+1) (I 0))]) (.cells w 3 (List.replicate (x.cust.length+1) (I 0)));rw[show nx+obs.length+5=nx+(obs++List.replicate 4 Ob.dead++[Ob.cells v 3 (List.replicate (x.cust.length+1) (I 0))]).length by simp;omega,e2];simp[List.replicate]
def xN(x:Inst)(l:List Int):List Int:=(List.range (x.cust.length+1)).map λb:Nat=>min (max (l.getD b 0) 0) (Zd (λa=>arc x a b) b (x.cust.length+1))
def xl(x:Inst)(i:List Int):List Int:=(List.range (x.cust.length+1)).map λa:Nat=>Zd (λb=>W (arc x a b-i.getD b 0)) a (x.cust.length+1)
theorem Za1(x:Inst)(l:List Int):(xN x l).length=x.cust.length+1:=by simp[xN]
theorem ZdL(x:Inst)(i:List Int):(xl x i).length=x.cust.length+1:=by simp[xl]
theorem Zue{f:Nat->Int}{p:Nat}{lo hi:Int}(h0:lo<=0)(h1:0<=hi)(h:∀k:Nat,lo<=f k/\f k<=hi)(n:Nat):lo<=Zd f p n/\Zd f p n<=hi:=by
 have:∀n,∀b,um f p n=some b->lo<=b/\b<=hi:=by
  intro n
  induction n with
  | zero=>intro b hb;cases hb
  | succ n ih =>
   intro b hb
   by_cases hp:n=p
   ·subst hp;rw[Zjd]at hb;exact ih b hb
   ·cases ho:um f p n with
    | none=>rw[Zje hp ho]at hb;cases hb;exact h n
    | some c =>
     rw[Zjf hp ho]at hb;cases hb;split
     ·exact h n
     ·exact ih c ho
 unfold Zd;cases e:um f p n with
 | none=>exact⟨h0,h1⟩
 | some b=>exact this n b e
theorem ZdM(cs:List PV)(k:Nat)(v:PV)(h:k<cs.length):ye cs k [v]=cs.set k v:=by
 unfold ye;rw[AF,if_pos h];simp
theorem Zji{l m:List Int}{k:Nat}{z:Int}(hk:k<m.length)(hl:l.length=m.length)(h:m[k]?=some z):ye ((m.take k++l.drop k).flatMap Enc.enc) k [I z]=(m.take (k+1)++l.drop (k+1)).flatMap Enc.enc:=by
 have e:∀l:List Int,l.flatMap Enc.enc=l.map I:=λl=>by
  induction l with
  | nil=>rfl
  | cons a l ih=>rw[Az,ih];rfl
 rw[ZdM _ _ _ (by rw[e];simp;omega),e,e,<-List.map_set];congr 1;rw[AI,h,BB _ _ DL,Ax,Bf DH,Bp,List.append_assoc];congr 1;rw[AM DH];rfl
theorem Zjj(x:Inst)(l:List Int)(hx:x.cust.length<=1048576)(hl:l.length=x.cust.length+1):Pure prog 120 [.agg (zy x),L l] (.agg [L (xl x (xN x l)),L (xN x l)]):=by
 have hpl:=Za0 x hx;have hz:=λ(S:Store) nx obs=>Zud (S:=S) (nx:=nx) (obs:=obs) x hx
 have hIl:=Za1 x l;have hIa:∀k,k<x.cust.length+1->(xN x l)[k]?=some (min (max (l.getD k 0) 0) (Zd (λa=>arc x a k) k (x.cust.length+1))):=λk hk=>by unfold xN;rw[Ai,Bk hk];rfl
 generalize xN x l=i at *;have hOl:=ZdL x i;have hOa:∀k,k<x.cust.length+1->(xl x i)[k]?=some (Zd (λb=>W (arc x k b-i.getD b 0)) k (x.cust.length+1)):=λk hk=>by unfold xl;rw[Ai,Bk hk];rfl
 generalize xl x i=o at *;obtain⟨n,hn⟩:∃n,n=x.cust.length+1:=⟨_,rfl⟩;rw[<-hn]at hpl hz hl hIl hIa hOl hOa;have hn1:n<=1048577:=DH
 have hfl:∀l:List Int,l.flatMap Enc.enc=l.map I:=λl=>by
  induction l with
  | nil=>rfl
  | cons a l ih=>rw[Az,ih];rfl
 have hll:(l.flatMap Enc.enc:List PV).length=n:=by rw[hfl];simpa using hl
 have hLl:L l=.lst (l.flatMap Enc.enc:List PV).length (l.flatMap Enc.enc):=by
  show PV.lst l.length _=_
  rw[hll,hl]
 rw[hLl];obtain⟨M,hM⟩:∃M:Nat->List Int,M=λk=>i.take k++l.drop k:=⟨_,rfl⟩
 have hMz:M 0=l:=by rw[hM];simp
 have hMn:M n=i:=by rw[hM];show i.take n++l.drop n=i;rw[Af DH,Ba DH,AH]
 have hMl:∀k,k<=n->(M k).length=n:=λk hk=>by rw[hM];simp;omega
 have hMa:∀k,k<n->(M k)[k]?=some (l.getD k 0):=λk hk=>by
  rw[hM]
  show (i.take k++l.drop k)[k]?=_
  rw[Aj DL,Ax,Bf DH,Bp,AQ,Bx,Aa,Ae DH];rfl
 have hMs:∀k z,k<n->i[k]?=some z->ye ((M k).flatMap Enc.enc) k [I z]=(M (k+1)).flatMap Enc.enc:=λk z hk hz=>by rw[hM];exact Zji DH DH hz
 clear hM;refine zt func120 ntmps120 results120 λS nx hd=>?_
 refine DQ ?_;intro v0 v1;refine za (zz (some [nx]) (Row.pures [0,2] (.alt 1 (Row.pures [3] (.alt 4 (.alt 5 (Row.pures [6] .done) .stop) .stop)) (.alt 4 (.alt 1 (Row.pures [3] (.alt 5 (Row.pures [6] .done) .stop)) .stop) .stop))) mixed trivial ?_);refine⟨?_,λv2=>?_⟩
 all_goals
  refine((hz S nx _).mono ?_).v;rintro _ _ ⟨vo,vi,rfl,rfl⟩;simp only[Ad,Ah,Nat.reduceAdd,List.cons_append,AT];refine⟨by simp[yH],ju trivial ?_⟩;refine zK (hpl) trivial ?_;intros
 all_goals first
  | (refine Yp 6 rfl λwo=>?_;refine Yp 7 rfl λwi=>?_;refine Yp 8 rfl λwp=>?_)
  | (refine Yp 7 rfl λwo=>?_;refine Yp 8 rfl λwi=>?_;refine Yp 2 rfl λwp=>?_)
 all_goals
  refine DQ ?_;refine λhsuf=>ZdJ (id:=nx+10) (ver:=wi) (e:=3) (l:=l.flatMap Enc.enc) rfl underlying26 DK (m:=n) rfl (by show PV.lst l.length _=_;rw[hll,hl]) (by rw[zQ];rfl) DI DH ?_
  rw[hll,Nat.min_self,Af DH,Ba DI,AH];refine⟨_,_,yc _ DH DI,zG hsuf ?_⟩;refine DQ ?_;intro v3
  repeat apply za
  refine zb ?_;have hM0:l.flatMap Enc.enc=(M 0).flatMap Enc.enc:=by rw[hMz]
  refine zj (zD (λk:Nat=>k<=n) (λk=>[(4,.ptr (nx+1) v1 0),(5,.ptr (nx+11) wp 0),(6,I n),(7,.ptr (nx+12) v3 0),(23,I n),(24,I k)]) (λk=>[.cells v0 25 (zy x),.cells v1 68 [.sc (.slice none 0 0),.sc (.slice none 0 0)],.dead,.dead,.dead,.dead,.dead,.dead,.dead,.cells wo 3 (List.replicate n (I 0)),.cells wi 3 ((M k).flatMap Enc.enc),.cells wp 68 [.sl (nx+9) wo 1 0 n,.sl (nx+10) wi 1 0 n],.cells v3 223 (QV x (.sl (nx+10) wi 1 0 n))]) (λk=>n-k) 0 [] DI DI (by simp[hM0]) ?_);rintro k hk;refine DQ ?_
  by_cases hc:k<n
  ·have hci:(k:Int)<n:=DH
   refine za (zn DL ?_);refine zh (za (zj ?_));have hik:=hIa k hc;have hml:=hMl k hk;have hma:=hMa k hc;have hms:=λz h=>hMs k z hc h
   have hle:=λ(T0:Store) (h0:T0 (nx+12)=.cells v3 223 (QV x (.sl (nx+10) wi 1 0 n)))=>Zjg (S:=T0) n k DH DH 162 [.ptr (nx+12) v3 0] (λa=>arc x a k) (λa _ _ T hT=>Zua x (.sl (nx+10) wi 1 0 n) k a (by rw[hT _ (by rw[h0];simp),h0]))
   have hcl:=Xy (l.getD k 0) 0 (Zd (λa=>arc x a k) k n);generalize Zd (λa=>arc x a k) k n=lv at *;generalize l.getD k 0=t at *;generalize min (max t 0) lv=z at *;have hms:=hms z hik;generalize hmk1:M (k+1)=mk1 at *;generalize M k=mk at *;obtain⟨t',tl,b1,b2,b3,f0⟩:=zJ rfl mk k DH;obtain rfl:t'=t:=by rw[hma]at b1;exact(Option.some.inj b1).symm
   have hkm:k<mk.length:=DH
   refine DQ ?_;refine zz (some [nx+11]) (Row.pures [0,1,2,3,4,5,6,8,9,10,11] (.alt 7 (.alt 12 (Row.pures [13,14] (.alt 15 (.done) .stop)) .stop) (.alt 12 (.alt 7 (Row.pures [13,14] (.alt 15 (.done) .stop)) .stop) .stop))) mixed (zV f0 hkm hc hml) ?_;refine⟨?_,?_⟩
   all_goals
    refine((hle _ (by rw[zQ];rfl)).mono ?_).v;rintro _ _ ⟨rfl,rfl⟩;refine⟨by simp[yH],ju (zV f0 hkm hc hml) ?_⟩;refine zK (hcl) (zV f0 hkm hc hml) ?_;refine⟨by omega,?_⟩;refine zb ?_;exact zq (k+1) [] DH DH (by simp[zu k (by omega)]) rfl (by simp[hms,hmk1])
  ·obtain rfl:k=n:=DH
   refine za (zm DI ?_);refine zx ?_;rw[hMn];obtain⟨U,hU⟩:∃U:Nat->List Int,U=λj=>o.take j++(List.replicate k (0:Int)).drop j:=⟨_,rfl⟩
   have hU0:List.replicate k (I 0)=(U 0).flatMap Enc.enc:=by rw[hU,hfl];simp
   have hUn:U k=o:=by rw[hU];show o.take k++(List.replicate k (0:Int)).drop k=o;rw[Af DH,Ba DI,AH]
   have hUl:∀j,j<=k->(U j).length=k:=λj hj=>by rw[hU];simp;omega
   have hUs:∀j z,j<k->o[j]?=some z->ye ((U j).flatMap Enc.enc) j [I z]=(U (j+1)).flatMap Enc.enc:=λj z hj hz=>by rw[hU];exact Zji DH DL hz
   clear hU
   repeat apply za
   refine zb ?_;refine zj (zD (λj:Nat=>j<=k) (λj=>[(4,.ptr (nx+1) v1 0),(5,.ptr (nx+11) wp 0),(6,I k),(7,.ptr (nx+12) v3 0),(43,I k),(44,I j)]) (λj=>[.cells v0 25 (zy x),.cells v1 68 [.sc (.slice none 0 0),.sc (.slice none 0 0)],.dead,.dead,.dead,.dead,.dead,.dead,.dead,.cells wo 3 ((U j).flatMap Enc.enc),.cells wi 3 (i.flatMap Enc.enc),.cells wp 68 [.sl (nx+9) wo 1 0 k,.sl (nx+10) wi 1 0 k],.cells v3 223 (QV x (.sl (nx+10) wi 1 0 k))]) (λj=>k-j) 0 [] DI DI (by simp[hU0]) ?_);rintro j hj;refine DQ ?_
   by_cases hc:j<k
   ·have hci:(j:Int)<k:=DH
    refine za (zn DL ?_);refine zh (za (zj ?_));have hoj:=hOa j hc;have hul:=hUl j hj;have hus:=λz h=>hUs j z hc h
    have hle:=λ(T0:Store) (h0:T0 (nx+12)=.cells v3 223 (QV x (.sl (nx+10) wi 1 0 k))) (h1:T0 (nx+10)=.cells wi 3 (i.flatMap Enc.enc))=>Zjg (S:=T0) k j DH DH 163 [.ptr (nx+12) v3 0] (λb=>W (arc x j b-i.getD b 0)) (λb hb _ T hT=>Zub x i j b (by rw[hT _ (by rw[h0];simp),h0,hIl]) (by rw[hT _ (by rw[h1];simp),h1]) (by rw[Aa,Ae (by omega)];rfl))
    generalize Zd (λb=>W (arc x j b-i.getD b 0)) j k=lv at *;have hus:=hus lv hoj;generalize hu1:U (j+1)=u1 at *;generalize U j=uj at *;have hkm:j<uj.length:=DH
    have hkl:j<(uj.flatMap Enc.enc:List PV).length:=by rw[hfl];simpa using hkm
    refine DQ ?_;refine zz (some [nx+11]) (Row.pures [0,1,2,3,4,5,6] (.alt 7 (Row.pures [8] (.alt 9 (.done) .stop)) .stop)) mixed (zV hkm hkl hc hul) ?_;refine((hle _ (by rw[zQ];rfl) (by rw[zQ];rfl)).mono ?_).v;rintro _ _ ⟨rfl,rfl⟩;refine⟨by simp[yH],ju (zV hkm hkl hc hul) ?_⟩;refine⟨by omega,?_⟩;refine zb ?_;exact zq (j+1) [] DH DH (by simp[zu j (by omega)]) rfl (by simp[hus,hu1])
   ·obtain rfl:j=k:=DH
    refine za (zm DI ?_);refine zx ?_;rw[hUn];refine yb 9 rfl ?_;refine yb 10 rfl ?_;refine DQ ?_;exact zg (zi hd DJ (by simp[zp,hOl,hIl]))
theorem Zuf(n:Nat)(z:Int):L (List.replicate n z)=.lst n (List.replicate n (I z)):=by
 show PV.lst _ _=_
 rw[BW];congr 1
 induction n with
 | zero=>rfl
 | succ n ih=>rw[BA,Az,ih];rfl
theorem Zug(x:Inst)(hx:x.cust.length<=1048576):Pure prog 77 [.agg (zy x)] (.agg [L (xl x (xN x (List.replicate (x.cust.length+1) 2147483648))),L (xN x (List.replicate (x.cust.length+1) 2147483648))]):=by
 have hpl:=Za0 x hx;have hfit:=Zjj x (List.replicate (x.cust.length+1) 2147483648) hx DI;rw[Zuf]at hfit;generalize xN x (List.replicate (x.cust.length+1) 2147483648)=i at *;generalize xl x i=o at *;obtain⟨n,hn⟩:∃n,n=x.cust.length+1:=⟨_,rfl⟩;rw[<-hn]at hpl hfit;have hn1:n<=1048577:=DH
 have hzr:=ZdK n;have hk0:(n:Int)<=140737488355328/\n*8<=281474976710656:=DH
 refine zt func77 ntmps77 results77 λS nx hd=>?_
 refine DQ ?_;intro v0 v1;refine DQ ?_;refine zr hpl ?_;refine⟨hk0,λv2=>?_⟩
 repeat apply za
 refine zb ?_;have hset:∀k,k<n->ye (List.replicate k (I 2147483648)++List.replicate (n-k) (I 0)) k [I 2147483648]=List.replicate (k+1) (I 2147483648)++List.replicate (n-(k+1)) (I 0):=λk hk=>by
  rw[ZdM _ _ _ DL,BB _ _ DI,BW,Bp,show n-k=(n-(k+1))+1 by omega,BA,A4,CV];simp
 refine zj (zD (λk:Nat=>k<=n) (λk=>[(1,.ptr nx v0 0),(2,.ptr (nx+1) v1 0),(3,.sl (nx+2) v2 1 0 n),(9,I n),(10,I k)]) (λk=>[.cells v0 25 (zy x),.cells v1 68 [.sc (.slice none 0 0),.sc (.slice none 0 0)],.cells v2 3 (List.replicate k (I 2147483648)++List.replicate (n-k) (I 0))]) (λk=>n-k) 0 [] DI DI (by simp[hzr]) ?_);rintro k hk;refine DQ ?_
 by_cases hc:k<n
 ·refine za (zn DL ?_);refine zh (za (zj ?_));have hs:=hset k hc;have hl:(List.replicate k (I 2147483648)++List.replicate (n-k) (I 0)).length=n:=DL
  generalize hc1:List.replicate (k+1) (I 2147483648)++List.replicate (n-(k+1)) (I 0)=c1 at *;generalize List.replicate k (I 2147483648)++List.replicate (n-k) (I 0)=c0 at *;have hkl:k<c0.length:=DH
  refine DQ ?_;refine ze [] (zo hc hkl) ?_;refine⟨by omega,?_⟩;refine zb ?_;exact zq (k+1) [] DH DH (by simp[zu k (by omega)]) rfl (by simp only[hs,hc1,AH])
 ·obtain rfl:k=n:=DH
  refine za (zm DI ?_);refine zx ?_;rw[Bp,List.replicate_zero,AH];refine yb 2 rfl ?_;refine DQ ?_;refine zr hfit ?_;exact DR hd
theorem Zuh(x:Inst)(a b:List Int)(pl:Nat)(d:Int)(hx:x.cust.length<=1048576)(hb:b.length=x.cust.length+1)(hp:pl<x.cust.length+1):
  Pure prog 82 [.agg (zy x),.agg [L a,L b],I pl,I d] (.agg [L (xl x (xN x (b.set pl (W (b.getD pl 0-d))))),L (xN x (b.set pl (W (b.getD pl 0-d))))]):=by
 have hpl:=Za0 x hx;have hfit:=Zjj x (b.set pl (W (b.getD pl 0-d))) hx (by simpa using hb);generalize xN x (b.set pl (W (b.getD pl 0-d)))=i at *;generalize xl x i=o at *;obtain⟨t,tl,b1,b2,b3,f0⟩:=zJ rfl b pl DH;have e1:b.getD pl 0=t:=by rw[Aa,b1];rfl
 rw[e1]at hfit;have hfl:∀l:List Int,l.flatMap Enc.enc=l.map I:=λl=>by
  induction l with
  | nil=>rfl
  | cons a l ih=>rw[Az,ih];rfl
 have hset:ye (b.flatMap Enc.enc) pl [I (W (t-d))]=(b.set pl (W (t-d))).flatMap Enc.enc:=by rw[ZdM _ _ _ (by rw[hfl];simp;omega),hfl,hfl,List.map_set]
 have hsl:(b.set pl (W (t-d))).length=b.length:=BE;have hLs:L (b.set pl (W (t-d)))=.lst b.length ((b.set pl (W (t-d))).flatMap Enc.enc):=by show PV.lst _ _=_;rw[hsl]
 rw[hLs]at hfit;obtain⟨n,hn⟩:∃n,n=x.cust.length+1:=⟨_,rfl⟩;rw[<-hn]at hpl hp hb;have hn1:n<=1048577:=DH
 have hzr:=ZdK n;have hk0:(n:Int)<=140737488355328/\n*8<=281474976710656:=DH
 have hll:(b.flatMap Enc.enc:List PV).length=n:=by rw[hfl];simpa using hb
 have c1:¬(pl:Int)<0:=DH
 have hpb:pl<b.length:=DH
 rw[hb]at hfit;refine zt func82 ntmps82 results82 λS nx hd=>?_
 refine DQ ?_;intro v0 v1 v2;refine DQ ?_;refine zr hpl ?_;refine⟨hk0,λv3=>?_⟩;refine DQ ?_;refine λhsuf=>ZdJ (id:=nx+3) (ver:=v3) (e:=3) (l:=b.flatMap Enc.enc) rfl underlying26 DK (m:=n) rfl (by show PV.lst b.length _=_;rw[hll,hb]) (by rw[zQ];rfl) (by simp[yS]) DH ?_
 rw[hll,Nat.min_self,Af DH,Ba (by simp[yS]),AH];refine⟨_,_,yc _ DH DI,zG hsuf ?_⟩
 repeat apply za
 refine ze [(2,19)] (zo c1 hp) ?_;refine zn DI ?_;refine ze [] (zF f0 hpb hp) ?_;refine⟨by omega,?_⟩;rw[hset];refine yb 3 rfl ?_;refine za (ze [] hb ?_);refine qm [] hfit hb ?_;exact DR hd
open Go Go.Proofs Hp
structure InstK (x:Inst) (n:Nat):Prop where
 a:InstA x n
 kind:∀c∈x.cust,Zr7 c
 start:∀c∈x.cust,c.start<=c.size
end Go.Proofs.YtcocagkbfpgmiaaGreatDoor.Pv
